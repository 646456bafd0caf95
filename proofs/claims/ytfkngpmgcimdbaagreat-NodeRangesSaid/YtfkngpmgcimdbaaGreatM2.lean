/-
  The evaluator: regions that draw their order, calls, loops, contracts with chunks.
-/
import Derived.Scope
import Derived.KernelRfl
import Derived.Test.YtfkngpmgcimdbaaGreatM1
set_option linter.unusedVariables false
set_option linter.unusedSimpArgs false
set_option maxRecDepth 100000
set_option maxHeartbeats 20000000
theorem Go.Proofs.zz:type_of% @Array.getElem?_eq_getElem:=@Array.getElem?_eq_getElem
theorem Go.Proofs.xg:type_of% @List.mem_cons:=@List.mem_cons
theorem Go.Proofs.yF:type_of% @List.getElem?_append_left:=@List.getElem?_append_left
theorem Go.Proofs.y7:type_of% @List.getElem?_append_right:=@List.getElem?_append_right
theorem Go.Proofs.yK:type_of% @List.getElem?_take:=@List.getElem?_take
theorem Go.Proofs.zA:type_of% @List.mem_append_right:=@List.mem_append_right
theorem Go.Proofs.xC:type_of% @Nat.lt_trans:=@Nat.lt_trans
theorem Go.Proofs.yS:type_of% @List.length_eq_zero_iff:=@List.length_eq_zero_iff
theorem Go.Proofs.yL:type_of% @Nat.lt_or_ge:=@Nat.lt_or_ge
theorem Go.Proofs.xh:type_of% @decide_eq_true_eq:=@decide_eq_true_eq
theorem Go.Proofs.xt:type_of% @List.length_append:=@List.length_append
theorem Go.Proofs.x5:type_of% @List.length_nil:=@List.length_nil
theorem Go.Proofs.xG:type_of% @List.mem_of_getElem?:=@List.mem_of_getElem?
theorem Go.Proofs.y8:type_of% @List.map_map:=@List.map_map
theorem Go.Proofs.yM:type_of% @List.mem_append:=@List.mem_append
theorem Go.Proofs.y9:type_of% @List.map_append:=@List.map_append
theorem Go.Proofs.za:type_of% @Bool.and_true:=@Bool.and_true
theorem Go.Proofs.xN:type_of% @Go.IntKind.wrap_i64:=@Go.IntKind.wrap_i64
namespace Go.Proofs
section
variable {Z Y:Prop}
theorem Q23(h:Z:=by
 have hmem:i∈Region.ready .any ops listed:=mem_ready.2 ⟨by
  have hil:i<listed.size:=by omega
  simp[yl,zz hil] at hl ⊢;exact hl,ops[i],zz hi,fun e hee hb=>by
   have hlt:=qgf he i ops[i] (by simp[hi]) e Qa9 hb;exact ih e.on Q8G Q8G⟩
 rw[hr] at hmem;cases hmem):Z:=h
theorem Q2J(h:Z:=by
 refine⟨_,fun i c=>?_,hk⟩;cases i with
 | zero=>simp
 | succ i=>simpa using hs i c):Z:=h
theorem Q2L(h:Z:=by
 refine wp_region_any hm ?_;refine qpz (X:=X) (ρ:=ρ) hG h (fun s ρ a w hk R'=>?_) ⟨R1.defers,R1.size,R1.slot,R1.heap.drew⟩;exact Q4s):Z:=h
theorem Q2Z(h:Z:=by
 cases e:s.e.own with
 | true=>exact(hms (s.i,s.d) (List.mem_append_left _ (partM_mem.2 ⟨s,hs,e,rfl⟩))).trans (hin.at s hs)
 | false=>exact(hrd s.i (qk0 ⟨s,hs,e,rfl⟩)).trans (hin.at s hs)):Z:=h
theorem Q39(h:Z:=by
 constructor
 ·rintro(h|h) ⟨h1,h2⟩
  ·exact h1 h
  ·exact h h2
 ·intro h;rcases Classical.em (j=i) with e|e
  ·exact .inl e
  ·exact .inr fun h2=>h ⟨e,h2⟩):Z:=h
theorem Q3E(h:Z:=by
 obtain⟨c,hc,rfl⟩:=qem hje;rw[xn,qf6 hc];exact hall _ (by simpa using (xe.1 (ho.at_ j c hc)).1)):Z:=h
theorem Q3L(h:Z:=by
 rcases xg.1 hs with rfl|hs
 ·exact hp.1
 ·exact hp.2.at s hs):Z:=h
theorem Q3T(h:Z:=by
 obtain⟨v,hk,hr⟩:=qx4 hG hq;obtain⟨x,hx,hd⟩:=hr X ρ' a' w' R';exact⟨R'.defers,x,hx,ρ',v,s,x,rfl,R'.heap,hd,hk⟩):Z:=h
theorem Q3V(h:Z:=by
 cases drop with
 | false=>exact⟨fun e=>(by cases e),h⟩
 | true=>obtain⟨hs,h⟩:=N.out h;exact⟨fun _=>hs,h⟩):Z:=h
theorem Q3X(h:Z:=by
 obtain⟨i,o,s⟩:=a;cases s with
 | none=>rfl
 | some s=>have:=ha i (filB_iff.1 hs);simp[den1,den0,jeu,this]):Z:=h
theorem Q46(h:Z:=by
 rw[e] at h;have:=xM e;simp only[Option.some.injEq] at h;subst this h;simp):Z:=h
theorem Q4j(h:Z:=by ·rw[getD_set_ne false (fun e=>hji e.symm)];simp[hji]):Z:=h
theorem Q4o(h:Z:=by
 rintro e w' ⟨rfl,hb⟩;exact⟨v,rfl,ρ,AgreeOn.refl _ _,H.frame hb,fun r _=>qa8 hv r⟩):Z:=h
theorem Q4s(h:Z:=by
 obtain⟨t2,h3⟩:=s;obtain⟨h2,hs2,hk⟩:=qeo hk;exact hq _ ρ a w hk (R'.same hs2)):Z:=h
theorem Q4x(h:Z:=by
 simp[yl,zz his] at h0 ⊢;exact h0):Z:=h
theorem Q4y(k:Y)(h:Wr Y->Z:=by
 intro kQ;rw[qam,if_pos Q8G];simp only[cellIn,Nat.sub_zero,xD];rw[xr Q8G];exact kQ.o):Z:=h ⟨k⟩
theorem Q4E(h:Z:=by rw[if_pos hi,masks,qdz os _ i Q9j,yF Q8G]):Z:=h
theorem Q4F(h:Z:=by
 have:=ho.at_ k b hk;rw[hsz];simpa using (xe.1 this).1):Z:=h
theorem Q4G(h:Z:=by
 rcases hex s hmem with e|⟨e,_⟩
 ·exact absurd e hx1
 ·exact e):Z:=h
theorem Q4I(h:Z:=by rwa[show k+(i+1)=k+1+i from by omega] at this):Z:=h
theorem Q4N(h:Z:=by
 simp only[yl,Array.getElem?_replicate];split<;>rfl):Z:=h
theorem Q4O(h:Z:=by
 ·rw[hc] at hc';obtain rfl:c=c':=by simpa using hc'
  exact .inr e):Z:=h
theorem Q4S(h:Z:=by subst hji;simp[yl,yX,his]):Z:=h
theorem Q52(h:Z:=by exact⟨x,hx,hd.more (AgreeOn.refl _ _) fun k hk=>(s.fil k).2 hk⟩):Z:=h
theorem Q91(h:Z:=by simpa using hi):Z:=h
theorem Q95(h:Z:=by cases h):Z:=h
theorem Q99(h:Z:=by simpa using hl):Z:=h
theorem Q9o(h:Z:=by simp[Region.wanted,hg,hyl]):Z:=h
theorem Q9y(h:Z:=by obtain⟨c,hc⟩:=hf;exact⟨c,by simpa using hc⟩):Z:=h
theorem Q9P(h:Z:=by simpa using h):Z:=h
theorem Q9U(h:Z:=by simpa using hk):Z:=h
theorem Qa9(h:Z:=by simpa using hee):Z:=h
theorem Qai(h:Z:=by rw[y7 (nlr _)];simp):Z:=h
end
end Go.Proofs

namespace Go.Proofs.YtfkngpmgcimdbaaGreat.Sx
open Go Go.RowKit
structure Res where
 v:Value
 ms:Mz
 rh:List Nat
def St.after (st:St) (dst:Option Tmp) (v:Value) (ms:Mz):St:=
 ⟨match dst with
  | some d=>st.t.set d (some v)
  | none=>st.t,modH st.h ms⟩
def qdg (st:St) (dst:Option Tmp) (v:Value) (ms:Mz) (K:St->Prop):Prop:=
 match st with
 | ⟨t0,h0⟩=>match dst with
  | some d=>jhx t0 d v fun t=>jgk h0 ms fun h=>K ⟨t,h⟩
  | none=>jgk h0 ms fun h=>K ⟨t0,h⟩
variable {st:St} {dst:Option Tmp} {v:Value} {ms:Mz}
theorem qeh {K:St->Prop} (h:qdg st dst v ms K):K (st.after dst v ms):=by
 obtain⟨t0,h0⟩:=st;cases dst with
 | some d=>exact qnd (K:=fun h=>K ⟨_,h⟩) (qec (K:=fun t=>jgk h0 ms fun h=>K ⟨t,h⟩) h)
 | none=>exact qnd (K:=fun h=>K ⟨_,h⟩) h
def qca:Op->Nat
 | .alloc _ | .box .. | .buildSlice .. | .makeSlice .. | .makeMap .. | .range ..=>1
 | .call _=>4
 | _=>0
abbrev jmb:=Nat->St->List (List Nat×List Nat)->(St->List (List Nat×List Nat)->Prop)->Prop
def jmz (P:Program) (G:Tys) (ops:List Oper) (o:Oper) (ih:jmb):jmb:=fun sl st acc K=>
 match st with
 | ⟨t0,h0⟩=>match jfg h0 sl with
  | some none=>match o.guard with
   | none=>jgd P G o ⟨t0,h0⟩ sl fun v ms rh=>qdg ⟨t0,h0⟩ o.dst v ms fun st'=>je5 (sl+qca o.op) fun sl'=>ih sl' st' ((rh,ms.map (·.1))::acc) K
   | some (j,want)=>match jfg ops j with
    | some oj=>match oj.dst with
     | some d=>jig t0 d fun g=>match g with
      | .bool b=>N (jif b
        (jhx t0 d (.bool true) fun t=>match want with
         | true=>jgd P G o ⟨t,h0⟩ sl fun v ms rh=>qdg ⟨t,h0⟩ o.dst v ms fun st'=>je5 (sl+qca o.op) fun sl'=>ih sl' st' ((rh,ms.map (·.1))::acc) K
         | false=>qdg ⟨t,h0⟩ o.dst undef [] fun st'=>je5 (sl+qca o.op) fun sl'=>ih sl' st' (([],[])::acc) K)
        (jhx t0 d (.bool false) fun t=>match want with
         | false=>jgd P G o ⟨t,h0⟩ sl fun v ms rh=>qdg ⟨t,h0⟩ o.dst v ms fun st'=>je5 (sl+qca o.op) fun sl'=>ih sl' st' ((rh,ms.map (·.1))::acc) K
         | true=>qdg ⟨t,h0⟩ o.dst undef [] fun st'=>je5 (sl+qca o.op) fun sl'=>ih sl' st' (([],[])::acc) K))
      | .tuple _=>qdg ⟨t0,h0⟩ o.dst undef [] fun st'=>je5 (sl+qca o.op) fun sl'=>ih sl' st' (([],[])::acc) K
      | _=>False
     | none=>False
    | none=>False
  | _=>False
noncomputable def wpR (P:Program) (G:Tys) (ops:List Oper) (os:List Oper):jmb:=
 List.rec (motive:=fun _=>jmb) (fun _ st acc K=>K st acc) (fun o _ ih=>jmz P G ops o ih) os
def App0N (cj:Chunk) (g m size bytes:Nat) (z:Value) (slot:Nat) (K:Value->Mz->Prop):Prop:=
 (∃ v,Reads cj g true (m*size) v/\0<m/\m<=9223372036854775807/\m*bytes<=140737488355328/\∀ cap,m<=cap->K (.slice (some ⟨slot,0,some 0⟩) m cap) [(slot,grown ⟨true,0,[]⟩ 0 m size v z cap)])\/(m=0/\K (.slice none 0 0) [])
def jmc (ci:Chunk) (k s l c:Nat) (cj:Chunk) (g m size bytes:Nat) (z:Value) (slot:Nat) (K:Value->Mz->Prop):Prop:=
 ∃ v,Reads cj g true (m*size) v/\flatB v (m*size)=true/\l*size<=ci.n/\l+m<=9223372036854775807/\(l+m)*bytes<=140737488355328/\
  (l+m<=c->∃ d,Writes ci (l*size) (m*size) v d/\K (.slice (some ⟨k,0,some s⟩) (l+m) c) [(k,d)])/\(c<l+m->∀ cap,l+m<=cap->K (.slice (some ⟨slot,0,some 0⟩) (l+m) cap) [(slot,grown ci l m size v z cap)])
def jmd (A B:Prop):Prop:=A\/B
variable {A:Prop}
theorem Bj {B:Prop} (h:A):N (jmd A B):=N.mk (.inl h)
theorem Bx {B:Prop} (h:B):N (jmd A B):=N.mk (.inr h)
def jhe (P:Program) (G:Tys) (o:Oper) (st:St) (slot:Nat) (K:Value->Mz->Prop):Prop:=
 match o.op with
 | .call ⟨.builtin .append,⟨[x,y]⟩,⟨[t,t']⟩⟩=>match Nat.beq t t' with
  | true=>jd3 x st fun p=>jd3 y st fun q=>match q with
   | .slice (some ⟨j,g,some _⟩) m _=>jd2 G t fun _ d=>match d with
    | .slice e=>jd2 G e fun ei _=>match ei.zero with
     | some z=>match qap z&&flatB z ei.size&&Nat.ble 1 ei.size with
      | true=>jgj st.h j fun cj=>match p with
       | .slice none 0 0=>N (App0N cj g m ei.size ei.bytes z slot K)
       | .slice (some ⟨k,0,some s⟩) l c=>jgj st.h k fun ci=>N (jmc ci k s l c cj g m ei.size ei.bytes z slot K)
       | .iface _ _=>N (EffAll P o st K)
       | _=>False
      | false=>False
     | none=>False
    | _=>False
   | .slice (some ⟨_,_,none⟩) _ _=>N (EffAll P o st K)
   | .slice none _ _=>N (EffAll P o st K)
   | .iface _ _=>N (EffAll P o st K)
   | _=>False
  | false=>False
 | .call ⟨.value f,xs,_⟩=>jd3 f st fun fv=>match fv with
  | .func (.func g) ⟨us⟩ ⟨cs⟩=>match us.all jfo&&cs.all jfo with
   | true=>jgm xs.toList st fun vs=>jgn (us++vs++cs) fun l=>N (jhc true P g l st.h slot fun v ms _=>K v ms)
   | false=>False
  | _=>False
 | .range _ _=>N (EffAll P o st K)
 | .next _ _=>N (EffAll P o st K)
 | .convert _ _ (.const (.string _))=>N (EffAll P o st K)
 | .buildSlice _ _ _=>N (jmd (jgd P G o st slot fun v ms _=>K v ms) (EffAll P o st K))
 | _=>jgd P G o st slot fun v ms _=>K v ms
variable {K:Value->Mz->Prop} {P:Program} {o:Oper}
theorem qku {f:Operand} {xs:Array Operand} {ts:Array TypeId} {g:FuncId} {us vs cs:List Value} {R:Value->Mz->Prop} (ho:o.op=.call ⟨.value f,xs,ts⟩) (hf:EvTo f st (.func (.func g) ⟨us⟩ ⟨cs⟩)) (hu:us.all jfo=true) (hc:cs.all jfo=true)
  (hx:All2 (fun x v=>EvTo x st v) xs.toList vs) (h:CallAll P g (us++vs++cs) st.h R) (hK:∀ v ms,R v ms->K v ms):EffAll P o st K:=fun X ρ a w Rl next Q hn=>by
 obtain⟨e1,d1,d2⟩:=(hf.den Rl).caps hu hc
 have d3:=qni Rl xs.toList vs hx (fun x hx u hu=>hu)
 have hk:=h X ρ w _ Rl.heap (qek (qek d1 d3) d2)
 have hrun:(execOp a.eval o).run P w=(callFunc g ⟨us.map (den0 ρ)++xs.toList.map a.eval++cs.map (den0 ρ)⟩).run P w:=Q3F
 unfold Oper.wp
 rw[hrun]
 rcases hk with ⟨x,w',hr,v,ms,ρ',hR,ha,hh,hd⟩|⟨hr,hcl⟩
 ·rw[hr];exact hn v ms ρ' x w' (hK v ms hR) ⟨ha,hh,hd⟩
 ·rw[hr];refine hcl.mono fun e w' ⟨x,he,v,ms,ρ',hR,ha,hh,hd⟩=>?_
  subst he;exact hn v ms ρ' x w' (hK v ms hR) ⟨ha,hh,hd⟩
variable {rh:List Nat}
theorem EffAll.of (h:OKs P o st v ms rh) (hK:K v ms):EffAll P o st K:=fun X ρ a w R next Q hn=>
 h st (fun _ _ _ h=>h) (fun _ _=>rfl) (fun _ _=>rfl) X ρ a w R next Q fun ρ' x w' ha=>hn v ms ρ' x w' hK ha
variable {G:Tys}
theorem qxm {slot:Nat} (hG:jef P G) (hs:st.h[slot]?=some none) (h:jhe P G o st slot K):EffAll P o st K:=by
 unfold jhe at h;split at h
 ·rename_i x y t t' ho;cases hb:Nat.beq t t' with
  | false=>rw[hb] at h;exact h.elim
  | true=>
   rw[hb] at h;obtain rfl:=xM hb;obtain⟨p,hp,h⟩:=qar h;obtain⟨q,hq,h⟩:=qar h;split at h
   ·obtain⟨i,d,h1,h2,h⟩:=qao hG h;split at h
    ·obtain⟨ei,ed,h3,h4,h⟩:=qao hG h;split at h
     ·rename_i z hz;cases hc:qap z&&flatB z ei.size&&Nat.ble 1 ei.size with
      | false=>rw[hc] at h;exact h.elim
      | true=>
       rw[hc] at h;simp only[xo,yE] at hc;obtain⟨cj,hj,h⟩:=qb4 h;split at h
       ·rcases N.out h with ⟨v,hr,hm,h63,hby,hk⟩|⟨rfl,hk⟩
        ·exact qhn ho hp hq h2 h3 hz hc.1.1 hc.1.2 hc.2 hj hr hm h63 hby hs hk
        ·exact qge ho hp hq h2 h3 hk
       ·obtain⟨ci,hi,h⟩:=qb4 h;obtain⟨v,hr,hf,hln,h63,hby,ha,hk⟩:=N.out h;exact qmj ho hp hq h2 h3 hz hc.1.1 hc.1.2 hc.2 hi hln hj hr hf h63 hby hs ha hk
       ·exact N.out h
       ·exact h.elim
     ·exact h.elim
    ·exact h.elim
   ·exact N.out h
   ·exact N.out h
   ·exact N.out h
   ·exact h.elim
 ·rename_i f xs ts ho;obtain⟨v,hv,h⟩:=qar h;split at h
  ·rename_i g us cs;cases hb:us.all jfo&&cs.all jfo with
   | true=>
    rw[hb] at h;simp only[xo] at hb;obtain⟨vs,hx,h⟩:=qei h;have h:=qel (K:=fun l=>N (jhc true P g l st.h slot fun v ms _=>K v ms)) h;rcases h.out with ⟨u,ms,rh,h1,h⟩|⟨_,R,h1,h⟩
    ·exact EffAll.of (qxa ho hv hb.1 hb.2 hx h1) h
    ·exact qku ho hv hb.1 hb.2 hx h1 h
   | false=>rw[hb] at h;exact h.elim
  ·exact h.elim
 ·exact N.out h
 ·exact N.out h
 ·exact N.out h
 ·rcases N.out h with h|h
  ·obtain⟨v,ms,rh,hok,hk⟩:=qia hG hs h;exact EffAll.of hok hk
  ·exact h
 ·obtain⟨v,ms,rh,hok,hk⟩:=qia hG hs h;exact EffAll.of hok hk
abbrev jme:=Nat->St->(St->Prop)->Prop
def jm0 (P:Program) (G:Tys) (ops:List Oper) (o:Oper) (ih:jme):jme:=fun sl st K=>
 match st with
 | ⟨t0,h0⟩=>match jfg h0 sl with
  | some none=>match o.guard with
   | none=>jhe P G o ⟨t0,h0⟩ sl fun v ms=>qdg ⟨t0,h0⟩ o.dst v ms fun st'=>je5 (sl+qca o.op) fun sl'=>ih sl' st' K
   | some (j,want)=>match jfg ops j with
    | some oj=>match oj.dst with
     | some d=>jig t0 d fun g=>match g with
      | .bool b=>N (jif b
        (jhx t0 d (.bool true) fun t=>match want with
         | true=>jhe P G o ⟨t,h0⟩ sl fun v ms=>qdg ⟨t,h0⟩ o.dst v ms fun st'=>je5 (sl+qca o.op) fun sl'=>ih sl' st' K
         | false=>qdg ⟨t,h0⟩ o.dst undef [] fun st'=>je5 (sl+qca o.op) fun sl'=>ih sl' st' K)
        (jhx t0 d (.bool false) fun t=>match want with
         | false=>jhe P G o ⟨t,h0⟩ sl fun v ms=>qdg ⟨t,h0⟩ o.dst v ms fun st'=>je5 (sl+qca o.op) fun sl'=>ih sl' st' K
         | true=>qdg ⟨t,h0⟩ o.dst undef [] fun st'=>je5 (sl+qca o.op) fun sl'=>ih sl' st' K))
      | .tuple _=>qdg ⟨t0,h0⟩ o.dst undef [] fun st'=>je5 (sl+qca o.op) fun sl'=>ih sl' st' K
      | _=>False
     | none=>False
    | none=>False
  | _=>False
noncomputable def wpQ (P:Program) (G:Tys) (ops:List Oper) (os:List Oper):jme:=
 List.rec (motive:=fun _=>jme) (fun _ st K=>K st) (fun o _ ih=>jm0 P G ops o ih) os
def OpRes (P:Program) (ops:List Oper) (o:Oper) (st:St) (r:Res):Prop:=
 match o.guard with
 | none=>OKs P o st r.v r.ms r.rh
 | some (j,want)=>∃ oj d g,ops[j]?=some oj/\oj.dst=some d/\st.t[d]?=some (some g)/\((∃ b,g=.bool b/\(b=want->OKs P o st r.v r.ms r.rh)/\(b≠want->r=⟨undef,[],[]⟩))\/((∃ us,g=.tuple us)/\r=⟨undef,[],[]⟩))
def Trace (P:Program) (ops:List Oper):List Oper->St->List Res->St->Prop
 | [],st,rs,st'=>rs=[]/\st'=st
 | o::os,st,rs,st'=>∃ r rs',rs=r::rs'/\OpRes P ops o st r/\Trace P ops os (st.after o.dst r.v r.ms) rs' st'
def feet (rs:List Res):List (List Nat×List Nat):=rs.map fun r=>(r.rh,r.ms.map (·.1))
theorem qha {l:List (Option Value)} {d:Nat} (h:l[d]?=some (some v)):l.set d (some v)=l:=by
 apply yg;intro i;by_cases e:d=i
 ·subst e;rw[xx (xe.1 h).1,h]
 ·rw[xu e]
theorem qnk {P:Program} {G:Tys} {ops:List Oper} (hG:jef P G) {K:St->List (List Nat×List Nat)->Prop}:∀ {os:List Oper} {sl:Nat} {st:St} {acc:List (List Nat×List Nat)},wpR P G ops os sl st acc K->
  ∃ rs st',Trace P ops os st rs st'/\K st' ((feet rs).reverse++acc)
 | [],sl,st,acc,h=>⟨[],st,⟨rfl,rfl⟩,h⟩
 | o::os,sl,⟨t0,h0⟩,acc,h=>by
  have h:jmz P G ops o (wpR P G ops os) sl ⟨t0,h0⟩ acc K:=h;unfold jmz at h;simp only at h;rw[qbw] at h;split at h
  ·rename_i hs;have run:∀ {st0:St},st0=⟨t0,h0⟩->(jgd P G o st0 sl fun v ms rh=>qdg st0 o.dst v ms fun st'=>je5 (sl+qca o.op) fun sl'=>wpR P G ops os sl' st' ((rh,ms.map (·.1))::acc) K)->
     ∃ r rs st',OKs P o ⟨t0,h0⟩ r.v r.ms r.rh/\Trace P ops os (St.after ⟨t0,h0⟩ o.dst r.v r.ms) rs st'/\K st' ((feet (r::rs)).reverse++acc):=fun {st0} e h1=>by
    subst e
    obtain⟨v,ms,rh,hok,h2⟩:=qia hG hs h1
    obtain⟨rs,st',ht,hk⟩:=qnk hG (qci (K:=fun sl'=>wpR P G ops os sl' _ _ K) (qeh h2))
    exact⟨⟨v,ms,rh⟩,rs,st',hok,ht,by simpa[feet] using hk⟩
   have skip:∀ {st0:St},st0=⟨t0,h0⟩->(qdg st0 o.dst undef [] fun st'=>je5 (sl+qca o.op) fun sl'=>wpR P G ops os sl' st' (([],[])::acc) K)->
     ∃ rs st',Trace P ops os (St.after ⟨t0,h0⟩ o.dst undef []) rs st'/\K st' ((feet (⟨undef,[],[]⟩::rs)).reverse++acc):=fun {st0} e h1=>by
    subst e
    obtain⟨rs,st',ht,hk⟩:=qnk hG (qci (K:=fun sl'=>wpR P G ops os sl' _ _ K) (qeh h1))
    exact⟨rs,st',ht,by simpa[feet] using hk⟩
   split at h
   ·rename_i hg;obtain⟨r,rs,st',hok,ht,hk⟩:=run rfl h;exact⟨r::rs,st',⟨r,rs,rfl,by unfold OpRes;rw[hg];exact hok,ht⟩,hk⟩
   ·rename_i j want hg;rw[qbw] at h;split at h
    ·rename_i oj hj;split at h
     ·rename_i d hd;obtain⟨g,hgv,h⟩:=qeb h;split at h
      ·rename_i b;have h:=h.out;cases b with
       | true=>
        have h:=qec (K:=fun t=>_) (h.1 rfl);rw[qha hgv] at h;cases want with
        | true=>
         obtain⟨r,rs,st',hok,ht,hk⟩:=run rfl h;exact⟨r::rs,st',⟨r,rs,rfl,by unfold OpRes;rw[hg];exact⟨oj,d,_,hj,hd,hgv,.inl ⟨true,rfl,fun _=>hok,fun e=>absurd rfl e⟩⟩,ht⟩,hk⟩
        | false=>
         obtain⟨rs,st',ht,hk⟩:=skip rfl h;exact⟨_::rs,st',⟨⟨undef,[],[]⟩,rs,rfl,by unfold OpRes;rw[hg];exact⟨oj,d,_,hj,hd,hgv,.inl ⟨true,rfl,fun e=>absurd e Q8R,fun _=>rfl⟩⟩,ht⟩,hk⟩
       | false=>
        have h:=qec (K:=fun t=>_) (h.2 rfl);rw[qha hgv] at h;cases want with
        | false=>
         obtain⟨r,rs,st',hok,ht,hk⟩:=run rfl h;exact⟨r::rs,st',⟨r,rs,rfl,by unfold OpRes;rw[hg];exact⟨oj,d,_,hj,hd,hgv,.inl ⟨false,rfl,fun _=>hok,fun e=>absurd rfl e⟩⟩,ht⟩,hk⟩
        | true=>
         obtain⟨rs,st',ht,hk⟩:=skip rfl h;exact⟨_::rs,st',⟨⟨undef,[],[]⟩,rs,rfl,by unfold OpRes;rw[hg];exact⟨oj,d,_,hj,hd,hgv,.inl ⟨false,rfl,fun e=>absurd e Q8R,fun _=>rfl⟩⟩,ht⟩,hk⟩
      ·obtain⟨rs,st',ht,hk⟩:=skip rfl h;exact⟨_::rs,st',⟨⟨undef,[],[]⟩,rs,rfl,by unfold OpRes;rw[hg];exact⟨oj,d,_,hj,hd,hgv,.inr ⟨⟨_,rfl⟩,rfl⟩⟩,ht⟩,hk⟩
      ·exact h.elim
     ·exact h.elim
    ·exact h.elim
  ·exact h.elim
variable {X:Ctx} {ρ:Rz} {a:Act} {w:World}
theorem qfl {ρ':Rz} {w':World} {x:Value} (R:Rel X ρ st a w) (h:After X ρ st v ms ρ' x w'):Rel X ρ' (st.after dst v ms) (a.put dst x) w':=by
 obtain⟨ha,hh,hd⟩:=h;have more:∀ (i:Nat) (u:Value),st.t[i]?=some (some u)->∃ y,a.tmps[i]?=some y/\Den (Fil (modH st.h ms)) ρ' u y:=fun i u hi=>by
  obtain⟨y,hy,hyd⟩:=R.slot i u hi;exact⟨y,hy,hyd.more ha (fun _ hF=>hF.mod)⟩
 cases dst with
 | none=>exact⟨R.defers,R.size,more,hh⟩
 | some d=>
  refine⟨R.defers,by simp[Act.put,St.after,R.size],fun i u hi=>?_,hh⟩;simp only[St.after,zk] at hi;simp only[Act.put,yX];by_cases e:d=i
  ·subst e;rw[if_pos rfl] at hi;by_cases hl:d<st.t.length
   ·rw[if_pos hl] at hi;simp only[Option.some.injEq] at hi;subst hi;exact⟨x,by rw[if_pos rfl,if_pos (by rw[R.size];exact hl)],hd⟩
   ·rw[if_neg hl] at hi;cases hi
  ·rw[if_neg e] at hi;obtain⟨y,hy,hyd⟩:=more i u hi;exact⟨y,by rw[if_neg e];exact hy,hyd⟩
theorem OKs.here (h:OKs P o st v ms rh):jhy P o st v ms:=h st (fun _ _ _ h=>h) (fun _ _=>rfl) (fun _ _=>rfl)
variable {Q:Exit->Act->World->Prop} {k:Nat}
theorem q5j {ops:Array Oper} {r:Res} {next:Act->World->Prop} (hk:ops[k]?=some o) (h:OpRes P ops.toList o st r) (R:Rel X ρ st a w)
  (hn:∀ ρ' a' w',Rel X ρ' (st.after o.dst r.v r.ms) a' w'->next a' w'):wpOp P ops Q k next a w:=by
 have go:OKs P o st r.v r.ms r.rh->o.wp P a w next Q:=fun hok=>hok.here X ρ a w R next Q fun ρ' x w' ha=>hn ρ' _ w' (qfl R ha)
 have undef_den:∀ F ρ,Den F ρ undef undef:=fun F ρ r _=>by simp[undef,den]
 unfold wpOp
 rw[hk]
 simp only
 unfold OpRes at h
 cases hg:o.guard with
 | none=>
  rw[hg] at h;have hw:Region.wanted o (yielded ops a.tmps)=true:=by simp[Region.wanted,hg]
  rw[if_pos hw];exact .inl (go h)
 | some jw=>
  obtain⟨j,want⟩:=jw;rw[hg] at h;obtain⟨oj,d,g,hj,hd,hb,h12⟩:=h;obtain⟨y,hy,hyd⟩:=R.slot d _ hb;have hj':ops[j]?=some oj:=by simpa using hj
  have skip:¬ Region.wanted o (yielded ops a.tmps)=true->r=⟨undef,[],[]⟩->(if Region.wanted o (yielded ops a.tmps)=true then o.wp P a w next Q\/(o.asks P a w/\LetsOut Q) else next (a.put o.dst undef) w):=fun hw hr=>by
   rw[if_neg hw];rw[hr] at hn;exact hn ρ _ w (qfl R ⟨AgreeOn.refl _ _,R.heap,undef_den _ _⟩)
  rcases h12 with ⟨b,rfl,h1,h2⟩|⟨⟨us,rfl⟩,hr⟩
  ·have hyb:y=.bool b:=hyd.self.symm;have hyl:yielded ops a.tmps j=some b:=by simp[yielded,hj',hd,hy,hyb]
   by_cases e:b=want
   ·have hw:Region.wanted o (yielded ops a.tmps)=true:=by simp[Region.wanted,hg,hyl,e]
    rw[if_pos hw];exact .inl (go (h1 e))
   ·exact skip (by simp[Region.wanted,hg,hyl,e]) (h2 e)
  ·have hyb:y=.tuple (us.map (den2 ρ)):=hyd.self.symm;have hyl:yielded ops a.tmps j=none:=by simp[yielded,hj',hd,hy,hyb]
   exact skip Q9o hr
theorem qxn {P:Program} {G:Tys} {ops:Array Oper} {Q:Exit->Act->World->Prop} {X:Ctx} (hG:jef P G) {K:St->Prop} (hq:∀ s ρ a w,K s->Rel X ρ s a w->Q .normal a w):∀ (os:List Oper) (sl k:Nat) (st:St),wpQ P G ops.toList os sl st K->(∀ i,i<os.length->ops[k+i]?=os[i]?)->
  ∀ ρ a w,Rel X ρ st a w->wpOps P ops Q (List.range' k os.length) a w
 | [],sl,k,st,h,_,ρ,a,w,R=>hq st ρ a w h R
 | o::os,sl,k,⟨t0,h0⟩,h,hi,ρ,a,w,R=>by
  have h:jm0 P G ops.toList o (wpQ P G ops.toList os) sl ⟨t0,h0⟩ K:=h;rw[xQ,List.range'_succ,wpOps_cons];have hk:ops[k]?=some o:=by simpa using hi 0 Q8R
  have rest:∀ (st':St),(je5 (sl+qca o.op) fun sl'=>wpQ P G ops.toList os sl' st' K)->∀ ρ a w,Rel X ρ st' a w->wpOps P ops Q (List.range' (k+1) os.length) a w:=fun st' h' ρ a w R'=>by
   refine qxn hG hq os _ (k+1) st' (qci (K:=fun sl'=>wpQ P G ops.toList os sl' st' K) h') (fun i hil=>?_) ρ a w R';have:=hi (i+1) (by simpa using hil);rw[show k+1+i=k+(i+1) from by omega,this];simp
  unfold jm0 at h;simp only at h;rw[qbw] at h;split at h
  ·rename_i hs;have go:(jhe P G o ⟨t0,h0⟩ sl fun v ms=>qdg ⟨t0,h0⟩ o.dst v ms fun st'=>je5 (sl+qca o.op) fun sl'=>wpQ P G ops.toList os sl' st' K)->Region.wanted o (yielded ops a.tmps)=true->
     wpOp P ops Q k (fun a w=>wpOps P ops Q (List.range' (k+1) os.length) a w) a w:=fun h1 hw=>by
    unfold wpOp
    rw[hk]
    simp only
    rw[if_pos hw]
    refine .inl (qxm hG hs h1 X ρ a w R _ Q fun v ms ρ' x w' hk' ha=>?_)
    exact rest _ (qeh hk') ρ' _ w' (qfl R ha)
   have undef_den:∀ F ρ,Den F ρ undef undef:=fun F ρ r _=>by simp[undef,den]
   have skip:(qdg ⟨t0,h0⟩ o.dst undef [] fun st'=>je5 (sl+qca o.op) fun sl'=>wpQ P G ops.toList os sl' st' K)->¬ Region.wanted o (yielded ops a.tmps)=true->
     wpOp P ops Q k (fun a w=>wpOps P ops Q (List.range' (k+1) os.length) a w) a w:=fun h1 hw=>by
    unfold wpOp
    rw[hk]
    simp only
    rw[if_neg hw]
    exact rest _ (qeh h1) ρ _ w (qfl R ⟨AgreeOn.refl _ _,R.heap,undef_den _ _⟩)
   split at h
   ·rename_i hg;exact go h (by simp[Region.wanted,hg])
   ·rename_i j want hg;rw[qbw] at h;split at h
    ·rename_i oj hj;split at h
     ·rename_i d hd;obtain⟨g,hgv,h⟩:=qeb h;obtain⟨y,hy,hyd⟩:=R.slot d _ hgv;have hj':ops[j]?=some oj:=by simpa using hj
      split at h
      ·rename_i b;have hyb:y=.bool b:=hyd.self.symm;have hyl:yielded ops a.tmps j=some b:=by simp[yielded,hj',hd,hy,hyb]
       have h:=h.out;cases b with
       | true=>
        have h:=qec (K:=fun t=>_) (h.1 rfl);rw[qha hgv] at h;cases want with
        | true=>exact go h Q9o
        | false=>exact skip h Q9o
       | false=>
        have h:=qec (K:=fun t=>_) (h.2 rfl);rw[qha hgv] at h;cases want with
        | false=>exact go h Q9o
        | true=>exact skip h Q9o
      ·rename_i us;have hyb:y=.tuple (us.map (den2 ρ)):=hyd.self.symm;have hyl:yielded ops a.tmps j=none:=by simp[yielded,hj',hd,hy,hyb]
       exact skip h Q9o
      ·exact h.elim
     ·exact h.elim
    ·exact h.elim
  ·exact h.elim
structure Eff where
 dst:Option Tmp
 v:Value
 ms:Mz
def cur (D:Nat->Bool):Nat->List Eff->St->St
 | _,[],st=>st
 | k,e::es,st=>cur D (k+1) es (match D k with
  | true=>st.after e.dst e.v e.ms
  | false=>st)
def jfs:List Oper->List Res->List Eff
 | o::os,r::rs=>⟨o.dst,r.v,r.ms⟩::jfs os rs
 | _,_=>[]
structure jji {α:Type} (f:St->α) (W:Eff->Prop):Prop where
 keep:∀ (st:St) (e:Eff),¬ W e->f (st.after e.dst e.v e.ms)=f st
 same:∀ (st st':St) (e:Eff),f st=f st'->f (st.after e.dst e.v e.ms)=f (st'.after e.dst e.v e.ms)
theorem qib (i:Nat):jji (fun st:St=>st.t[i]?) (fun e=>e.dst=some i):=by
 refine⟨fun st e h=>?_,fun st st' e h=>?_⟩
 ·obtain⟨d,v,ms⟩:=e;cases d with
  | none=>rfl
  | some d=>
   have:d≠i:=fun e=>h (by rw[e])
   show(st.t.set d (some v))[i]?=_;rw[xu this]
 ·obtain⟨d,v,ms⟩:=e;cases d with
  | none=>exact h
  | some d=>
   show(st.t.set d (some v))[i]?=(st'.t.set d (some v))[i]?;have h:st.t[i]?=st'.t[i]?:=h;by_cases e:d=i
   ·subst e;rw[zk,zk,if_pos rfl,if_pos rfl];by_cases hl:d<st.t.length
    ·have:d<st'.t.length:=by
      rw[xr hl] at h;exact(xe.1 h.symm).1
     rw[if_pos hl,if_pos this]
    ·have:¬ d<st'.t.length:=fun hl'=>by
      rw[xr hl'] at h;exact hl (xe.1 h).1
     rw[if_neg hl,if_neg this]
   ·rw[xu e,xu e,h]
theorem qc7 {i:Nat}:∀ {ms:Mz} {h:Hp},i∉ms.map (·.1)->(modH h ms)[i]?=h[i]?
 | [],_,_=>rfl
 | (j,c)::ms,h,hn=>by
  simp only[xp,xg,not_or] at hn;simp only[modH];rw[qc7 hn.2,xu (fun e=>hn.1 e.symm)]
theorem qic {i:Nat}:∀ {ms:Mz} {h h':Hp},h[i]?=h'[i]?->(modH h ms)[i]?=(modH h' ms)[i]?
 | [],_,_,e=>e
 | (j,c)::ms,h,h',e=>by
  simp only[modH];refine qic ?_;by_cases ej:j=i
  ·subst ej;rw[zk,zk,if_pos rfl,if_pos rfl];by_cases hl:j<h.length
   ·have:j<h'.length:=by
     rw[xr hl] at e;exact(xe.1 e.symm).1
    rw[if_pos hl,if_pos this]
   ·have:¬ j<h'.length:=fun hl'=>by
     rw[xr hl'] at e;exact hl (xe.1 e).1
    rw[if_neg hl,if_neg this]
  ·rw[xu ej,xu ej,e]
theorem qho (i:Nat):jji (fun st:St=>st.h[i]?) (fun e=>i∈e.ms.map (·.1)):=
 ⟨fun st e h=>qc7 h,fun st st' e h=>qic h⟩
theorem qcc {α:Type} {f:St->α} {W:Eff->Prop} (hp:jji f W) {D D':Nat->Bool}:∀ (es:List Eff) (k:Nat) (st st':St),(∀ i e,es[i]?=some e->W e->D (k+i)=D' (k+i))->f st=f st'->f (cur D k es st)=f (cur D' k es st')
 | [],_,_,_,_,h=>h
 | e::es,k,st,st',hd,h=>by
  simp only[cur];refine qcc hp es (k+1) _ _ (fun i e' he hw=>?_) ?_
  ·have:=hd (i+1) e' (by simpa using he) hw;exact Q4I
  ·by_cases hw:W e
   ·have h0:=hd 0 e rfl hw;rw[yu] at h0;rw[h0];cases D' k with
    | true=>exact hp.same _ _ e h
    | false=>exact h
   ·have h1:∀ b:Bool,∀ s:St,f (match b with|true=>s.after e.dst e.v e.ms|false=>s)=f s:=fun b s=>by
     cases b with
     | true=>exact hp.keep _ e hw
     | false=>rfl
    rw[h1,h1,h]
theorem qez {D:Nat->Bool}:∀ (es:List Eff) (k:Nat) (st:St),(∀ i,i<es.length->D (k+i)=false)->cur D k es st=st
 | [],_,_,_=>rfl
 | e::es,k,st,h=>by
  simp only[cur];have:=h 0 Q8R;rw[yu] at this;rw[this];exact qez es (k+1) st fun i hi=>by
   have:=h (i+1) Q91;exact Q4I
theorem qkv {α:Type} {f:St->α} {W:Eff->Prop} (hp:jji f W) {D:Nat->Bool} {k0:Nat} {e0:Eff}:∀ (es:List Eff) (k:Nat) (st:St),k<=k0->es[k0-k]?=some e0->D k0=false->(W e0->∀ i e,es[i]?=some e->k0<k+i->W e->D (k+i)=false)->
  f (cur (fun j=>decide (j=k0)||D j) k es st)=f ((cur D k es st).after e0.dst e0.v e0.ms)
 | [],k,st,hk,he,hd,hw=>by simp at he
 | e::es,k,st,hk,he,hd,hw=>by
  simp only[cur];by_cases hkk:k=k0
  ·subst hkk;rw[Nat.sub_self] at he;simp only[yy,Option.some.injEq] at he;subst he;simp only[decide_true,Bool.true_or,hd];have h1:f (cur (fun j=>decide (j=k)||D j) (k+1) es (st.after e.dst e.v e.ms))=f (cur D (k+1) es (st.after e.dst e.v e.ms)):=
    qcc hp es (k+1) _ _ (fun i e' he' hw'=>by
     have:decide (k+1+i=k)=false:=by simp;omega
     simp only[this,Bool.false_or]) rfl
   rw[h1];by_cases hwe:W e
   ·have hno:∀ i e',es[i]?=some e'->W e'->D (k+1+i)=false:=fun i e' he' hw'=>by
     have:=hw hwe (i+1) e' (by simpa using he') Q8G hw';exact Q4I
    have h2:f (cur D (k+1) es (st.after e.dst e.v e.ms))=f (st.after e.dst e.v e.ms):=
     (qcc hp (D':=fun _=>false) es (k+1) _ _ (fun i e' he' hw'=>hno i e' he' hw') rfl).trans (by rw[qez es (k+1) _ (fun _ _=>rfl)])
    have h3:f (cur D (k+1) es st)=f st:=
     (qcc hp (D':=fun _=>false) es (k+1) _ _ (fun i e' he' hw'=>hno i e' he' hw') rfl).trans (by rw[qez es (k+1) _ (fun _ _=>rfl)])
    rw[h2];exact hp.same _ _ e h3.symm
   ·rw[hp.keep _ e hwe];exact qcc hp es (k+1) _ _ (fun _ _ _ _=>rfl) (hp.keep _ e hwe)
  ·have:decide (k=k0)=false:=by simpa using hkk
   simp only[this,Bool.false_or];exact qkv hp es (k+1) _ Q8G (by
    rw[show k0-k=(k0-(k+1))+1 from by omega] at he;simpa using he) hd (fun hwe i e' he' hlt hw'=>by
     have:=hw hwe (i+1) e' (by simpa using he') Q8G hw';rwa[show k+(i+1)=k+1+i from by omega] at this)
theorem St.ext' {a b:St} (h1:∀ i:Nat,a.t[i]?=b.t[i]?) (h2:∀ i:Nat,a.h[i]?=b.h[i]?):a=b:=by
 obtain⟨t,h⟩:=a;obtain⟨t',h'⟩:=b;have e1:t=t':=yg h1;have e2:h=h':=yg h2;rw[e1,e2]
theorem qpq {P:Program} {ops:List Oper}:∀ {os:List Oper} {st st':St} {rs:List Res},Trace P ops os st rs st'->rs.length=os.length
 | [],_,_,_,h=>by rw[h.1];rfl
 | o::os,_,_,_,h=>by obtain⟨r,rs',rfl,_,h⟩:=h;simp[qpq h]
theorem qnl:∀ {os:List Oper} {rs:List Res} {k:Nat} {o:Oper} {r:Res},os[k]?=some o->rs[k]?=some r->(jfs os rs)[k]?=some ⟨o.dst,r.v,r.ms⟩
 | o'::os,r'::rs,0,o,r,h1,h2=>by simp at h1 h2;subst h1 h2;rfl
 | o'::os,r'::rs,k+1,o,r,h1,h2=>by simpa[jfs] using qnl (os:=os) (rs:=rs) (k:=k) (by simpa using h1) (by simpa using h2)
 | [],_,_,_,_,h1,_=>by simp at h1
 | _::_,[],_,_,_,_,h2=>by simp at h2
theorem qte:∀ {os:List Oper} {rs:List Res},rs.length=os.length->(jfs os rs).length=os.length
 | [],[],_=>rfl
 | o::os,r::rs,h=>by simp[jfs,qte (os:=os) (rs:=rs) Q9P]
 | [],_::_,h=>by simp at h
 | _::_,[],h=>by simp at h
theorem qtf {P:Program} {ops:List Oper}:∀ {os:List Oper} {st st':St} {rs:List Res} {k0:Nat},Trace P ops os st rs st'->∀ k o,os[k]?=some o->∃ r,rs[k]?=some r/\OpRes P ops o (cur (fun j=>decide (j<k0+k)) k0 (jfs os rs) st) r
 | [],_,_,_,_,_,k,o,h=>by simp at h
 | o'::os,st,st',rs,k0,h,k,o,ho=>by
  obtain⟨r,rs',rfl,h1,h2⟩:=h;cases k with
  | zero=>
   simp only[yy,Option.some.injEq] at ho;subst ho;refine⟨r,rfl,?_⟩;rw[qez _ k0 st (fun i _=>by simp)];exact h1
  | succ k=>
   obtain⟨r',hr,hres⟩:=qtf (k0:=k0+1) h2 k o (by simpa using ho);refine⟨r',by simpa using hr,?_⟩;have e:decide (k0<k0+(k+1))=true:=by simp
   simp only[jfs,cur,e];rw[show k0+(k+1)=k0+1+k from by omega];exact hres
theorem qpr {P:Program} {ops:List Oper}:∀ {os:List Oper} {st st':St} {rs:List Res} {k0:Nat},Trace P ops os st rs st'->cur (fun _=>true) k0 (jfs os rs) st=st'
 | [],_,_,_,_,h=>by obtain⟨rfl,rfl⟩:=h;rfl
 | o'::os,st,st',rs,k0,h=>by
  obtain⟨r,rs',rfl,h1,h2⟩:=h;simp only[jfs,cur];exact qpr h2
def qps (x:Operand):List Nat:=
 match x with
 | .tmp t=>[t]
 | _=>[]
def qe0 (ops:List Oper) (o:Oper):List Nat:=
 o.op.operands.toList.flatMap qps++(match o.guard with
  | some (j,_)=>match jfg ops j with
   | some oj=>oj.dst.toList
   | none=>[]
  | none=>[])
def jjx (a b:List Nat):Bool:=a.all fun x=>b.all fun y=>!(Nat.beq x y)
structure jkx where
 rt:List Nat
 wt:List Nat
 rh:List Nat
 wh:List Nat
 m:Nat
def jfj (f g:jkx):Bool:=jjx f.wt g.rt&&jjx f.wt g.wt&&jjx g.wt f.rt&&jjx f.wh g.rh&&jjx f.wh g.wh&&jjx g.wh f.rh
def qhp (o:Oper) (acc:List Nat):Nat:=o.after.toList.foldl (fun s e=>match Region.binds .any e with
 | true=>s ||| 2^e.on ||| (match jfg acc e.on with
  | some m=>m
  | none=>0)
 | false=>s) 0
def qpt (ops:List Oper) (o:Oper) (f:List Nat×List Nat) (acc:List Nat):jkx:=⟨qe0 ops o,o.dst.toList,f.1,f.2,qhp o acc⟩
def jij (ops:List Oper):List Oper->List (List Nat×List Nat)->Nat->List Nat->List (Nat×jkx)->Bool
 | o::os,f::fs,j,acc,prev=>
  let g:=qpt ops o f acc
  prev.all (fun p=>Nat.testBit g.m p.1||jfj p.2 g)&&jij ops os fs (j+1) (acc++[g.m]) (prev++[(j,g)])
 | [],[],_,_,_=>true
 | _,_,_,_,_=>false
def qpu (ops:List Oper) (fs:List (List Nat×List Nat)):Bool:=jij ops ops fs 0 [] []
def masks:List Oper->List Nat->List Nat
 | [],acc=>acc
 | o::os,acc=>masks os (acc++[qhp o acc])
theorem qdz:∀ (os:List Oper) (acc:List Nat) (i:Nat),i<acc.length->(masks os acc)[i]?=acc[i]?
 | [],_,_,_=>rfl
 | o::os,acc,i,h=>by rw[masks,qdz os _ i Q9j,yF h]
theorem qnm {ops:List Oper}:∀ {os:List Oper} {fs:List (List Nat×List Nat)} {j:Nat} {acc:List Nat} {prev:List (Nat×jkx)},jij ops os fs j acc prev=true->acc.length=j->
  ∀ k o f,os[k]?=some o->fs[k]?=some f->∃ m,(masks os acc)[j+k]?=some m/\m=qhp o ((masks os acc).take (j+k))/\
   (∀ p∈prev,Nat.testBit m p.1=true\/jfj p.2 ⟨qe0 ops o,o.dst.toList,f.1,f.2,m⟩=true)/\
   ∀ i o' f',i<k->os[i]?=some o'->fs[i]?=some f'->∃ m',Nat.testBit m (j+i)=true\/jfj ⟨qe0 ops o',o'.dst.toList,f'.1,f'.2,m'⟩ ⟨qe0 ops o,o.dst.toList,f.1,f.2,m⟩=true
 | [],fs,j,acc,prev,h,hl,k,o,f,ho,hf=>by simp at ho
 | o0::os,[],j,acc,prev,h,hl,k,o,f,ho,hf=>by simp at hf
 | o0::os,f0::fs,j,acc,prev,h,hl,k,o,f,ho,hf=>by
  simp only[jij,xo] at h;obtain⟨h1,h2⟩:=h;have hm0:(masks (o0::os) acc)[j]?=some (qhp o0 acc):=by
   rw[masks,qdz os _ j Q9j,y7 Q8G,hl,Nat.sub_self];rfl
  have htake:(masks (o0::os) acc).take j=acc:=by
   apply yg;intro i;rw[yK];by_cases hi:i<j
   ·exact Q4E
   ·rw[if_neg hi,ye Q8G]
  cases k with
  | zero=>
   simp only[yy,Option.some.injEq] at ho hf;subst ho hf;refine⟨qhp o0 acc,by simpa using hm0,by rw[yu,htake],fun p hp=>?_,fun i _ _ hi=>absurd hi Q8G⟩;have:=xU.1 h1 p hp;simpa[qpt] using this
  | succ k=>
   obtain⟨m,g1,g2,g3,g4⟩:=qnm h2 (by simp[hl]) k o f (by simpa using ho) (by simpa using hf);have e:j+1+k=j+(k+1):=by omega
   have em:masks os (acc++[(qpt ops o0 f0 acc).m])=masks (o0::os) acc:=rfl;rw[em,e] at g1 g2;refine⟨m,g1,g2,fun p hp=>g3 p (by simp[hp]),fun i o' f' hi ho' hf'=>?_⟩;cases i with
   | zero=>
    simp only[yy,Option.some.injEq] at ho' hf';subst ho' hf';have:=g3 (j,qpt ops o0 f0 acc) Q8R;exact⟨qhp o0 acc,by simpa[qpt] using this⟩
   | succ i=>
    obtain⟨m',h'⟩:=g4 i o' f' Q8G (by simpa using ho') (by simpa using hf');rw[show j+1+i=j+(i+1) from by omega] at h';exact⟨m',h'⟩
theorem qpv (acc:List Nat) (i:Nat):∀ (es:List Edge) (s:Nat),(es.foldl (fun s e=>match Region.binds .any e with
  | true=>s ||| 2^e.on ||| (match jfg acc e.on with
   | some m=>m
   | none=>0)
  | false=>s) s).testBit i=true->s.testBit i=true\/∃ e∈es,Region.binds .any e=true/\(e.on=i\/∃ m,acc[e.on]?=some m/\m.testBit i=true)
 | [],s,h=>.inl h
 | e::es,s,h=>by
  rw[List.foldl_cons] at h;rcases qpv acc i es _ h with h|⟨e',he,hb,h⟩
  ·cases hb:Region.binds .any e with
   | false=>rw[hb] at h;exact .inl h
   | true=>
    rw[hb] at h;simp only[Nat.testBit_or,yR] at h;rcases h with (h|h)|h
    ·exact .inl h
    ·refine .inr ⟨e,by simp,hb,.inl ?_⟩;rw[Nat.testBit_two_pow] at h;simpa using h
    ·refine .inr ⟨e,by simp,hb,.inr ?_⟩;rw[qbw] at h;cases hm:acc[e.on]? with
     | none=>rw[hm] at h;simp at h
     | some m=>rw[hm] at h;exact⟨m,rfl,h⟩
  ·exact .inr ⟨e',by simp[he],hb,h⟩
variable {i:Nat}
theorem qtg {acc:List Nat} (h:(qhp o acc).testBit i=true):∃ e∈o.after.toList,Region.binds .any e=true/\(e.on=i\/∃ m,acc[e.on]?=some m/\m.testBit i=true):=by
 rcases qpv acc i o.after.toList 0 h with h|h
 ·simp at h
 ·exact h
theorem qb9 {a b:List Nat} (h:jjx a b=true) {x:Nat} (ha:x∈a):x∉b:=fun hb=>by
 have:=xU.1 (xU.1 h x ha) x hb;simp at this
theorem qth {x:Operand} {st₂:St} {u:Value} (h:∀ t∈qps x,st₂.t[t]?=st.t[t]?) (hx:EvTo x st u):EvTo x st₂ u:=by
 cases x with
 | tmp t=>exact(h t (by simp[qps])).trans hx
 | _=>exact hx
theorem OKs.move {st₂:St} (h:OKs P o st v ms rh) (ht:∀ x∈o.op.operands.toList,∀ t∈qps x,st₂.t[t]?=st.t[t]?) (hr:∀ i∈rh,st₂.h[i]?=st.h[i]?) (hm:∀ i∈ms.map (·.1),st₂.h[i]?=st.h[i]?):OKs P o st₂ v ms rh:=
 fun st₃ h1 h2 h3=>h st₃ (fun x hx u hu=>h1 x hx u (qth (ht x hx) hu)) (fun i hi=>(h2 i hi).trans (hr i hi)) (fun m hm'=>(h3 m hm').trans (hm m.1 (xw.2 ⟨m,hm',rfl⟩)))
variable {ops:List Oper}
theorem OpRes.move {st₂:St} {r:Res} (h:OpRes P ops o st r) (ht:∀ t∈qe0 ops o,st₂.t[t]?=st.t[t]?) (hr:∀ i∈r.rh,st₂.h[i]?=st.h[i]?) (hm:∀ i∈r.ms.map (·.1),st₂.h[i]?=st.h[i]?):OpRes P ops o st₂ r:=by
 have hops:∀ x∈o.op.operands.toList,∀ t∈qps x,st₂.t[t]?=st.t[t]?:=fun x hx t htx=>ht t (by
  unfold qe0;exact List.mem_append_left _ (List.mem_flatMap.2 ⟨x,hx,htx⟩))
 unfold OpRes at *;cases hg:o.guard with
 | none=>rw[hg] at h;exact h.move hops hr hm
 | some jw=>
  obtain⟨j,want⟩:=jw;rw[hg] at h;obtain⟨oj,d,g,hj,hd,hb,h12⟩:=h;refine⟨oj,d,g,hj,hd,?_,h12.imp (fun⟨b,e,h1,h2⟩=>⟨b,e,fun e=>(h1 e).move hops hr hm,h2⟩) id⟩;rw[ht d ?_,hb];unfold qe0;apply zA;rw[hg];simp only;rw[qbw,hj];simp[hd]
def qc1:List Oper->Nat->Bool
 | [],_=>true
 | o::os,j=>o.after.toList.all (fun e=>!(Region.binds .any e)||Nat.ble (e.on+1) j)&&qc1 os (j+1)
theorem qgf:∀ {os:List Oper} {j:Nat},qc1 os j=true->∀ k o,os[k]?=some o->∀ e∈o.after.toList,Region.binds .any e=true->e.on<j+k
 | [],_,_,k,o,h,_,_,_=>by simp at h
 | o'::os,j,h,k,o,ho,e,he,hb=>by
  simp only[qc1,xo] at h;cases k with
  | zero=>
   simp only[yy,Option.some.injEq] at ho;subst ho;have:=xU.1 h.1 e he;rw[hb] at this;have:=xO (by simpa using this);omega
  | succ k=>
   have:=qgf h.2 k o (by simpa using ho) e he hb;omega
section
variable {P:Program} {ops:Array Oper} {Q:Exit->Act->World->Prop} {X:Ctx} {st st':St} {rs:List Res}
theorem qkw {D:Nat->Bool} (hcl:∀ (j:Nat) (o:Oper),ops.toList[j]?=some o->D j=true->∀ e∈o.after.toList,Region.binds .any e=true->D e.on=true) (fs:List (List Nat×List Nat)) (hlen:fs.length=ops.toList.length) (hc:qpu ops.toList fs=true) (he:qc1 ops.toList 0=true) :
  ∀ (j:Nat) (o:Oper) (m i:Nat),ops.toList[j]?=some o->(masks ops.toList [])[j]?=some m->m.testBit i=true->(∀ e∈o.after.toList,Region.binds .any e=true->D e.on=true)->D i=true:=by
 intro j
 induction j using Nat.strongRecOn with
 | _ j ih=>
  intro o m i ho hm hb hedges;have hjl:j<fs.length:=by rw[hlen];exact(xe.1 ho).1
  obtain⟨m',g1,g2,_,_⟩:=qnm hc rfl j o fs[j] ho (xr hjl);rw[xn] at g1 g2;rw[hm] at g1;simp only[Option.some.injEq] at g1;subst g1;rw[g2] at hb;obtain⟨e,hee,hbe,h⟩:=qtg hb;have hD:=hedges e hee hbe;rcases h with h|⟨m2,hm2,hb2⟩
  ·rwa[<-h]
  ·have hlt:=qgf he j o ho e hee hbe;rw[xn] at hlt;rw[yK,if_pos hlt] at hm2;have hol:e.on<ops.toList.length:=xC hlt (xe.1 ho).1;exact ih e.on hlt ops.toList[e.on] m2 i (xr hol) hm2 hb2 (hcl e.on _ (xr hol) hD)
theorem q64 (ht:Trace P ops.toList ops.toList st rs st') (hc:qpu ops.toList (feet rs)=true) (he:qc1 ops.toList 0=true) (hq:∀ ρ a w,Rel X ρ st' a w->Q .normal a w) :
  ∀ (fuel:Nat) (S:List Nat) (listed:Array Bool),S.length=fuel->S.Nodup->listed.size=ops.size->(∀ i,i<ops.size->(listed.getD i false=true↔i∉S))->(∀ i∈S,i<ops.size)->
   (∀ (j:Nat) (o:Oper),ops.toList[j]?=some o->listed.getD j false=true->∀ e∈o.after.toList,Region.binds .any e=true->listed.getD e.on false=true)->
   ∀ ρ a w,Rel X ρ (cur (fun j=>listed.getD j false) 0 (jfs ops.toList rs) st) a w->wpAny P .any ops Q fuel listed a w:=by
 have hlen:=qpq ht
 have hfl:(feet rs).length=ops.toList.length:=by simp[feet,hlen]
 have hel:=qte hlen
 have fin:∀ (listed:Array Bool),(∀ i,i<ops.size->listed.getD i false=true)->∀ ρ a w,Rel X ρ (cur (fun j=>listed.getD j false) 0 (jfs ops.toList rs) st) a w->Q .normal a w:=by
  intro listed hall ρ a w R;refine hq ρ a w ?_;have hD:∀ {α:Type} {f:St->α} {W:Eff->Prop},jji f W->f (cur (fun j=>listed.getD j false) 0 (jfs ops.toList rs) st)=f st':=fun hp=>by
   rw[qcc hp (D':=fun _=>true) (jfs ops.toList rs) 0 st st (fun i e hi _=>by
    rw[xn];exact hall i (by have:=(xe.1 hi).1;rw[hel] at this;simpa using this)) rfl,qpr ht]
  rw[<-St.ext' (fun i=>hD (qib i)) (fun i=>hD (qho i))];exact R
 have noready:∀ (listed:Array Bool),listed.size=ops.size->Region.ready .any ops listed=[]->∀ i,i<ops.size->listed.getD i false=true:=by
  intro listed hsz hr i
  induction i using Nat.strongRecOn with
  | _ i ih=>
   intro hi;cases hl:listed.getD i false with
   | true=>rfl
   | false=>
    exfalso;have hi':i<ops.toList.length:=by simpa using hi
    exact Q23
 intro fuel
 induction fuel with
 | zero=>
  intro S listed hS hnd hsz hdS hlt hcl ρ a w R;have hS0:S=[]:=yS.1 hS;subst hS0;have hall:∀ i,i<ops.size->listed.getD i false=true:=fun i hi=>(hdS i hi).2 Q8R
  refine⟨?_,fin listed hall ρ a w R⟩;apply List.eq_nil_iff_forall_not_mem.2;intro j hj;obtain⟨h0,o,ho,_⟩:=mem_ready.1 hj;have hjl:j<ops.size:=(xV.1 ho).1;have:=hall j hjl;have hjs:j<listed.size:=by omega
  simp[yl,zz hjs] at h0 this;rw[h0] at this;cases this
 | succ fuel ih=>
  intro S listed hS hnd hsz hdS hlt hcl ρ a w R;refine⟨fun hr=>fin listed (noready listed hsz hr) ρ a w R,fun i hi=>?_⟩;obtain⟨h0,o,ho,hready⟩:=mem_ready.1 hi;have hil:i<ops.size:=(xV.1 ho).1;have his:i<listed.size:=by omega
  have hol:ops.toList[i]?=some o:=by simpa using ho
  have hDi:listed.getD i false=false:=Q4x;have hiS:i∈S:=by
   rcases Classical.em (i∈S) with h|h
   ·exact h
   ·have:=(hdS i hil).2 h;rw[hDi] at this;cases this
  obtain⟨r,hr,hres⟩:=qtf (k0:=0) ht i o hol;rw[xn] at hres;have hei:=qnl hol hr;have hfi:(feet rs)[i]?=some (r.rh,r.ms.map (·.1)):=by simp[feet,hr]
  obtain⟨m,g1,g2,_,g4⟩:=qnm hc rfl i o _ hol hfi;rw[xn] at g1 g2;have hmi:∀ q,m.testBit q=true->listed.getD q false=true:=fun q hq'=>
   qkw (D:=fun j=>listed.getD j false) hcl (feet rs) hfl hc he i o m q hol g1 hq' (fun e hee hb=>hready e Qa9 hb)
  have indepW:∀ (j:Nat) (e:Eff),(jfs ops.toList rs)[j]?=some e->(listed.getD j false=true↔¬ j<i)->j≠i->
    ∃ oj rj,ops.toList[j]?=some oj/\rs[j]?=some rj/\e=⟨oj.dst,rj.v,rj.ms⟩/\
     (∀ d,oj.dst=some d->d∉qe0 ops.toList o/\o.dst≠some d)/\(∀ q,q∈rj.ms.map (·.1)->q∉r.rh/\q∉r.ms.map (·.1)):=by
   intro j e hje hD hne
   have hjl:j<ops.toList.length:=by have:=(xe.1 hje).1;rwa[hel] at this
   have hjr:j<rs.length:=by omega
   obtain⟨oj,hoj⟩:∃ oj,ops.toList[j]?=some oj:=⟨_,xr hjl⟩
   obtain⟨rj,hrj⟩:∃ rj,rs[j]?=some rj:=⟨_,xr hjr⟩
   have hee:=qnl hoj hrj
   rw[hje] at hee
   simp only[Option.some.injEq] at hee
   refine⟨_,_,hoj,hrj,hee,?_⟩
   have hfj:(feet rs)[j]?=some (rj.rh,rj.ms.map (·.1)):=by simp[feet,hrj]
   rcases yL j i with hji|hji
   ·-- ahead in the text and not yet done: no edge binds
    have hDj:listed.getD j false=false:=by
     cases h:listed.getD j false with
     | false=>rfl
     | true=>exact absurd hji (hD.1 h)
    obtain⟨m',h⟩:=g4 j _ _ hji hoj hfj;rw[xn] at h;rcases h with h|h
    ·have:=hmi j h;rw[hDj] at this;cases this
    ·simp only[jfj,xo] at h;obtain⟨⟨⟨⟨⟨h1,h2⟩,h3⟩,h4⟩,h5⟩,h6⟩:=h;refine⟨fun d hd=>⟨qb9 h1 (by simp[hd]),fun e=>?_⟩,fun q hq=>⟨qb9 h4 hq,qb9 h5 hq⟩⟩;exact qb9 h2 (x:=d) (by simp[hd]) (by simp[e])
   ·have hDj:listed.getD j false=true:=hD.2 Q8G;obtain⟨mj,k1,k2,_,k4⟩:=qnm hc rfl j _ _ hoj hfj;rw[xn] at k1 k2;obtain⟨m',h⟩:=k4 i o _ Q8G hol hfi;rw[xn] at h;rcases h with h|h
    ·have:=qkw (D:=fun j=>listed.getD j false) hcl (feet rs) hfl hc he j _ mj i hoj k1 h (fun e hee hb=>hcl j _ hoj hDj e hee hb);rw[hDi] at this;cases this
    ·simp only[jfj,xo] at h;obtain⟨⟨⟨⟨⟨h1,h2⟩,h3⟩,h4⟩,h5⟩,h6⟩:=h;refine⟨fun d hd=>⟨qb9 h3 (by simp[hd]),fun e=>?_⟩,fun q hq=>⟨qb9 h6 hq,fun hq2=>qb9 h5 hq2 hq⟩⟩;exact qb9 h2 (x:=d) (by simp[e]) (by simp[hd])
  have agree:∀ {α:Type} {f:St->α} {W:Eff->Prop},jji f W->(∀ (j:Nat) (e:Eff),(jfs ops.toList rs)[j]?=some e->(listed.getD j false=true↔¬ j<i)->j≠i->¬ W e)->(¬ (listed.getD i false=true↔¬ i<i))->
    f (cur (fun j=>listed.getD j false) 0 (jfs ops.toList rs) st)=f (cur (fun j=>decide (j<i)) 0 (jfs ops.toList rs) st):=fun hp hw _=>by
   refine qcc hp _ 0 st st (fun j e hje hwe=>?_) rfl
   rw[xn]
   by_cases hji:j=i
   ·subst hji;simpa using hDi
   ·by_cases hD:(listed.getD j false=true↔¬ j<i)
    ·exact absurd hwe (hw j e hje hD hji)
    ·cases h:listed.getD j false with
     | true=>
      have:j<i:=by
       rcases yL j i with h'|h'
       ·exact h'
       ·exact absurd ⟨fun _=>by omega,fun _=>h⟩ hD
      simp[this]
     | false=>
      have:¬ j<i:=fun h'=>hD ⟨fun e=>(by rw[h] at e;cases e),fun e=>absurd h' e⟩
      simp[this]
  have hii:¬ (listed.getD i false=true↔¬ i<i):=fun h=>by
   have:=h.2 Q8G;rw[hDi] at this;cases this
  have hres':OpRes P ops.toList o (cur (fun j=>listed.getD j false) 0 (jfs ops.toList rs) st) r:=by
   refine hres.move (fun t htr=>?_) (fun q hq'=>?_) (fun q hq'=>?_)
   ·exact agree (qib t) (fun j e hje hD hne hwe=>by
     obtain⟨oj,rj,_,_,rfl,h1,_⟩:=indepW j e hje hD hne;exact(h1 t hwe).1 htr) hii
   ·exact agree (qho q) (fun j e hje hD hne hwe=>by
     obtain⟨oj,rj,_,_,rfl,_,h2⟩:=indepW j e hje hD hne;exact(h2 q hwe).1 hq') hii
   ·exact agree (qho q) (fun j e hje hD hne hwe=>by
     obtain⟨oj,rj,_,_,rfl,_,h2⟩:=indepW j e hje hD hne;exact(h2 q hwe).2 hq') hii
  refine q5j ho hres' R fun ρ' a' w' R'=>?_
  have hget:∀ j,(listed.setIfInBounds i true).getD j false=(decide (j=i)||listed.getD j false):=fun j=>by
   by_cases hji:j=i
   ·exact Q4S
   exact Q4j
  have hcur:cur (fun j=>(listed.setIfInBounds i true).getD j false) 0 (jfs ops.toList rs) st=(cur (fun j=>listed.getD j false) 0 (jfs ops.toList rs) st).after o.dst r.v r.ms:=by
   have hfun:(fun j=>(listed.setIfInBounds i true).getD j false)=(fun j=>decide (j=i)||listed.getD j false):=funext hget;rw[hfun];have later:∀ (j:Nat) (e:Eff),(jfs ops.toList rs)[j]?=some e->i<0+j->listed.getD (0+j) false=true->(∀ d,e.dst=some d->o.dst≠some d)/\∀ q,q∈e.ms.map (·.1)->q∉r.ms.map (·.1):=fun j e hje hlt' hD=>by
    rw[xn] at hlt' hD;obtain⟨oj,rj,_,_,rfl,h1,h2⟩:=indepW j e hje ⟨fun _=>by omega,fun _=>hD⟩ Q8G;exact⟨fun d hd=>(h1 d hd).2,fun q hq'=>(h2 q hq').2⟩
   refine St.ext' (fun q=>?_) (fun q=>?_)
   ·refine qkv (qib q) (e0:=⟨o.dst,r.v,r.ms⟩) (jfs ops.toList rs) 0 st Q8G hei hDi (fun hw j e hje hlt' hwe=>?_);cases h:listed.getD (0+j) false with
    | false=>rfl
    | true=>exact absurd hw ((later j e hje hlt' h).1 q hwe)
   ·refine qkv (qho q) (e0:=⟨o.dst,r.v,r.ms⟩) (jfs ops.toList rs) 0 st Q8G hei hDi (fun hw j e hje hlt' hwe=>?_);cases h:listed.getD (0+j) false with
    | false=>rfl
    | true=>exact absurd hw ((later j e hje hlt' h).2 q hwe)
  refine ih (S.erase i) (listed.setIfInBounds i true) ?_ (hnd.erase i) (by simp[hsz]) (fun j hj=>?_) (fun j hj=>hlt j (List.mem_of_mem_erase hj)) (fun j oj hoj hDj e hee hb=>?_) ρ' a' w' (by rw[hcur];exact R')
  ·rw[List.length_erase_of_mem hiS,hS];rfl
  ·rw[hget,hnd.mem_erase_iff];simp only[yR,xh,hdS j hj];exact Q39
  ·rw[hget] at hDj ⊢;simp only[yR,xh] at hDj ⊢;rcases hDj with rfl|hDj
   ·rw[hol] at hoj;simp only[Option.some.injEq] at hoj;subst hoj;exact .inr (hready e Qa9 hb)
   ·exact .inr (hcl j oj hoj hDj e hee hb)
theorem qxo (ht:Trace P ops.toList ops.toList st rs st') (hc:qpu ops.toList (feet rs)=true) (he:qc1 ops.toList 0=true) (hq:∀ ρ a w,Rel X ρ st' a w->Q .normal a w) {ρ:Rz} {a:Act} {w:World} (R:Rel X ρ st a w) :
  wpAny P .any ops Q ops.size (Array.replicate ops.size false) a w:=by
 have h0:∀ j,(Array.replicate ops.size false).getD j false=false:=fun j=>Q4N
 refine q64 ht hc he hq ops.size (List.range ops.size) _ Q8R List.nodup_range Q8R (fun i hi=>?_) (fun i hi=>by simpa using hi) (fun j o _ h=>by rw[h0] at h;cases h) ρ a w ?_
 ·rw[h0];simp[hi]
 ·rw[qez _ 0 st (fun i _=>h0 _)];exact R
end
structure Stp where
 i:Nat
 o:Oper
 r:Res
 f:List Nat×List Nat
 mu:Bool
def effsS (S:List Stp):List Eff:=S.map fun s=>⟨s.o.dst,s.r.v,s.r.ms⟩
variable {S:List Stp}
theorem qxp {s:Stp} (h:S[k]?=some s):(effsS S)[k]?=some ⟨s.o.dst,s.r.v,s.r.ms⟩:=by simp[effsS,h]
theorem qem {e:Eff} (h:(effsS S)[k]?=some e):∃ s,S[k]?=some s/\e=⟨s.o.dst,s.r.v,s.r.ms⟩:=by
 simp only[effsS,xT] at h;cases hs:S[k]? with
 | none=>rw[hs] at h;cases h
 | some s=>rw[hs] at h;exact⟨s,rfl,by simpa using h.symm⟩
def jk7 (P:Program) (ops:List Oper) (st:St) (s:Stp):Prop:=(s.mu=false->OpRes P ops s.o st s.r)/\(∀ q∈s.r.rh,q∈s.f.1)/\∀ q∈s.r.ms.map (·.1),q∈s.f.2
def jfc (P:Program) (ops:List Oper):List Stp->St->St->Prop
 | [],st,st'=>st'=st
 | s::S,st,st'=>jk7 P ops st s/\jfc P ops S (st.after s.o.dst s.r.v s.r.ms) st'
theorem qnn {P:Program} {ops:List Oper}:∀ {S:List Stp} {st st':St} {k0:Nat},jfc P ops S st st'->∀ k s,S[k]?=some s->jk7 P ops (cur (fun j=>decide (j<k0+k)) k0 (effsS S) st) s
 | [],_,_,_,_,k,s,h=>by simp at h
 | s'::S,st,st',k0,h,k,s,hs=>by
  obtain⟨h1,h2⟩:=h;cases k with
  | zero=>
   simp only[yy,Option.some.injEq] at hs;subst hs;rw[qez _ k0 st (fun i _=>by simp)];exact h1
  | succ k=>
   have:=qnn (k0:=k0+1) h2 k s (by simpa using hs);have e:decide (k0<k0+(k+1))=true:=by simp
   simp only[effsS,xp,cur,e];rw[show k0+(k+1)=k0+1+k from by omega];exact this
theorem qno {P:Program} {ops:List Oper}:∀ {S:List Stp} {st st':St} {k0:Nat},jfc P ops S st st'->cur (fun _=>true) k0 (effsS S) st=st'
 | [],_,_,_,h=>by cases h;rfl
 | s::S,st,st',k0,h=>by
  simp only[effsS,xp,cur];exact qno h.2
theorem qti {P:Program} {ops:List Oper}:∀ {S T:List Stp} {st m st':St},jfc P ops S st m->jfc P ops T m st'->jfc P ops (S++T) st st'
 | [],_,_,_,_,h,k=>by cases h;exact k
 | s::S,_,_,_,_,h,k=>⟨h.1,qti h.2 k⟩
theorem qxq {D:Nat->Bool}:∀ (es es':List Eff) (k:Nat) (st:St),cur D k (es++es') st=cur D (k+es.length) es' (cur D k es st)
 | [],_,_,_=>rfl
 | e::es,es',k,st=>by
  simp only[List.cons_append,cur,xQ];rw[qxq es es' (k+1),show k+1+es.length=k+(es.length+1) from by omega]
theorem qpw:∀ (os:List Oper) (acc:List Nat) (k:Nat) (o:Oper),os[k]?=some o->(masks os acc)[acc.length+k]?=some (qhp o ((masks os acc).take (acc.length+k)))
 | [],_,k,o,h=>by simp at h
 | o0::os,acc,k,o,h=>by
  cases k with
  | zero=>
   simp only[yy,Option.some.injEq] at h;subst h;have htake:(masks (o0::os) acc).take (acc.length+0)=acc:=by
    apply yg;intro i;rw[yK];by_cases hi:i<acc.length+0
    ·exact Q4E
    ·rw[if_neg hi,ye Q8G]
   rw[htake,masks,qdz os _ _ Q8R,y7 Q8G];simp
  | succ k=>
   have:=qpw os (acc++[qhp o0 acc]) k o Q9P;simp only[xt,List.length_singleton] at this;rw[show acc.length+(k+1)=acc.length+1+k from by omega];exact this
def mkAt (ops:List Oper) (i:Nat):Nat:=match jfg (masks ops []) i with
 | some m=>m
 | none=>0
theorem q65 (h:ops[i]?=some o):mkAt ops i=qhp o ((masks ops []).take i):=by
 have:=qpw ops [] i o h;simp only[x5,xn] at this;unfold mkAt;rw[qbw,this]
theorem qgg {D:Nat->Bool} (he:qc1 ops 0=true) (hcl:∀ (j:Nat) (o:Oper),ops[j]?=some o->D j=true->∀ e∈o.after.toList,Region.binds .any e=true->D e.on=true) :
  ∀ (j:Nat) (o:Oper) (i:Nat),ops[j]?=some o->(mkAt ops j).testBit i=true->(∀ e∈o.after.toList,Region.binds .any e=true->D e.on=true)->D i=true:=by
 intro j
 induction j using Nat.strongRecOn with
 | _ j ih=>
  intro o i ho hb hedges;rw[q65 ho] at hb;obtain⟨e,hee,hbe,h⟩:=qtg hb;have hD:=hedges e hee hbe;rcases h with h|⟨m2,hm2,hb2⟩
  ·rwa[<-h]
  ·have hlt:=qgf he j o ho e hee hbe;rw[xn] at hlt;rw[yK,if_pos hlt] at hm2;have hol:e.on<ops.length:=xC hlt (xe.1 ho).1;refine ih e.on hlt ops[e.on] i (xr hol) ?_ (hcl e.on _ (xr hol) hD);unfold mkAt;rw[qbw,hm2];exact hb2
def je1 (ops:List Oper) (s:Stp):jkx:=⟨qe0 ops s.o,s.o.dst.toList,s.f.1,s.f.2,0⟩
def qxr (ops:List Oper) (a b:Stp):Prop:=(mkAt ops b.i).testBit a.i=true\/jfj (je1 ops a) (je1 ops b)=true
def jge (ops:List Oper) (S:List Stp):Prop:=∀ (k l:Nat) (a b:Stp),k<l->S[k]?=some a->S[l]?=some b->qxr ops a b
def qrz (P:Program) (o:Oper) (st:St) (hs:List Nat) (F:Value->Mz->Prop):Prop:=
 ∀ st₂:St,(∀ x∈o.op.operands.toList,∀ u,EvTo x st u->EvTo x st₂ u)->(∀ i∈hs,st₂.h[i]?=st.h[i]?)->EffAll P o st₂ F
structure Own (ops:List Oper) (S:List Stp):Prop where
 at_:∀ (k:Nat) (s:Stp),S[k]?=some s->ops[s.i]?=some s.o
 inj:∀ (k l:Nat) (a b:Stp),S[k]?=some a->S[l]?=some b->a.i=b.i->k=l
def qtj (ops:List Oper) (o:Oper) (s:St):Prop:=match o.guard with
 | none=>True
 | some (j,want)=>∃ (oj:Oper) (d:Nat),ops[j]?=some oj/\oj.dst=some d/\s.t[d]?=some (some (.bool want))
def jik (P:Program) (ops:List Oper) (Kend:St->Prop):List (Nat×List Nat)->List Stp->St->Prop
 | [],S,s=>Own ops S/\jge ops S/\(∀ i,i<ops.length->∃ (k:Nat) (t:Stp),S[k]?=some t/\t.i=i)/\Kend s
 | (m,seg)::rest,S,s=>∃ (om:Oper) (hs:List Nat),ops[m]?=some om/\qtj ops om s/\(∀ t:Stp,t.i=m->t.o=om->t.f=(hs,hs)->Own ops (S++[t])/\jge ops (S++[t]))/\
   (∀ i,i<ops.length->(∃ (k:Nat) (t:Stp),S[k]?=some t/\t.i=i)\/i=m\/(mkAt ops i).testBit m=true)/\
   qrz P om s hs (fun v ms=>(∀ q∈ms.map (·.1),q∈hs)/\∃ (S2:List Stp) (s2:St),(∀ t∈S2,t.mu=false)/\jfc P ops S2 (s.after om.dst v ms) s2/\jik P ops Kend rest (S++⟨m,om,⟨v,ms,hs⟩,(hs,hs),true⟩::S2) s2)
def DL (listed:Array Bool) (S:List Stp) (k:Nat):Bool:=match S[k]? with
 | some s=>listed.getD s.i false
 | none=>false
theorem qf6 {listed:Array Bool} {s:Stp} (h:S[k]?=some s):DL listed S k=listed.getD s.i false:=by unfold DL;rw[h]
section
variable {P:Program} {ops:Array Oper} {Q:Exit->Act->World->Prop} {X:Ctx} {st:St}
variable {S:List Stp} {listed:Array Bool}
theorem qid {n:Nat} {α:Type} {f:St->α} {W:Eff->Prop} (hp:jji f W)
  (hw:∀ (j:Nat) (a:Stp),S[j]?=some a->(j<n->listed.getD a.i false=false->¬ W ⟨a.o.dst,a.r.v,a.r.ms⟩)/\(n<=j->listed.getD a.i false=true->¬ W ⟨a.o.dst,a.r.v,a.r.ms⟩)) :
  f (cur (DL listed S) 0 (effsS S) st)=f (cur (fun j=>decide (j<n)) 0 (effsS S) st):=by
 refine qcc hp _ 0 st st (fun j e hje hwe=>?_) rfl
 rw[xn]
 obtain⟨a,ha,rfl⟩:=qem hje
 rw[qf6 ha]
 obtain⟨w1,w2⟩:=hw j a ha
 rcases yL j n with h|h
 ·cases e:listed.getD a.i false with
  | true=>simp[h]
  | false=>exact absurd hwe (w1 h e)
 ·cases e:listed.getD a.i false with
  | true=>exact absurd hwe (w2 h e)
  | false=>simp;omega
theorem qen {ops:List Oper} {a b:Stp} (h:jfj (je1 ops a) (je1 ops b)=true) :
  (∀ t∈qe0 ops b.o,¬ a.o.dst=some t)/\(∀ t,a.o.dst=some t->¬ b.o.dst=some t)/\(∀ t∈qe0 ops a.o,¬ b.o.dst=some t)/\(∀ q∈a.f.2,q∉b.f.1/\q∉b.f.2)/\∀ q∈b.f.2,q∉a.f.1:=by
 simp only[jfj,xo] at h
 obtain⟨⟨⟨⟨⟨h1,h2⟩,h3⟩,h4⟩,h5⟩,h6⟩:=h
 refine⟨fun t ht e=>qb9 h1 (x:=t) (by simp[je1,e]) ht,fun t e e2=>qb9 h2 (x:=t) (by simp[je1,e]) (by simp[je1,e2]),fun t ht e=>qb9 h3 (x:=t) (by simp[je1,e]) ht,fun q hq=>⟨qb9 h4 hq,qb9 h5 hq⟩,fun q hq=>qb9 h6 hq⟩
theorem q2g (he:qc1 ops.toList 0=true) {s':St} (ho:Own ops.toList S) (hp:jge ops.toList S) (hg:jfc P ops.toList S st s') (hsz:listed.size=ops.size)
  (hcl:∀ (j:Nat) (o:Oper),ops.toList[j]?=some o->listed.getD j false=true->∀ e∈o.after.toList,Region.binds .any e=true->listed.getD e.on false=true)
  {k:Nat} {b:Stp} (hk:S[k]?=some b) (hmu:b.mu=false) (hD:listed.getD b.i false=false) (hready:∀ e∈b.o.after.toList,Region.binds .any e=true->listed.getD e.on false=true)
  {ρ:Rz} {a:Act} {w:World} (R:Rel X ρ (cur (DL listed S) 0 (effsS S) st) a w) {next:Act->World->Prop}
  (hn:∀ ρ' a' w',Rel X ρ' (cur (DL (listed.setIfInBounds b.i true) S) 0 (effsS S) st) a' w'->next a' w'):wpOp P ops Q b.i next a w:=by
 have hbo:=ho.at_ k b hk
 have mb:∀ q,(mkAt ops.toList b.i).testBit q=true->listed.getD q false=true:=fun q hq=>qgg (D:=fun j=>listed.getD j false) he hcl b.i b.o q hbo hq hready
 have ahead:∀ (j:Nat) (c:Stp),S[j]?=some c->j<k->listed.getD c.i false=false->jfj (je1 ops.toList c) (je1 ops.toList b)=true:=fun j c hc hj hl=>by
  rcases hp j k c b hj hc hk with h|h
  ·rw[mb _ h] at hl;cases hl
  ·exact h
 have behind:∀ (j:Nat) (c:Stp),S[j]?=some c->k<=j->listed.getD c.i false=true->jfj (je1 ops.toList b) (je1 ops.toList c)=true:=fun j c hc hj hl=>by
  have hne:k≠j:=fun e=>by subst e;rw[hk] at hc;cases hc;rw[hD] at hl;cases hl
  rcases hp k j b c Q8G hk hc with h|h
  ·have:=qgg (D:=fun j=>listed.getD j false) he hcl c.i c.o b.i (ho.at_ j c hc) h (fun e hee hbe=>hcl c.i c.o (ho.at_ j c hc) hl e hee hbe);rw[this] at hD;cases hD
  ·exact h
 have gb:=qnn (k0:=0) hg k b hk
 rw[xn] at gb
 have gf:∀ (j:Nat) (c:Stp),S[j]?=some c->∀ q∈c.r.ms.map (·.1),q∈c.f.2:=fun j c hc=>(qnn (k0:=0) hg j c hc).2.2
 have hres:OpRes P ops.toList b.o (cur (DL listed S) 0 (effsS S) st) b.r:=by
  refine(gb.1 hmu).move (fun t ht=>?_) (fun q hq=>?_) (fun q hq=>?_)
  ·exact qid (qib t) fun j c hc=>⟨fun hj hl hw=>(qen (ahead j c hc hj hl)).1 t ht hw,fun hj hl hw=>(qen (behind j c hc hj hl)).2.2.1 t ht hw⟩
  ·exact qid (qho q) fun j c hc=>⟨fun hj hl hw=>((qen (ahead j c hc hj hl)).2.2.2.1 q (gf j c hc q hw)).1 (gb.2.1 q hq),fun hj hl hw=>(qen (behind j c hc hj hl)).2.2.2.2 q (gf j c hc q hw) (gb.2.1 q hq)⟩
  ·exact qid (qho q) fun j c hc=>⟨fun hj hl hw=>((qen (ahead j c hc hj hl)).2.2.2.1 q (gf j c hc q hw)).2 (gb.2.2 q hq),fun hj hl hw=>((qen (behind j c hc hj hl)).2.2.2.1 q (gb.2.2 q hq)).2 (gf j c hc q hw)⟩
 have hb2:ops[b.i]?=some b.o:=by simpa using hbo
 have his:b.i<listed.size:=by rw[hsz];exact(xV.1 hb2).1
 refine q5j hb2 hres R fun ρ' a' w' R'=>hn ρ' a' w' ?_
 have hget:∀ j,(listed.setIfInBounds b.i true).getD j false=(decide (j=b.i)||listed.getD j false):=fun j=>by
  by_cases hji:j=b.i
  ·exact Q4S
  exact Q4j
 have hfun:DL (listed.setIfInBounds b.i true) S=fun j=>decide (j=k)||DL listed S j:=funext fun j=>by
  cases hj:S[j]? with
  | none=>
   have:j≠k:=fun e=>by subst e;rw[hk] at hj;cases hj
   simp[DL,hj,this]
  | some c=>
   rw[qf6 hj,qf6 hj,hget];congr 1;by_cases e:j=k
   ·subst e;rw[hk] at hj;cases hj;simp
   ·have:c.i≠b.i:=fun e2=>e (ho.inj j k c b hj hk e2)
    simp[e,this]
 have hcur:cur (DL (listed.setIfInBounds b.i true) S) 0 (effsS S) st=(cur (DL listed S) 0 (effsS S) st).after b.o.dst b.r.v b.r.ms:=by
  rw[hfun];have hei:=qxp hk;have hDk:DL listed S k=false:=by rw[qf6 hk];exact hD
  refine St.ext' (fun q=>?_) (fun q=>?_)
  ·refine qkv (qib q) (e0:=⟨b.o.dst,b.r.v,b.r.ms⟩) (effsS S) 0 st Q8G hei hDk (fun hw j e hje hlt' hwe=>?_);obtain⟨c,hc,rfl⟩:=qem hje;rw[xn] at hlt' ⊢;rw[qf6 hc];cases h:listed.getD c.i false with
   | false=>rfl
   | true=>exact absurd hwe ((qen (behind j c hc Q8G h)).2.1 q hw)
  ·refine qkv (qho q) (e0:=⟨b.o.dst,b.r.v,b.r.ms⟩) (effsS S) 0 st Q8G hei hDk (fun hw j e hje hlt' hwe=>?_);obtain⟨c,hc,rfl⟩:=qem hje;rw[xn] at hlt' ⊢;rw[qf6 hc];cases h:listed.getD c.i false with
   | false=>rfl
   | true=>exact absurd (gf j c hc q hwe) ((qen (behind j c hc Q8G h)).2.2.2.1 q (gb.2.2 q hw)).2
 rw[hcur]
 exact R'
structure Done (ops:Array Oper) (fuel:Nat) (U:List Nat) (listed:Array Bool):Prop where
 len:U.length=fuel
 nd:U.Nodup
 sz:listed.size=ops.size
 un:∀ i,i<ops.size->(listed.getD i false=true↔i∉U)
 lt:∀ i∈U,i<ops.size
 cl:∀ (j:Nat) (o:Oper),ops.toList[j]?=some o->listed.getD j false=true->∀ e∈o.after.toList,Region.binds .any e=true->listed.getD e.on false=true
variable {i:Nat}
theorem qe8 (h:i<listed.size) (j:Nat):(listed.setIfInBounds i true).getD j false=(decide (j=i)||listed.getD j false):=by
 by_cases hji:j=i
 ·subst hji;simp[yl,yX,h]
 exact Q4j
theorem Done.step {fuel:Nat} {U:List Nat} (d:Done ops (fuel+1) U listed) {o:Oper} (hi:ops[i]?=some o) (hD:listed.getD i false=false) (hready:∀ e∈o.after.toList,Region.binds .any e=true->listed.getD e.on false=true) :
  Done ops fuel (U.erase i) (listed.setIfInBounds i true):=by
 have hil:=(xV.1 hi).1
 have his:i<listed.size:=by rw[d.sz];exact hil
 have hiU:i∈U:=by
  rcases Classical.em (i∈U) with h|h
  ·exact h
  ·have:=(d.un i hil).2 h;rw[hD] at this;cases this
 have hol:ops.toList[i]?=some o:=by simpa using hi
 refine⟨?_,d.nd.erase i,by simp[d.sz],fun j hj=>?_,fun j hj=>d.lt j (List.mem_of_mem_erase hj),fun j oj hoj hDj e hee hb=>?_⟩
 ·rw[List.length_erase_of_mem hiU,d.len];rfl
 ·rw[qe8 his,d.nd.mem_erase_iff];simp only[yR,xh,d.un j hj];exact Q39
 ·rw[qe8 his] at hDj ⊢;simp only[yR,xh] at hDj ⊢;rcases hDj with rfl|hDj
  ·rw[hol] at hoj;simp only[Option.some.injEq] at hoj;subst hoj;exact .inr (hready e hee hb)
  ·exact .inr (d.cl j oj hoj hDj e hee hb)
theorem qie (hsz:listed.size=ops.size) (h:i∈Region.ready .any ops listed):∃ o,ops[i]?=some o/\listed.getD i false=false/\∀ e∈o.after.toList,Region.binds .any e=true->listed.getD e.on false=true:=by
 obtain⟨h0,o,ho,hr⟩:=mem_ready.1 h;have hil:=(xV.1 ho).1;have his:i<listed.size:=by omega
 refine⟨o,ho,?_,fun e hee hb=>hr e Qa9 hb⟩;exact Q4x
theorem qtk (he:qc1 ops.toList 0=true) (hsz:listed.size=ops.size) (hr:Region.ready .any ops listed=[]):∀ i,i<ops.size->listed.getD i false=true:=by
 intro i
 induction i using Nat.strongRecOn with
 | _ i ih=>
  intro hi;cases hl:listed.getD i false with
  | true=>rfl
  | false=>
   exfalso;exact Q23
theorem qxs (he:qc1 ops.toList 0=true) {s':St} (ho:Own ops.toList S) (hp:jge ops.toList S) (hg:jfc P ops.toList S st s') (Inv:Array Bool->Prop)
  (hInv:∀ (listed:Array Bool) (k:Nat) (b:Stp),listed.size=ops.size->S[k]?=some b->Inv listed->Inv (listed.setIfInBounds b.i true))
  (hmul:∀ (listed:Array Bool) (k:Nat) (b:Stp),Inv listed->S[k]?=some b->b.mu=true->listed.getD b.i false=true)
  (hend:∀ listed:Array Bool,Inv listed->(∀ i,i<ops.size->listed.getD i false=true)->∀ ρ a w,Rel X ρ (cur (DL listed S) 0 (effsS S) st) a w->Q .normal a w)
  (hoth:∀ (fuel:Nat) (U:List Nat) (listed:Array Bool) (i:Nat) (o:Oper),Done ops (fuel+1) U listed->Inv listed->ops[i]?=some o->listed.getD i false=false->(∀ e∈o.after.toList,Region.binds .any e=true->listed.getD e.on false=true)->(∀ (k:Nat) (b:Stp),S[k]?=some b->b.i≠i)->
   ∀ ρ a w,Rel X ρ (cur (DL listed S) 0 (effsS S) st) a w->wpOp P ops Q i (wpAny P .any ops Q fuel (listed.setIfInBounds i true)) a w) :
  ∀ (fuel:Nat) (U:List Nat) (listed:Array Bool),Done ops fuel U listed->Inv listed->∀ ρ a w,Rel X ρ (cur (DL listed S) 0 (effsS S) st) a w->wpAny P .any ops Q fuel listed a w:=by
 intro fuel
 induction fuel with
 | zero=>
  intro U listed d hI ρ a w R;have hU:U=[]:=yS.1 d.len;subst hU;have hall:∀ i,i<ops.size->listed.getD i false=true:=fun i hi=>(d.un i hi).2 Q8R
  refine⟨?_,hend listed hI hall ρ a w R⟩;apply List.eq_nil_iff_forall_not_mem.2;intro j hj;obtain⟨o,h1,h2,_⟩:=qie d.sz hj;rw[hall j (xV.1 h1).1] at h2;cases h2
 | succ fuel ih=>
  intro U listed d hI ρ a w R;refine⟨fun hr=>hend listed hI (qtk he d.sz hr) ρ a w R,fun i hi=>?_⟩;obtain⟨o,h1,h2,h3⟩:=qie d.sz hi;rcases Classical.em (∃ (k:Nat) (b:Stp),S[k]?=some b/\b.i=i) with ⟨k,b,hk,rfl⟩|hno
  ·have hbo:b.o=o:=by
    have:=ho.at_ k b hk;rw[show ops.toList[b.i]?=ops[b.i]? from by simp,h1] at this;cases this;rfl
   subst hbo;have hmu:b.mu=false:=by
    cases e:b.mu with
    | false=>rfl
    | true=>rw[hmul listed k b hI hk e] at h2;cases h2
   exact q2g he ho hp hg d.sz d.cl hk hmu h2 h3 R fun ρ' a' w' R'=>ih (U.erase b.i) _ (d.step h1 h2 h3) (hInv listed k b d.sz hk hI) ρ' a' w' R'
  ·exact hoth fuel U listed i o d hI h1 h2 h3 (fun k b hk e=>hno ⟨k,b,hk,e⟩) ρ a w R
theorem qif {ops:List Oper} {t:Stp} (h:Own ops (S++[t])):Own ops S/\∀ (k:Nat) (b:Stp),S[k]?=some b->b.i≠t.i:=by
 have front:∀ (k:Nat) (b:Stp),S[k]?=some b->(S++[t])[k]?=some b:=fun k b hk=>by rw[yF (xe.1 hk).1];exact hk
 refine⟨⟨fun k b hk=>h.at_ k b (front k b hk),fun k l a b hk hl e=>h.inj k l a b (front k a hk) (front l b hl) e⟩,fun k b hk e=>?_⟩;have:=h.inj k S.length b t (front k b hk) Qai e;have:=(xe.1 hk).1;omega
theorem qkx {ops:List Oper} {t:Stp} (h:jge ops (S++[t])):jge ops S/\∀ (k:Nat) (b:Stp),S[k]?=some b->qxr ops b t:=by
 have front:∀ (k:Nat) (b:Stp),S[k]?=some b->(S++[t])[k]?=some b:=fun k b hk=>by rw[yF (xe.1 hk).1];exact hk
 exact⟨fun k l a b hkl hk hl=>h k l a b hkl (front k a hk) (front l b hl),fun k b hk=>h k S.length b t (xe.1 hk).1 (front k b hk) Qai⟩
variable {Kend:St->Prop}
theorem qtl:∀ {rest:List (Nat×List Nat)} {S:List Stp} {s:St},jik P ops.toList Kend rest S s->Own ops.toList S/\jge ops.toList S
 | [],S,s,h=>⟨h.1,h.2.1⟩
 | (m,seg)::rest,S,s,h=>by
  obtain⟨om,hs,_,_,h3,_⟩:=h;obtain⟨h4,h5⟩:=h3 ⟨m,om,⟨undef,[],hs⟩,(hs,hs),true⟩ rfl rfl rfl;exact⟨(qif h4).1,(qkx h5).1⟩
theorem qxt (he:qc1 ops.toList 0=true) (hq:∀ s ρ a w,Kend s->Rel X ρ s a w->Q .normal a w) :
  ∀ (rest:List (Nat×List Nat)) (S:List Stp) (s:St),jik P ops.toList Kend rest S s->Own ops.toList S->jge ops.toList S->jfc P ops.toList S st s->
  ∀ (fuel:Nat) (U:List Nat) (listed:Array Bool),Done ops fuel U listed->(∀ (k:Nat) (t:Stp),S[k]?=some t->t.mu=true->listed.getD t.i false=true)->(∀ x,rest.head? = some x->listed.getD x.1 false=false)->
   ∀ ρ a w,Rel X ρ (cur (DL listed S) 0 (effsS S) st) a w->wpAny P .any ops Q fuel listed a w:=by
 intro rest
 induction rest with
 | nil=>
  intro S s hP ho hp hg fuel U listed d hmu _ ρ a w R;obtain⟨_,_,hcov,hK⟩:=hP;refine qxs he ho hp hg (fun listed=>∀ (k:Nat) (t:Stp),S[k]?=some t->t.mu=true->listed.getD t.i false=true) (fun listed k b hsz hk hI k' t ht hm=>?_) (fun listed k b hI hk hm=>hI k b hk hm) (fun listed hI hall ρ a w R=>hq s ρ a w hK ?_) (fun fuel U listed i o d hI h1 h2 h3 hno=>?_) fuel U listed d hmu ρ a w R
  ·have hb:b.i<listed.size:=Q4F;rw[qe8 hb,hI k' t ht hm];simp
  ·have:cur (DL listed S) 0 (effsS S) st=s:=by
    rw[<-qno (k0:=0) hg];refine St.ext' (fun q=>?_) (fun q=>?_)
    ·refine qcc (qib q) _ 0 st st (fun j e hje _=>?_) rfl;exact Q3E
    ·refine qcc (qho q) _ 0 st st (fun j e hje _=>?_) rfl;exact Q3E
   rw[<-this];exact R
  ·obtain⟨k,t,hk,e⟩:=hcov i (by simpa using (xV.1 h1).1);exact absurd e (hno k t hk)
 | cons x rest ih=>
  obtain⟨m,seg⟩:=x;intro S s hP ho hp hg fuel U listed d hmu hhead ρ a w R;obtain⟨om,hs,hm,hgd,hown,hcov,hM⟩:=hP;have hm2:ops[m]?=some om:=by simpa using hm
  have hml:=(xV.1 hm2).1;obtain⟨t0,ht0⟩:∃ t0:Stp,t0=⟨m,om,⟨undef,[],hs⟩,(hs,hs),true⟩:=⟨_,rfl⟩;obtain⟨o1,o2⟩:=hown t0 (by rw[ht0]) (by rw[ht0]) (by rw[ht0]);have hnm:∀ (k:Nat) (b:Stp),S[k]?=some b->b.i≠m:=fun k b hk e=>(qif o1).2 k b hk (by rw[ht0];exact e)
  refine qxs he ho hp hg (fun listed=>(∀ (k:Nat) (t:Stp),S[k]?=some t->t.mu=true->listed.getD t.i false=true)/\listed.getD m false=false) (fun listed k b hsz hk hI=>?_) (fun listed k b hI hk hm=>hI.1 k b hk hm) (fun listed hI hall ρ a w R=>?_) (fun fuel U listed i o d hI h1 h2 h3 hno ρ a w R=>?_) fuel U listed d ⟨hmu,hhead _ rfl⟩ ρ a w R
  ·have hb:b.i<listed.size:=Q4F;refine⟨fun k' t ht hm'=>by rw[qe8 hb,hI.1 k' t ht hm'];simp,?_⟩;rw[qe8 hb,hI.2];have:=hnm k b hk;simp;omega
  ·have:=hall m hml;rw[hI.2] at this;cases this
  ·have hil:i<ops.toList.length:=by simpa using (xV.1 h1).1
   have hol:ops.toList[i]?=some o:=by simpa using h1
   have masked:∀ j,j<ops.toList.length->(∀ (k:Nat) (b:Stp),S[k]?=some b->b.i≠j)->j≠m->listed.getD j false=false:=fun j hj hjS hjm=>by
    rcases hcov j hj with ⟨k,t,hk,e⟩|e|e
    ·exact absurd e (hjS k t hk)
    ·exact absurd e hjm
    ·cases hl:listed.getD j false with
     | false=>rfl
     | true=>
      have hoj:ops.toList[j]?=some ops.toList[j]:=xr hj;have:=qgg (D:=fun j=>listed.getD j false) he d.cl j _ m hoj e (d.cl j _ hoj hl);rw[hI.2] at this;cases this
   rcases hcov i hil with ⟨k,t,hk,e⟩|rfl|e
   ·exact absurd e (hno k t hk)
   ·have hoo:o=om:=by rw[hm2] at h1;cases h1;rfl
    subst hoo;have agr:∀ {α:Type} {f:St->α} {W:Eff->Prop},jji f W->(∀ (j:Nat) (c:Stp),S[j]?=some c->jfj (je1 ops.toList c) (je1 ops.toList t0)=true->¬ W ⟨c.o.dst,c.r.v,c.r.ms⟩)->f (cur (DL listed S) 0 (effsS S) st)=f s:=fun hpt hw=>by
     rw[qid (n:=S.length) hpt fun j c hc=>⟨fun hj hl=>hw j c hc ?_,fun hj hl=>absurd (xe.1 hc).1 Q8G⟩,<-qno (k0:=0) hg]
     ·refine qcc hpt _ 0 st st (fun j e hje _=>?_) rfl;obtain⟨c,hc,rfl⟩:=qem hje;have:=(xe.1 hc).1;rw[xn];simp[this]
     ·rcases(qkx o2).2 j c hc with h|h
      ·rw[ht0] at h;have:=qgg (D:=fun j=>listed.getD j false) he d.cl i o c.i hol h h3;rw[this] at hl;cases hl
      ·exact h
    have hw:Region.wanted o (yielded ops a.tmps)=true:=by
     unfold qtj at hgd;cases hg':o.guard with
     | none=>simp[Region.wanted,hg']
     | some jw=>
      obtain⟨j,want⟩:=jw;rw[hg'] at hgd;obtain⟨oj,dj,hj,hdj,hb⟩:=hgd;have hb2:=(agr (qib dj) fun j c hc hi hwe=>(qen hi).1 dj (by
       rw[ht0];unfold qe0;apply zA;simp only[hg'];rw[qbw,hj];simp[hdj]) hwe).trans hb
      obtain⟨y,hy,hyd⟩:=R.slot dj _ hb2;have hyb:y=.bool want:=hyd.self.symm;have hj':ops[j]?=some oj:=by simpa using hj
      have hyl:yielded ops a.tmps j=some want:=by simp[yielded,hj',hdj,hy,hyb]
      simp[Region.wanted,hg',hyl]
    unfold wpOp;rw[h1];simp only;rw[if_pos hw];have hE:=hM (cur (DL listed S) 0 (effsS S) st) (fun x hx u hu=>qth (fun t ht=>agr (qib t) fun j c hc hi hwe=>(qen hi).1 t (by
      rw[ht0];unfold qe0;exact List.mem_append_left _ (List.mem_flatMap.2 ⟨x,hx,ht⟩)) hwe) hu)
     (fun q hq=>agr (qho q) fun j c hc hi hwe=>((qen hi).2.2.2.1 q ((qnn (k0:=0) hg j c hc).2.2 q hwe)).1 (by rw[ht0];exact hq))
    refine .inl (hE X ρ a w R _ Q fun v ms ρ' x w' hF ha=>?_);obtain⟨hms,S2,s2,hmu2,hg2,hP2⟩:=hF;obtain⟨e1,he1⟩:∃ e1:Stp,e1=⟨i,o,⟨v,ms,hs⟩,(hs,hs),true⟩:=⟨_,rfl⟩;rw[<-he1] at hP2;obtain⟨w1,w2⟩:=qtl hP2;have his:i<listed.size:=by rw[d.sz];exact hml
    have inL:∀ (k:Nat) (b:Stp),S[k]?=some b->(S++e1::S2)[k]?=some b:=fun k b hk=>by rw[yF (xe.1 hk).1];exact hk
    have inM:(S++e1::S2)[S.length]?=some e1:=by rw[y7 (nlr _)];simp
    have inR:∀ (k:Nat) (b:Stp),S2[k]?=some b->(S++e1::S2)[S.length+1+k]?=some b:=fun k b hk=>by
     rw[y7 Q8G,show S.length+1+k-S.length=k+1 from by omega];simpa using hk
    have hg1:jfc P ops.toList (S++e1::S2) st s2:=qti hg ⟨⟨fun h=>(by rw[he1] at h;cases h),fun q hq=>(by rw[he1] at hq ⊢;exact hq),fun q hq=>(by rw[he1] at hq ⊢;exact hms q hq)⟩,by rw[he1];exact hg2⟩;have un2:∀ (k:Nat) (b:Stp),S2[k]?=some b->listed.getD b.i false=false/\b.i≠i:=fun k b hk=>by
     have hne:b.i≠i:=fun e=>by
      have:=w1.inj _ _ b e1 (inR k b hk) inM (by rw[he1];exact e);omega
     refine⟨masked b.i ?_ (fun k' c hc e=>?_) hne,hne⟩
     ·exact(xe.1 (w1.at_ _ b (inR k b hk))).1
     ·have:=w1.inj _ _ c b (inL k' c hc) (inR k b hk) e;have:=(xe.1 hc).1;omega
    refine ih (S++e1::S2) s2 hP2 w1 w2 hg1 fuel (U.erase i) _ (d.step h1 h2 h3) (fun k t hk hmt=>?_) (fun y hy=>?_) ρ' _ w' ?_
    ·rw[qe8 his];rcases Nat.lt_trichotomy k S.length with hlt|rfl|hgt
     ·rw[yF hlt] at hk;rw[hI.1 k t hk hmt];simp
     ·rw[inM] at hk;cases hk;rw[he1];simp
     ·obtain⟨j,rfl⟩:∃ j,k=S.length+1+j:=⟨k-(S.length+1),by omega⟩;have hj:S2[j]?=some t:=by
       rw[y7 Q8G,show S.length+1+j-S.length=j+1 from by omega] at hk;simpa using hk
      rw[hmu2 t (xG hj)] at hmt;cases hmt
    ·cases hr:rest with
     | nil=>rw[hr] at hy;cases hy
     | cons z rest'=>
      obtain⟨m2,seg2⟩:=z;rw[hr] at hy hP2;simp only[List.head?_cons,Option.some.injEq] at hy;subst hy;obtain⟨om2,hs2,hm2',_,hown2,_⟩:=hP2;obtain⟨p1,_⟩:=hown2 ⟨m2,om2,⟨undef,[],hs2⟩,(hs2,hs2),true⟩ rfl rfl rfl;have hne:m2≠i:=fun e=>(qif p1).2 _ e1 inM (by rw[he1];exact e.symm)
      rw[qe8 his,masked m2 (xe.1 hm2').1 (fun k b hk e=>(qif p1).2 _ b (inL k b hk) e) hne];simp[hne]
    ·have hcur:cur (DL (listed.setIfInBounds i true) (S++e1::S2)) 0 (effsS (S++e1::S2)) st=(cur (DL listed S) 0 (effsS S) st).after o.dst v ms:=by
      have hsplit:effsS (S++e1::S2)=effsS S++⟨o.dst,v,ms⟩::effsS S2:=by rw[he1];simp[effsS]
      have hlen:(effsS S).length=S.length:=by simp[effsS]
      rw[hsplit,qxq,hlen,xn];have hfst:cur (DL (listed.setIfInBounds i true) (S++e1::S2)) 0 (effsS S) st=cur (DL listed S) 0 (effsS S) st:=by
       have key:∀ (j:Nat) (e:Eff),(effsS S)[j]?=some e->DL (listed.setIfInBounds i true) (S++e1::S2) (0+j)=DL listed S (0+j):=fun j e hje=>by
        obtain⟨c,hc,rfl⟩:=qem hje;rw[xn,qf6 (inL j c hc),qf6 hc,qe8 his];simp[hno j c hc]
       exact St.ext' (fun q=>qcc (qib q) _ 0 st st (fun j e hje _=>key j e hje) rfl) (fun q=>qcc (qho q) _ 0 st st (fun j e hje _=>key j e hje) rfl)
      rw[hfst];have hmid:DL (listed.setIfInBounds i true) (S++e1::S2) S.length=true:=by rw[qf6 inM,qe8 his,he1];simp
      simp only[cur,hmid];refine qez _ _ _ fun j hj=>?_
      have hj2:j<S2.length:=by simpa[effsS] using hj
      have hc:S2[j]?=some S2[j]:=xr hj2;rw[qf6 (inR j _ hc),qe8 his,(un2 j _ hc).1];simp[(un2 j _ hc).2]
     rw[hcur];exact qfl R ha
   ·have:=qgg (D:=fun j=>listed.getD j false) he d.cl i o m hol e h3;rw[hI.2] at this;cases this
end
noncomputable def jmr (ops:List Oper):Bool:=List.rec (motive:=fun _=>Bool) false (fun o _ ih=>match o.op with
 | .call ⟨.builtin .append,_,_⟩=>true
 | _=>ih) ops
noncomputable def callB (ops:List Oper):Bool:=List.rec (motive:=fun _=>Bool) false (fun o _ ih=>match o.op with
 | .call ⟨.value _,_,_⟩=>true
 | _=>ih) ops
def jm1 (b:Bool) (A B:Prop):Prop:=match b with
 | false=>A
 | true=>N (jmd A B)
variable {b:Bool}
theorem q2h {B:Prop} (h:jm1 b A B):A\/B:=by
 cases b with
 | false=>exact .inl h
 | true=>exact N.out h
noncomputable def entB (ops:List Oper):Bool:=List.rec (motive:=fun _=>Bool) false (fun o _ ih=>match o.op with
 | .mapEntry _ _ _=>true
 | _=>ih) ops
def jmf (ops:List Oper):List Nat->(List Oper->Prop)->Prop
 | [],K=>K []
 | i::r,K=>match jfg ops i with
  | some o=>jmf ops r fun os=>K (o::os)
  | none=>False
theorem qtm {ops:List Oper}:∀ {L:List Nat} {K:List Oper->Prop},jmf ops L K->∃ os,os.length=L.length/\(∀ (k i:Nat) (o:Oper),L[k]?=some i->os[k]?=some o->ops[i]?=some o)/\K os
 | [],K,h=>⟨[],rfl,fun k i o h1 _=>by simp at h1,h⟩
 | i::r,K,h=>by
  unfold jmf at h;rw[qbw] at h;split at h
  ·rename_i o ho;obtain⟨os,h1,h2,h3⟩:=qtm h;refine⟨o::os,by simp[h1],fun k j p hj hp=>?_,h3⟩;cases k with
   | zero=>simp at hj hp;subst hj hp;exact ho
   | succ k=>exact h2 k j p Q9r (by simpa using hp)
  ·exact h.elim
abbrev jgf:=List (Nat×List Nat×List Nat)
def qxu:List Oper->Nat
 | []=>0
 | o::os=>qca o.op+qxu os
def jil (ops:List Oper) (x:Nat×List Nat×List Nat):jkx:=match jfg ops x.1 with
 | some o=>⟨qe0 ops o,o.dst.toList,x.2.1,x.2.2,0⟩
 | none=>⟨[],[],[],[],0⟩
def jh4 (ops:List Oper):jgf->Bool
 | []=>true
 | x::r=>r.all (fun y=>Nat.testBit (mkAt ops y.1) x.1||jfj (jil ops x) (jil ops y))&&jh4 ops r
def qpx:List Nat->Bool
 | []=>true
 | x::r=>r.all (fun y=>!(Nat.beq x y))&&qpx r
def jm2 (ops:List Oper) (A:jgf) (m:Nat) (hs:List Nat):Bool:=
 jh4 ops (A++[(m,hs,hs)])&&(qpx (A.map (·.1)++[m])&&(List.range ops.length).all fun i=>(A.any fun x=>Nat.beq x.1 i)||(Nat.beq i m||Nat.testBit (mkAt ops i) m))
def jmg (ops:List Oper) (A:jgf):Bool:=
 jh4 ops A&&(qpx (A.map (·.1))&&(List.range ops.length).all fun i=>A.any fun x=>Nat.beq x.1 i)
noncomputable def segK (P:Program) (G:Tys) (ops:List Oper) (L:List Nat) (sl:Nat) (st:St) (A:jgf) (K:Nat->St->jgf->Prop):Prop:=
 jmf ops L fun os=>wpR P G ops os sl st [] fun s acc=>je5 (sl+qxu os) fun sl'=>K sl' s (A++List.zip L acc.reverse)
def jim (P:Program) (g:FuncId) (vs:List Value) (h:Hp) (slot:Nat) (C:List Nat->Prop) (K:List Nat->Value->Mz->Prop):Prop:=
 ∃ (hs:List Nat) (R:Value->Mz->Prop),C hs/\(∀ h₂:Hp,(∀ q∈hs,h₂[q]?=h[q]?)->CallAll P g vs h₂ R)/\∀ v ms,R v ms->(∀ q∈ms.map (·.1),q∈hs)/\K hs v ms
def q5k (P:Program) (o:Oper) (st:St) (C:List Nat->Prop) (K:List Nat->Value->Mz->Prop):Prop:=
 ∃ q,C q/\qrz P o st q fun v ms=>(∀ i∈ms.map (·.1),i∈q)/\K q v ms
def jjy (P:Program) (G:Tys) (o:Oper) (st:St) (slot:Nat) (C:List Nat->Prop) (K:List Nat->Value->Mz->Prop):Prop:=
 match o.op with
 | .call ⟨.builtin .append,⟨[x,y]⟩,⟨[t,t']⟩⟩=>match Nat.beq t t' with
  | true=>jd3 x st fun p=>jd3 y st fun q=>match q with
   | .slice (some ⟨j,g,some _⟩) m _=>jd2 G t fun _ d=>match d with
    | .slice e=>jd2 G e fun ei _=>match ei.zero with
     | some z=>match qap z&&flatB z ei.size&&Nat.ble 1 ei.size with
      | true=>jgj st.h j fun cj=>match p with
       | .slice none 0 0=>N (Obl (C [j,slot]) (N (App0N cj g m ei.size ei.bytes z slot (K [j,slot]))))
       | .slice (some ⟨k,0,some s⟩) l c=>jgj st.h k fun ci=>N (Obl (C [k,j,slot]) (N (jmc ci k s l c cj g m ei.size ei.bytes z slot (K [k,j,slot]))))
       | .iface _ _=>N (q5k P o st C K)
       | _=>False
      | false=>False
     | none=>False
    | _=>False
   | .iface _ _=>N (q5k P o st C K)
   | _=>False
  | false=>False
 | .call ⟨.value f,xs,_⟩=>jd3 f st fun fv=>match fv with
  | .func (.func g) ⟨us⟩ ⟨cs⟩=>match us.all jfo&&cs.all jfo with
   | true=>jgm xs.toList st fun vs=>jgn (us++vs++cs) fun l=>N (jim P g l st.h slot C K)
   | false=>False
  | _=>False
 | _=>False
theorem qig {α β:Type} {p q:α->β->Prop}:∀ {a:List α} {b:List β},All2 p a b->(∀ x∈a,∀ u,p x u->q x u)->All2 q a b
 | [],[],_,_=>trivial
 | [],_::_,h,_=>h.elim
 | _::_,[],h,_=>h.elim
 | x::a,u::b,h,hm=>⟨hm x Q8R u h.1,qig h.2 fun y hy=>hm y (by simp[hy])⟩
theorem qxv {slot:Nat} {C:List Nat->Prop} {K:List Nat->Value->Mz->Prop} (hG:jef P G) (hs:st.h[slot]?=some none) (h:jjy P G o st slot C K):∃ q,C q/\qrz P o st q (fun v ms=>(∀ i∈ms.map (·.1),i∈q)/\K q v ms):=by
 unfold jjy at h;split at h
 ·rename_i x y t t' ho;cases hb:Nat.beq t t' with
  | false=>rw[hb] at h;exact h.elim
  | true=>
   rw[hb] at h;obtain rfl:=xM hb;obtain⟨p,hp,h⟩:=qar h;obtain⟨q,hq,h⟩:=qar h;split at h
   ·rename_i j g u m c2;obtain⟨i,d,h1,h2,h⟩:=qao hG h;split at h
    ·obtain⟨ei,ed,h3,h4,h⟩:=qao hG h;split at h
     ·rename_i z hz;cases hc:qap z&&flatB z ei.size&&Nat.ble 1 ei.size with
      | false=>rw[hc] at h;exact h.elim
      | true=>
       rw[hc] at h;simp only[xo,yE] at hc;obtain⟨cj,hj,h⟩:=qb4 h;split at h
       ·obtain⟨hC,h⟩:=h.out;rcases N.out h with ⟨v,hr,hm,h63,hby,hk⟩|⟨rfl,hk⟩
        ·refine⟨_,hC,fun st₂ ha hh=>?_⟩;exact qhn ho (ha x Q8Y _ hp) (ha y Q8Y _ hq) h2 h3 hz hc.1.1 hc.1.2 hc.2 ((hh j Q8R).trans hj) hr hm h63 hby ((hh slot Q8R).trans hs) fun cap hcap=>⟨by simp,hk cap hcap⟩
        ·refine⟨_,hC,fun st₂ ha hh=>?_⟩;exact qge ho (ha x Q8Y _ hp) (ha y Q8Y _ hq) h2 h3 ⟨by simp,hk⟩
       ·rename_i k' s' l' c';obtain⟨ci,hi,h⟩:=qb4 h;obtain⟨hC,h⟩:=h.out;obtain⟨v,hr,hf,hln,h63,hby,ha1,hk⟩:=N.out h;refine⟨_,hC,fun st₂ ha hh=>?_⟩;exact qmj ho (ha x Q8Y _ hp) (ha y Q8Y _ hq) h2 h3 hz hc.1.1 hc.1.2 hc.2 ((hh _ Q8R).trans hi) hln ((hh j Q8R).trans hj) hr hf h63 hby ((hh slot Q8R).trans hs)
         (fun hle=>by obtain⟨d,hw,hK⟩:=ha1 hle;exact⟨d,hw,by simp,hK⟩) (fun hlt cap hcap=>⟨by simp,hk hlt cap hcap⟩)
       ·exact N.out h
       ·exact h.elim
     ·exact h.elim
    ·exact h.elim
   ·exact N.out h
   ·exact h.elim
 ·rename_i f xs ts ho;obtain⟨v,hv,h⟩:=qar h;split at h
  ·rename_i g us cs;cases hb:us.all jfo&&cs.all jfo with
   | true=>
    rw[hb] at h;simp only[xo] at hb;obtain⟨vs,hx,h⟩:=qei h;have h:=qel (K:=fun l=>N (jim P g l st.h slot C K)) h;obtain⟨q,R,hC,h1,h2⟩:=h.out;refine⟨q,hC,fun st₂ ha hh=>?_⟩;refine qku ho (ha f Q8Y _ hv) hb.1 hb.2 ?_ (h1 st₂.h hh) h2;exact qig hx fun x hx' u hu=>ha x (by simp[ho,Op.operands,Call.operands];exact .inr (by simpa using hx')) _ hu
   | false=>rw[hb] at h;exact h.elim
  ·exact h.elim
 ·exact h.elim
def qxw (ops:List Oper) (o:Oper) (st:St) (K:Prop):Prop:=match o.guard with
 | none=>K
 | some (j,want)=>match jfg ops j with
  | some oj=>match oj.dst with
   | some d=>match st with
    | ⟨t0,_⟩=>jig t0 d fun g=>match g with
     | .bool b=>N (Obl (b=want) K)
     | _=>False
   | none=>False
  | none=>False
theorem qvu {K:Prop} (h:qxw ops o st K):qtj ops o st/\K:=by
 obtain⟨t0,h0⟩:=st;unfold qxw at h;unfold qtj;cases hg:o.guard with
 | none=>rw[hg] at h;exact⟨xb,h⟩
 | some jw=>
  obtain⟨j,want⟩:=jw;rw[hg] at h;simp only at h ⊢;rw[qbw] at h;split at h
  ·rename_i oj hj;split at h
   ·rename_i d hd;obtain⟨g,hgv,h⟩:=qeb h;split at h
    ·rename_i b;obtain⟨e,h'⟩:=N.out h;subst e;exact⟨⟨oj,d,hj,hd,hgv⟩,h'⟩
    ·exact h.elim
   ·exact h.elim
  ·exact h.elim
noncomputable def planK (P:Program) (G:Tys) (ops:List Oper):List (Nat×List Nat)->Nat->St->jgf->(St->Prop)->Prop
 | [],_,st,A,K=>N (Obl (jmg ops A=true) (K st))
 | (m,seg)::rest,sl,st,A,K=>match jfg ops m with
  | some om=>qxw ops om st (match jfg st.h sl with
    | some none=>jjy P G om st sl (fun hs=>jm2 ops A m hs=true) fun hs v ms=>qdg st om.dst v ms fun st'=>je5 (sl+qca om.op) fun sl'=>
      segK P G ops seg sl' st' (A++[(m,hs,hs)]) fun sl'' st'' A'=>planK P G ops rest sl'' st'' A' K
    | _=>False)
  | none=>False
theorem qxx {P:Program} {ops:List Oper}:∀ {os:List Oper} {L:List Nat} {rs:List Res} {st s:St},Trace P ops os st rs s->L.length=os.length->(∀ (k i:Nat) (o:Oper),L[k]?=some i->os[k]?=some o->ops[i]?=some o)->
  ∃ S:List Stp,jfc P ops S st s/\(∀ t∈S,t.mu=false)/\(∀ t∈S,ops[t.i]?=some t.o)/\(S.map fun t=>(t.i,t.f))=List.zip L (feet rs)
 | [],L,rs,st,s,h,hl,hx=>by
  obtain⟨rfl,rfl⟩:=h;obtain rfl:L=[]:=yS.1 hl;exact⟨[],rfl,by simp,by simp,rfl⟩
 | o::os,[],rs,st,s,h,hl,hx=>by simp at hl
 | o::os,i::L,rs,st,s,h,hl,hx=>by
  obtain⟨r,rs',rfl,h1,h2⟩:=h;obtain⟨S,g1,g2,g3,g4⟩:=qxx (L:=L) h2 Q99 (fun k j p hj hp=>hx (k+1) j p Q9r (by simpa using hp));refine⟨⟨i,o,r,(r.rh,r.ms.map (·.1)),false⟩::S,⟨⟨fun _=>h1,fun q hq=>hq,fun q hq=>hq⟩,g1⟩,?_,?_,?_⟩
  ·intro t ht;rcases xg.1 ht with rfl|ht
   ·rfl
   ·exact g2 t ht
  ·intro t ht;rcases xg.1 ht with rfl|ht
   ·exact hx 0 i o rfl rfl
   ·exact g3 t ht
  ·simp[feet,g4]
theorem qtn (hG:jef P G) {L:List Nat} {sl:Nat} {A:jgf} {K:Nat->St->jgf->Prop} (h:segK P G ops L sl st A K) :
  ∃ (S:List Stp) (s:St) (sl':Nat),jfc P ops S st s/\(∀ t∈S,t.mu=false)/\(∀ t∈S,ops[t.i]?=some t.o)/\K sl' s (A++S.map fun t=>(t.i,t.f)):=by
 obtain⟨os,h1,h2,h3⟩:=qtm h
 obtain⟨rs,s,ht,h4⟩:=qnk hG h3
 have h5:=qci (K:=fun sl'=>K sl' s (A++List.zip L ((feet rs).reverse++[]).reverse)) h4
 obtain⟨S,g1,g2,g3,g4⟩:=qxx ht h1.symm h2
 refine⟨S,s,sl+qxu os,g1,g2,g3,?_⟩
 rw[g4]
 simpa using h5
theorem qnp {ops:List Oper}:∀ {S:List Stp},(∀ t∈S,ops[t.i]?=some t.o)->jh4 ops (S.map fun t=>(t.i,t.f))=true->jge ops S
 | [],_,_=>fun k l a b _ hk=>by simp at hk
 | t::S,ha,h=>by
  simp only[xp,jh4,xo] at h;have foot:∀ c∈t::S,jil ops (c.i,c.f)=je1 ops c:=fun c hc=>by unfold jil je1;rw[qbw,ha c hc]
  intro k l a b hkl hk hl;cases l with
  | zero=>omega
  | succ l=>
   have hl:S[l]?=some b:=by simpa using hl
   cases k with
   | zero=>
    simp at hk;subst hk;have:=xU.1 h.1 (b.i,b.f) (xw.2 ⟨b,xG hl,rfl⟩);rw[foot t Q8R,foot b (by simp[xG hl])] at this;simpa[qxr] using this
   | succ k=>exact qnp (fun c hc=>ha c (by simp[hc])) h.2 k l a b Q8G Q9U hl
theorem qxy {ops:List Oper}:∀ {S:List Stp},(∀ t∈S,ops[t.i]?=some t.o)->qpx (S.map fun t=>t.i)=true->Own ops S
 | [],_,_=>⟨fun k s h=>by simp at h,fun k l a b hk=>by simp at hk⟩
 | t::S,ha,h=>by
  simp only[xp,qpx,xo] at h;have ih:=qxy (fun c hc=>ha c (by simp[hc])) h.2;have ne:∀ (l:Nat) (b:Stp),S[l]?=some b->t.i≠b.i:=fun l b hl e=>by
   have:=xU.1 h.1 b.i (xw.2 ⟨b,xG hl,rfl⟩);rw[e] at this;simp at this
  refine⟨fun k s hk=>ha s (xG hk),fun k l a b hk hl e=>?_⟩;cases k with
  | zero=>
   simp at hk;subst hk;cases l with
   | zero=>rfl
   | succ l=>exact absurd e (ne l b Q99)
  | succ k=>
   cases l with
   | zero=>simp at hl;subst hl;exact absurd e.symm (ne k a Q9U)
   | succ l=>rw[ih.inj k l a b Q9U Q99 e]
theorem qpy {P:Program} {G:Tys} {ops:List Oper} (hG:jef P G) {K:St->Prop}:∀ {rest:List (Nat×List Nat)} {sl:Nat} {st:St} {A:jgf},planK P G ops rest sl st A K->∀ S:List Stp,(S.map fun t=>(t.i,t.f))=A->(∀ t∈S,ops[t.i]?=some t.o)->jik P ops K rest S st
 | [],sl,st,A,h,S,hS,ha=>by
  obtain⟨h1,h2⟩:=N.out (show N (Obl (jmg ops A=true) (K st)) from h);subst hS;simp only[jmg,xo,y8] at h1;refine⟨qxy ha h1.2.1,qnp ha h1.1,fun i hi=>?_,h2⟩;have:=xU.1 h1.2.2 i Q91;obtain⟨x,hx,e⟩:=List.any_eq_true.1 this;obtain⟨t,ht,rfl⟩:=xw.1 hx;obtain⟨k,hk⟩:=List.getElem?_of_mem ht;exact⟨k,t,hk,by simpa using e⟩
 | (m,seg)::rest,sl,st,A,h,S,hS,ha=>by
  unfold planK at h;rw[qbw] at h;split at h
  ·rename_i om hm;obtain⟨hgd,h⟩:=qvu h
   ·rw[qbw] at h;split at h
    ·rename_i hs;obtain⟨q,hC,hM⟩:=qxv hG hs h;subst hS;simp only[jm2,xo,y8] at hC;refine⟨om,q,hm,hgd,fun t e1 e2 e3=>?_,fun i hi=>?_,fun st₂ h1 h2=>?_⟩
     ·have ha':∀ c∈S++[t],ops[c.i]?=some c.o:=fun c hc=>by
       rcases yM.1 hc with hc|hc
       ·exact ha c hc
       ·obtain rfl:=yW.1 hc;rw[e1,e2];exact hm
      refine⟨qxy ha' ?_,qnp ha' ?_⟩
      ·have:=hC.2.1;simp only[y9,xp,yh,e1];exact this
      ·have:=hC.1;simp only[y9,xp,yh,e1,e3];exact this
     ·have:=xU.1 hC.2.2 i Q91;simp only[yR] at this;rcases this with h|h|h
      ·obtain⟨x,hx,e⟩:=List.any_eq_true.1 h;obtain⟨t,ht,rfl⟩:=xw.1 hx;obtain⟨k,hk⟩:=List.getElem?_of_mem ht;exact .inl ⟨k,t,hk,by simpa using e⟩
      ·exact .inr (.inl Q9P)
      ·exact .inr (.inr h)
     ·intro X ρ a w R next Q hn;refine hM st₂ h1 h2 X ρ a w R next Q fun v ms ρ' x w' hF ha'=>hn v ms ρ' x w' ⟨hF.1,?_⟩ ha'
      have hk:=qci (K:=fun sl'=>segK P G ops seg sl' (st.after om.dst v ms) _ _) (qeh hF.2);obtain⟨S2,s2,sl2,g1,g2,g3,g4⟩:=qtn hG hk;refine⟨S2,s2,g2,g1,qpy hG g4 _ Q8R fun t ht=>?_⟩;rcases yM.1 ht with ht|ht
      ·exact ha t ht
      ·rcases xg.1 ht with rfl|ht
       ·exact hm
       ·exact g3 t ht
    ·exact h.elim
  ·exact h.elim
def jk8 (P:Program) (G:Tys) (ops:List Oper) (K:List Nat->List (Nat×List Nat)->Prop):Prop:=∃ L rest,qc1 ops 0=true/\K L rest
theorem Bz {K:List Nat->List (Nat×List Nat)->Prop} (L:List Nat) (rest:List (Nat×List Nat)) (he:qc1 ops 0=Bool.true) (k:K L rest):N (jk8 P G ops K):=N.mk ⟨L,rest,he,k⟩
noncomputable def planA (P:Program) (G:Tys) (ops:List Oper) (sl:Nat) (st:St) (K:St->Prop):Prop:=
 N (jk8 P G ops fun L rest=>segK P G ops L sl st [] fun sl' st' A=>planK P G ops rest sl' st' A K)
theorem qpz {ops:Array Oper} (hG:jef P G) {sl:Nat} {K:St->Prop} (h:planA P G ops.toList sl st K) (hq:∀ s ρ a w,K s->Rel X ρ s a w->Q .normal a w) (R:Rel X ρ st a w):wpAny P .any ops Q ops.size (Array.replicate ops.size false) a w:=by
 obtain⟨L,rest,he,h1⟩:=N.out h;obtain⟨S,s,sl',g1,g2,g3,g4⟩:=qtn hG h1;have hP:=qpy hG g4 S Q8R g3;obtain⟨o1,o2⟩:=qtl hP;have h0:∀ j,(Array.replicate ops.size false).getD j false=false:=fun j=>Q4N
 refine qxt he hq rest S s hP o1 o2 g1 ops.size (List.range ops.size) _ ⟨by simp,List.nodup_range,by simp,fun i hi=>?_,fun i hi=>by simpa using hi,fun j o _ h=>by rw[h0] at h;cases h⟩ (fun k t hk hm=>?_) (fun x _=>h0 _) ρ a w ?_
 ·rw[h0];simp[hi]
 ·rw[g2 t (xG hk)] at hm;cases hm
 ·rw[qez _ 0 st fun i _=>?_]
  ·exact R
  ·unfold DL;split
   ·exact h0 _
   ·rfl
def qto:Nat->(Hp->Prop)->Prop
 | 0,K=>K []
 | n+1,K=>qto n fun r=>K (none::r)
def jjj:Hp->Nat->(Hp->Prop)->Prop
 | [],n,K=>qto n K
 | x::r,n,K=>jjj r n fun r'=>K (x::r')
def jgg:Hp->(Hp->Prop)->Prop
 | [],K=>K []
 | some c::r,K=>jgg r fun r'=>K (some c::r')
 | none::r,K=>jgg r fun r'=>match r' with
  | []=>K []
  | x::q=>K (none::x::q)
def q5l:List Oper->Nat
 | []=>1
 | o::os=>qca o.op+q5l os
def SameH (h h':Hp):Prop:=∀ (i:Nat) (c:Chunk),h'[i]?=some (some c)↔h[i]?=some (some c)
theorem qml:∀ {n:Nat} {K:Hp->Prop},qto n K->∃ h',SameH [] h'/\K h'
 | 0,K,h=>⟨[],fun _ _=>Iff.rfl,h⟩
 | n+1,K,h=>by
  obtain⟨h',hs,hk⟩:=qml (n:=n) h;exact Q2J
theorem qtp:∀ {h:Hp} {n:Nat} {K:Hp->Prop},jjj h n K->∃ h',SameH h h'/\K h'
 | [],n,K,h=>qml h
 | x::r,n,K,h=>by
  obtain⟨h',hs,hk⟩:=qtp (h:=r) (n:=n) h;exact Q2J
theorem qeo:∀ {h:Hp} {K:Hp->Prop},jgg h K->∃ h',SameH h h'/\K h'
 | [],K,h=>⟨[],fun _ _=>Iff.rfl,h⟩
 | some x::r,K,h=>by
  obtain⟨h',hs,hk⟩:=qeo (h:=r) h;exact Q2J
 | none::r,K,h=>by
  obtain⟨h',hs,hk⟩:=qeo (h:=r) h;split at hk
  ·refine⟨[],fun i c=>?_,hk⟩;cases i with
   | zero=>simp
   | succ i=>simpa using hs i c
  ·exact Q2J
variable {h:Hp}
theorem SameH.fil {h':Hp} (s:SameH h h') (i:Nat):Fil h' i↔Fil h i:=⟨fun⟨c,hc⟩=>⟨c,(s i c).1 hc⟩,fun⟨c,hc⟩=>⟨c,(s i c).2 hc⟩⟩
theorem HOK.same {h':Hp} (H:HOK X ρ h w) (s:SameH h h'):HOK X ρ h' w:=by
 refine⟨H.evo,fun i hi=>⟨(s.fil i).2 (H.base i hi).1,(H.base i hi).2⟩,fun i c hi=>H.lt i c ((s i c).1 hi),fun i c hi j hj=>?_,fun i c hi=>H.own i c ((s i c).1 hi),fun i c j d hi ho hj=>H.sep i c j d ((s i c).1 hi) ho ((s j d).1 hj),?_⟩
 ·obtain⟨x,hx,hd⟩:=H.cell i c ((s i c).1 hi) j hj;exact Q52
 ·obtain⟨S,E⟩:=H.ext;exact E.less fun i c hi=>⟨rfl,c,(s i c).1 hi,nlr _,.inr rfl⟩
theorem Rel.same {h':Hp} (R:Rel X ρ st a w) (s:SameH st.h h'):Rel X ρ ⟨st.t,h'⟩ a w:=by
 refine⟨R.defers,R.size,fun i v hi=>?_,R.heap.same s⟩;obtain⟨x,hx,hd⟩:=R.slot i v hi;exact Q52
def jft:List Oper->List Bool
 | []=>[]
 | _::r=>false::jft r
def jin:List Bool->Bool
 | []=>true
 | b::r=>b&&jin r
def mayB (listed:List Bool) (es:List Edge):Bool:=match es with
 | []=>true
 | e::r=>(!Region.binds .any e||(match jfg listed e.on with
  | some b=>b
  | none=>false))&&mayB listed r
def jio:List Bool->Nat->(List Bool->Prop)->Prop
 | [],_,K=>K []
 | _::r,0,K=>K (true::r)
 | b::r,n+1,K=>jio r n fun r'=>K (b::r')
def jhf (listed:List Bool) (F:Nat->Oper->Prop):List Oper->List Bool->Nat->Prop
 | o::os,b::bs,k=>match !b&&mayB listed o.after.toList with
  | true=>N (je5 k (fun k=>F k o)/\jhf listed F os bs (k+1))
  | false=>jhf listed F os bs (k+1)
 | _,_,_=>N True
def wpX (P:Program) (G:Tys) (ops:List Oper):Nat->List Bool->Nat->St->(St->Prop)->Prop
 | 0,listed,_,st,K=>match jin listed with
  | true=>K st
  | false=>False
 | fuel+1,listed,sl,st,K=>match jin listed with
  | true=>K st
  | false=>jhf listed (fun k o=>match st with
   | ⟨t0,h0⟩=>match jfg h0 sl with
    | some none=>match o.guard with
     | none=>jgd P G o ⟨t0,h0⟩ sl fun v ms _=>qdg ⟨t0,h0⟩ o.dst v ms fun st'=>je5 (sl+qca o.op) fun sl'=>jio listed k fun listed'=>wpX P G ops fuel listed' sl' st' K
     | some _=>False
    | _=>False) ops listed 0
theorem qtq:∀ {l:List Bool},jin l=true->∀ i,i<l.length->l[i]?=some true
 | [],_,i,hi=>by simp at hi
 | b::r,h,i,hi=>by
  have h:(b&&jin r)=true:=h;simp only[xo] at h;cases i with
  | zero=>simp[h.1]
  | succ i=>
   show r[i]?=some true;exact qtq (l:=r) h.2 i (by simp only[xQ] at hi;omega)
theorem qxz:∀ {l:List Bool},jin l=false->∃ i:Nat,l[i]?=some false
 | [],h=>by cases h
 | b::r,h=>by
  cases b with
  | false=>exact⟨0,rfl⟩
  | true=>
   have h:(true&&jin r)=false:=h;obtain⟨i,hi⟩:=qxz (l:=r) Q9P;exact⟨i+1,by simpa using hi⟩
theorem qp0:∀ {l:List Bool} {n:Nat} {K:List Bool->Prop},jio l n K->K (l.set n true)
 | [],n,K,h=>h
 | b::r,0,K,h=>h
 | b::r,n+1,K,h=>qp0 (l:=r) (n:=n) h
theorem qx0 {listed:List Bool}:∀ {es:List Edge},(∀ e∈es,Region.binds .any e=true->listed[e.on]?=some true)->mayB listed es=true
 | [],_=>rfl
 | e::r,h=>by
  have h1:=qx0 (es:=r) fun x hx=>h x (yn _ hx)
  show((!Region.binds .any e||_)&&mayB listed r)=true;rw[h1,za];cases hb:Region.binds .any e with
  | false=>rfl
  | true=>rw[qbw,h e (yJ ..) hb];rfl
theorem qp1 {listed:List Bool} {F:Nat->Oper->Prop}:∀ {os:List Oper} {bs:List Bool} {k:Nat},jhf listed F os bs k->∀ (j:Nat) (o:Oper),os[j]?=some o->bs[j]?=some false->mayB listed o.after.toList=true->F (k+j) o
 | [],_,_,_,j,o,hj,_,_=>by simp at hj
 | o::os,[],_,_,j,_,_,hb,_=>by simp at hb
 | o::os,b::bs,k,h,j,o',hj,hb,hm=>by
  unfold jhf at h;cases j with
  | zero=>
   simp only[yy,Option.some.injEq] at hj hb;subst hj hb;rw[show(!false&&mayB listed o.after.toList)=true by rw[hm];rfl] at h;exact qci (K:=fun k=>F k o) h.out.1
  | succ j=>
   have h':jhf listed F os bs (k+1):=by
    split at h
    ·exact h.out.2
    ·exact h
   have:=qp1 h' j o' Q9r (by simpa using hb) hm;rw[show k+1+j=k+(j+1) by omega] at this;exact this
theorem qja:∀ {l:List Oper},(jft l).length=l.length
 | []=>rfl
 | _::r=>by show(jft r).length+1=_;rw[qja];rfl
theorem qmm:∀ {l:List Oper} {i:Nat},i<l.length->(jft l)[i]?=some false
 | [],i,h=>by simp at h
 | _::r,0,_=>rfl
 | _::r,i+1,h=>by
  show(jft r)[i]?=some false;exact qmm (l:=r) (i:=i) (by simp only[xQ] at h;omega)
theorem q66 {ops:Array Oper} (hG:jef P G) (he:qc1 ops.toList 0=true) {K:St->Prop} (hq:∀ s ρ a w,K s->Rel X ρ s a w->Q .normal a w) :
  ∀ (fuel:Nat) (listed:List Bool) (sl:Nat) (st:St),wpX P G ops.toList fuel listed sl st K->listed.length=ops.size->∀ ρ a w,Rel X ρ st a w->wpAny P .any ops Q fuel listed.toArray a w:=by
 have full:∀ {listed:List Bool},jin listed=true->listed.length=ops.size->Region.ready .any ops listed.toArray=[]:=fun {listed} h hl=>by
  apply List.eq_nil_iff_forall_not_mem.2;intro j hj;obtain⟨o,h1,h2,_⟩:=qie (listed:=listed.toArray) Q99 hj;have hlt:=(xV.1 h1).1;have:=qtq h j Q8G;simp[yl,this] at h2
 have open_:∀ {listed:List Bool},jin listed=false->listed.length=ops.size->Region.ready .any ops listed.toArray≠[]:=fun {listed} h hl hr=>by
  obtain⟨i,hi⟩:=qxz h;have hlt:=(xe.1 hi).1;have:=qtk he (listed:=listed.toArray) Q99 hr i Q8G;simp[yl,hi] at this
 intro fuel
 induction fuel with
 | zero=>
  intro listed sl st h hl ρ a w R;unfold wpX at h;split at h
  ·rename_i hb;exact⟨full hb hl,hq _ _ _ _ h R⟩
  ·exact h.elim
 | succ fuel ih=>
  intro listed sl st h hl ρ a w R;unfold wpX at h;split at h
  ·rename_i hb;refine⟨fun _=>hq _ _ _ _ h R,fun i hi=>?_⟩;rw[full hb hl] at hi;cases hi
  ·rename_i hb;refine⟨fun hr=>absurd hr (open_ hb hl),fun i hi=>?_⟩;obtain⟨o,h1,h2,h3⟩:=qie (listed:=listed.toArray) Q99 hi;have hlt:=(xV.1 h1).1;have hfi:listed[i]?=some false:=by
    have hx:listed[i]?=some listed[i]:=xr Q8G;simp only[yl,zm,hx,yD] at h2;rw[hx,h2]
   have hF:=qp1 h i o (by simpa using h1) hfi (qx0 fun e hee hbe=>by
    have:=h3 e hee hbe;simp only[yl,zm] at this;cases hx:listed[e.on]? with
    | none=>rw[hx] at this;cases this
    | some b=>rw[hx] at this;simp only[yD] at this;rw[this])
   rw[xn] at hF;obtain⟨t0,h0⟩:=st;simp only at hF;rw[qbw] at hF;split at hF
   ·rename_i hs;split at hF
    ·rename_i hg;obtain⟨v,ms,rh,hok,hk⟩:=qia hG hs hF;have hk:=qp0 (qci (K:=fun sl'=>jio listed i fun listed'=>wpX P G ops.toList fuel listed' sl' _ K) (qeh hk));unfold wpOp;rw[h1];have hw:Region.wanted o (yielded ops a.tmps)=true:=by
      unfold Region.wanted;rw[hg]
     simp only;rw[if_pos hw];refine .inl (hok.here X ρ a w R _ _ fun ρ' x w' ha=>?_);have hset:listed.toArray.setIfInBounds i true=(listed.set i true).toArray:=by simp
     rw[hset];exact ih _ _ _ hk Q99 ρ' _ _ (qfl R ha)
    ·exact hF.elim
   ·exact hF.elim
def jpg (P:Program) (G:Tys) (ops:List Oper) (sl:Nat) (st:St) (K:St->Prop):Prop:=
 qc1 ops 0=true/\∃ s0:St,wpX P G ops ops.length (jft ops) sl st (fun s=>match s with
  | ⟨t,h1⟩=>jgg h1 fun h'=>N ((⟨t,h'⟩:St)=s0))/\K s0
noncomputable def regK (P:Program) (G:Tys) (ops:Array Oper) (draw:Bool) (st:St) (K:St->Prop):Prop:=
 match st with
 | ⟨t0,h0⟩=>jjj h0 (q5l ops.toList) fun h=>je5 h0.length fun sl=>match draw with
  | false=>wpQ P G ops.toList ops.toList sl ⟨t0,h⟩ fun s=>match s with
   | ⟨t,h1⟩=>jgg h1 fun h'=>K ⟨t,h'⟩
  | true=>match jmr ops.toList with
   | false=>match entB ops.toList with
    | false=>jm1 (callB ops.toList) (wpR P G ops.toList ops.toList sl ⟨t0,h⟩ [] fun s acc=>match s with
      | ⟨t,h1⟩=>jgg h1 fun h'=>N (Obl (qpu ops.toList acc.reverse=true/\qc1 ops.toList 0=true) (K ⟨t,h'⟩)))
     (planA P G ops.toList sl ⟨t0,h⟩ fun s=>match s with
      | ⟨t,h1⟩=>jgg h1 fun h'=>K ⟨t,h'⟩)
    | true=>N (jpg P G ops.toList sl ⟨t0,h⟩ K)
   | true=>planA P G ops.toList sl ⟨t0,h⟩ fun s=>match s with
    | ⟨t,h1⟩=>jgg h1 fun h'=>K ⟨t,h'⟩
section
variable {P:Program} {G:Tys}
variable {st:St} {Q:Exit->Act->World->Prop} {ρ:Rz} {a:Act} {w:World}
theorem q67 {ops:Array Oper} {draw:Bool} {K:St->Prop} {id:Nat} {X:Ctx} (hG:jef P G) (hm:P.follows .mixedOrders=true) (h:regK P G ops draw st K) (hq:∀ s ρ a w,K s->Rel X ρ s a w->Q .normal a w) (R:Rel X ρ st a w) :
  (Code.region id ops draw).wp P Q a w:=by
 obtain⟨t0,h0⟩:=st
 obtain⟨h1,hs1,h⟩:=qtp h
 have R1:=R.same hs1
 cases draw with
 | false=>
  have h:=qci (K:=fun sl=>wpQ P G ops.toList ops.toList sl ⟨t0,h1⟩ _) h;refine wp_region ?_;rw[List.range_eq_range'];refine qxn (X:=X) hG (fun s ρ a w hk R'=>?_) ops.toList _ 0 _ h (fun i _=>by simp) ρ a w R1;exact Q4s
 | true=>
  have h:=qci (K:=fun sl=>match jmr ops.toList with
   | false=>match entB ops.toList with
    | false=>jm1 (callB ops.toList) (wpR P G ops.toList ops.toList sl ⟨t0,h1⟩ [] _) (planA P G ops.toList sl ⟨t0,h1⟩ _)
    | true=>N (jpg P G ops.toList sl ⟨t0,h1⟩ K)
   | true=>planA P G ops.toList sl ⟨t0,h1⟩ _) h
  split at h
  ·split at h
   ·rcases q2h h with h|h
    ·obtain⟨rs,s,ht,h⟩:=qnk hG h;obtain⟨t2,h3⟩:=s;obtain⟨h2,hs2,h⟩:=qeo h;obtain⟨⟨hc,he⟩,h⟩:=h.out;refine wp_region_any hm ?_;have hc':qpu ops.toList (feet rs)=true:=by simpa using hc
     refine qxo (X:=X) (st':=⟨t2,h3⟩) (ρ:=ρ) ht hc' he (fun ρ a w R'=>hq _ ρ a w h (R'.same hs2)) ?_;exact⟨R1.defers,R1.size,R1.slot,R1.heap.drew⟩
    ·exact Q2L
   ·obtain⟨he,s0,h,k0⟩:=h.out;refine wp_region_any hm ?_;have:=q66 (X:=X) (ops:=ops) hG he (Q:=Q) (K:=fun s=>match s with
     | ⟨t,h1⟩=>jgg h1 fun h'=>N ((⟨t,h'⟩:St)=s0)) (fun s ρ a w hk R'=>by
      obtain⟨t2,h3⟩:=s;obtain⟨h2,hs2,hk⟩:=qeo hk;have hk:=hk.out;subst hk;exact hq _ ρ a w k0 (R'.same hs2)) _ _ _ _ h (by rw[qja];simp) ρ a _ ⟨R1.defers,R1.size,R1.slot,R1.heap.drew⟩
    have hfa:(jft ops.toList).toArray=Array.replicate ops.size false:=by
     apply zy;intro i;rw[Array.getElem?_replicate,zm];split
     ·rename_i hi;exact qmm Q91
     ·rename_i hi;exact ye (by rw[qja];simpa using hi)
    rw[hfa] at this;simpa using this
  ·exact Q2L
def jjk (F:Nat->Prop) (v:Value):Prop:=∀ ρ ρ',AgreeOn F ρ ρ'->den ρ' v=den ρ v
def qx1 (F:Nat->Prop) (v:Value):Prop:=∀ ρ ρ',AgreeOn F ρ ρ'->den1 ρ' v=den1 ρ v
structure Wk (n0:Nat) (st s:St):Prop where
 len:s.t.length=st.t.length
 slot:∀ (i:Nat) (v:Value),s.t[i]?=some (some v)->st.t[i]?=some (some v)
 chunk:∀ (i:Nat) (c:Chunk),s.h[i]?=some (some c)->∃ d,st.h[i]?=some (some d)/\(c.own=true->d.own=true)/\c.n<=d.n/\(∀ j,j<c.n->c.f j=d.f j)/\(c.x=Ext.none\/c.x=d.x)
 base:∀ i,i<n0->Fil st.h i->Fil s.h i
 scope:(∀ i,Fil st.h i->Fil s.h i)\/((∀ (i:Nat) (v:Value),s.t[i]?=some (some v)->jjk (Fil s.h) v)/\∀ (i:Nat) (c:Chunk),s.h[i]?=some (some c)->∀ j,j<c.n->qx1 (Fil s.h) (c.f j))
theorem Wk.refl (n0:Nat) (st:St):Wk n0 st st:=⟨rfl,fun _ _ h=>h,fun i c h=>⟨c,h,id,nlr _,fun _ _=>rfl,.inr rfl⟩,fun _ _ h=>h,.inl fun _ h=>h⟩
theorem Wk.rel {X:Ctx} {s:St} (h:Wk X.n0 st s) (R:Rel X ρ st a w):Rel X ρ s a w:=by
 have fil:∀ i,Fil s.h i->Fil st.h i:=fun i ⟨c,hc⟩=>by obtain⟨d,hd,_⟩:=h.chunk i c hc;exact⟨d,hd⟩
 refine⟨R.defers,R.size.trans h.len.symm,fun i v hi=>?_,R.heap.evo,fun i hi=>⟨h.base i hi (R.heap.base i hi).1,(R.heap.base i hi).2⟩,fun i c hi=>?_,fun i c hi j hj=>?_,fun i c hi ho j hj=>?_,fun i c j d hi ho hj hne=>?_,?_⟩
 ·obtain⟨x,hx,hd⟩:=R.slot i v (h.slot i v hi);refine⟨x,hx,?_⟩;rcases h.scope with hs|⟨hs,_⟩
  ·exact hd.more (AgreeOn.refl _ _) hs
  ·exact fun r hr=>(hs i v hi ρ r hr).trans hd.self
 ·obtain⟨d,hd,_⟩:=h.chunk i c hi;exact R.heap.lt i d hd
 ·obtain⟨d,hd,_,hn,hf,_⟩:=h.chunk i c hi;obtain⟨x,hx,hxd⟩:=R.heap.cell i d hd j (xj hj hn);refine⟨x,hx,?_⟩;rcases h.scope with hs|⟨_,hs⟩
  ·rw[hf j hj];exact hxd.more (AgreeOn.refl _ _) hs
  ·exact fun r hr=>(hs i c hi j hj ρ r hr).trans (by rw[hf j hj];exact hxd.self)
 ·obtain⟨d,hd,hod,hn,hf,_⟩:=h.chunk i c hi;exact R.heap.own i d hd (hod ho) j (xj hj hn)
 ·obtain⟨c',hc',hoc,_⟩:=h.chunk i c hi;obtain⟨d',hd',_⟩:=h.chunk j d hj;exact R.heap.sep i c' j d' hc' (hoc ho) hd' hne
 ·obtain⟨S,E⟩:=R.heap.ext;exact E.less fun i c hi=>by
   obtain⟨d,hd,_,hn,_,hx⟩:=h.chunk i c hi;exact⟨rfl,d,hd,hn,hx⟩
def Wkg (n0:Nat) (st s:St):Prop:=∀ (X:Ctx) (ρ:Rz) (a:Act) (w:World),X.n0=n0->Rel X ρ st a w->∃ ρ',Rel X ρ' s a w
theorem Wk.g {n0:Nat} {s:St} (h:Wk n0 st s):Wkg n0 st s:=fun X ρ a w hn R=>⟨ρ,by subst hn;exact h.rel R⟩
def thenQ (K:St->Prop) (Q:Exit->St->Prop):Exit->St->Prop
 | .normal,st=>K st
 | e,st=>Q e st
def q5m (id:Nat) (Q:Exit->St->Prop):Exit->St->Prop
 | .exit i,st=>match Nat.beq i id with
  | true=>Q .normal st
  | false=>Q (.exit i) st
 | e,st=>Q e st
def Lift (X:Ctx) (Q:Exit->St->Prop):Exit->Act->World->Prop:=fun e a w=>∃ ρ s,Rel X ρ s a w/\Q e s
def jk9 (P:Program) (n0:Nat) (c:Code) (Q:Exit->St->Prop) (st:St):Prop:=∀ X:Ctx,X.n0=n0->∀ ρ a w,Rel X ρ st a w->c.wp P (Lift X Q) a w
def qx2 (Q:Exit->St->Prop):Exit->St->Prop
 | .goto _,_=>False
 | e,st=>Q e st
def jm3 (P:Program) (n0:Nat) (c:Code) (l:Nat) (Q:Exit->St->Prop) (st:St):Prop:=
 ∃ (α:Type) (mk:Nat->α->St) (μ:Nat->α->Nat) (ok:Nat->α->Prop) (nx:Nat->α->Nat->St->Prop),(∀ l x l' s,nx l x l' s->∃ y,ok l' y/\Wkg n0 s (mk l' y)/\μ l' y<μ l x)/\(∃ x,ok l x/\Wkg n0 st (mk l x))/\∀ l x,ok l x->∃ r,findLabel c l=some r/\jk9 P n0 r (fun e s=>match e with|.goto l'=>nx l x l' s|e=>Q e s) (mk l x)
def jjz (P:Program) (n0:Nat) (c r:Code) (l:Nat) (Q:Exit->St->Prop) (st:St):Prop:=jk9 P n0 r (qx2 Q) st\/jm3 P n0 c l Q st
def q5n (P:Program) (n0:Nat) (c:Code) (Q:Exit->St->Prop):Exit->St->Prop
 | .goto l,st=>match findLabel c l with
  | some r=>N (jjz P n0 c r l Q st)
  | none=>False
 | e,st=>Q e st
def qr0 (P:Program) (c:Code) (l:Nat) (Q:Exit->Act->World->Prop) (a:Act) (w:World):Prop:=
 ∀ (b:Frame) (k:List Item) (cs:List Frame),∃ r e a' w',findLabel c l=some r/\Q e a' w'/\Arrives P (lone (b.at a (.code r :: .inScope c::k)) cs w) b k cs e a' w'
variable {c:Code}
theorem qp2 {P:Program} {r:Code} {l:Nat} (hf:findLabel c l=some r) (hr:r.wp P (Exit.noGoto Q) a w):qr0 P c l Q a w:=fun b k cs=>by
 obtain⟨e₂,a₂,w₂,hq₂,harr₂⟩:=hr b (.inScope c::k) cs;cases e₂ with
 | normal=>exact⟨r,.normal,a₂,w₂,hf,hq₂,Steps.trans harr₂ (.one step_inScope)⟩
 | exit id=>exact⟨r,.exit id,a₂,w₂,hf,hq₂,fun k' hk=>harr₂ k' (by simp[exitTo,hk])⟩
 | goto l=>exact hq₂.elim
 | ret=>exact⟨r,_,a₂,w₂,hf,hq₂,harr₂⟩
 | panic ch=>exact⟨r,_,a₂,w₂,hf,hq₂,harr₂⟩
 | outgrown=>exact⟨r,_,a₂,w₂,hf,hq₂,harr₂⟩
theorem qp3 {P:Program} {α:Type} (J:Nat->α->Act->World->Prop) (μ:Nat->α->Nat)
  (hJ:∀ l x a w,J l x a w->∃ r,findLabel c l=some r/\r.wp P (fun e a' w'=>match e with|.goto l'=>∃ y,J l' y a' w'/\μ l' y<μ l x|e=>Q e a' w') a w):∀ (n l:Nat) (x:α) (a:Act) (w:World),μ l x<n->J l x a w->qr0 P c l Q a w:=by
 intro n
 induction n with
 | zero=>intro l x a w h;exact absurd h (xZ _)
 | succ n ih=>
  intro l x a w hn hj b k cs;obtain⟨r,hf,hr⟩:=hJ l x a w hj;obtain⟨e₂,a₂,w₂,hq₂,harr₂⟩:=hr b (.inScope c::k) cs;cases e₂ with
  | normal=>exact⟨r,.normal,a₂,w₂,hf,hq₂,Steps.trans harr₂ (.one step_inScope)⟩
  | exit id=>exact⟨r,.exit id,a₂,w₂,hf,hq₂,fun k' hk=>harr₂ k' (by simp[exitTo,hk])⟩
  | goto l'=>
   obtain⟨y,hy,hlt⟩:=hq₂;obtain⟨r₂,e₃,a₃,w₃,hf₂,hq₃,harr₃⟩:=ih l' y a₂ w₂ Q8G hy b k cs;have hg:gotoIn l' (.inScope c::k)=some (.code r₂ :: .inScope c::k):=by simp[gotoIn,hf₂]
   exact⟨r,e₃,a₃,w₃,hf,hq₃,.of_steps (harr₂ _ hg) harr₃⟩
  | ret=>exact⟨r,_,a₂,w₂,hf,hq₂,harr₂⟩
  | panic ch=>exact⟨r,_,a₂,w₂,hf,hq₂,harr₂⟩
  | outgrown=>exact⟨r,_,a₂,w₂,hf,hq₂,harr₂⟩
theorem qp4 {P:Program} (h:c.wp P (fun e a w=>match e with
  | .goto l=>qr0 P c l Q a w
  | e=>Q e a w) a w):(Code.scope c).wp P Q a w:=by
 intro b k cs
 obtain⟨e,a₁,w₁,hq,harr⟩:=h b (.inScope c::k) cs
 cases e with
 | normal=>exact⟨.normal,a₁,w₁,hq,.head step_scope (Steps.trans harr (.one step_inScope))⟩
 | exit id=>exact⟨.exit id,a₁,w₁,hq,fun k' hk=>.head step_scope (harr k' (by simp[exitTo,hk]))⟩
 | goto l=>
  obtain⟨r,e₂,a₂,w₂,hf,hq₂,harr₂⟩:=hq b k cs;have hg:gotoIn l (.inScope c::k)=some (.code r :: .inScope c::k):=by simp[gotoIn,hf]
  exact⟨e₂,a₂,w₂,hq₂,.of_steps (Steps.trans (Steps.one step_scope) (harr _ hg)) harr₂⟩
 | ret=>exact⟨_,a₁,w₁,hq,.of_steps (.one step_scope) harr⟩
 | panic ch=>exact⟨_,a₁,w₁,hq,.of_steps (.one step_scope) harr⟩
 | outgrown=>exact⟨_,a₁,w₁,hq,.of_steps (.one step_scope) harr⟩
def jhg (P:Program) (G:Tys) (n0:Nat) (c:Code) (B:(Exit->St->Prop)->St->Prop) (Q:Exit->St->Prop) (st:St):Prop:=
 ∃ (α:Type) (mk:α->St) (inv:α->Prop) (μ:α->Nat) (nx:α->St->Prop),(∀ x s,nx x s->∃ y,inv y/\Wkg n0 s (mk y)/\μ y<μ x)/\(∃ x,inv x/\Wkg n0 st (mk x))/\∀ x,inv x->B (thenQ (nx x) Q) (mk x)
abbrev jfd:=(Exit->St->Prop)->St->Prop
def jm4 (A B:jfd):jfd:=fun Q st=>A (thenQ (B Q) Q) st
def qx3 (c:Operand) (A B:jfd):jfd:=fun Q st=>
 match st with
 | ⟨t0,h0⟩=>match c with
  | .tmp t=>jig t0 t fun g=>match g with
   | .bool b=>N (jif b (jhx t0 t (.bool true) fun l=>A Q ⟨l,h0⟩) (jhx t0 t (.bool false) fun l=>B Q ⟨l,h0⟩))
   | _=>False
  | .const (.bool true)=>A Q ⟨t0,h0⟩
  | .const (.bool false)=>B Q ⟨t0,h0⟩
  | _=>False
def q68 (id:Nat) (A:jfd):jfd:=fun Q st=>A (q5m id Q) st
def jak (P:Program) (G:Tys) (n0:Nat) (c:Code) (A:jfd):jfd:=fun Q st=>N (jhg P G n0 c A Q st)
def q69 (P:Program) (n0:Nat) (c:Code) (A:jfd):jfd:=fun Q st=>A (q5n P n0 c Q) st
noncomputable def wpC (P:Program) (G:Tys) (n0:Nat) (c:Code):jfd:=
 Code.rec (motive:=fun _=>jfd) (fun Q st=>Q .normal st) (fun _ ops draw Q st=>regK P G ops draw st (Q .normal)) (fun _ _ A B=>jm4 A B) (fun c _ _ A B=>qx3 c A B) (fun id _ A=>q68 id A) (fun c A=>jak P G n0 c A)
  (fun _ _ _ _ _ _ _ _=>False) (fun id Q st=>Q (.exit id) st) (fun c A=>q69 P n0 c A) (fun _ Q st=>Q .normal st) (fun l Q st=>Q (.goto l) st) (fun Q st=>Q .ret st) (fun _ _ _=>False) c
theorem qr1 (hG:jef P G) (hm:P.follows .mixedOrders=true) (X:Ctx):∀ (c:Code) (Q:Exit->St->Prop) (st:St),wpC P G X.n0 c Q st->∀ ρ a w,Rel X ρ st a w->c.wp P (Lift X Q) a w:=by
 intro c
 induction c with
 | skip=>exact fun Q st h ρ a w R=>wp_skip ⟨ρ,st,R,h⟩
 | label l=>exact fun Q st h ρ a w R=>wp_label ⟨ρ,st,R,h⟩
 | region id ops draw=>exact fun Q st h ρ a w R=>q67 (X:=X) hG hm h (fun s ρ a w hk R'=>⟨ρ,s,R',hk⟩) R
 | seq x y ihx ihy=>
  intro Q st h ρ a w R;refine wp_seq (wp_mono (ihx _ _ h ρ a w R) ?_);rintro e a' w' ⟨ρ',s,R',hq⟩;cases e with
  | normal=>exact ihy Q s hq ρ' a' w' R'
  | _=>exact⟨ρ',s,R',hq⟩
 | cond c x y ihx ihy=>
  intro Q st h ρ a w R;obtain⟨t0,h0⟩:=st;cases c with
  | tmp t=>
   have h:qx3 (.tmp t) (wpC P G X.n0 x) (wpC P G X.n0 y) Q ⟨t0,h0⟩:=h;unfold qx3 at h;simp only at h;obtain⟨g,hg,h⟩:=qeb (l:=t0) (n:=t) h;split at h
   ·rename_i b;obtain⟨z,hz,hzd⟩:=R.slot t _ hg;have hzb:z=.bool b:=hzd.self.symm;have he:a.eval (.tmp t)=.bool b:=by simp[Act.eval,yl,hz,hzb]
    have h:=h.out;refine wp_cond_split he (fun e=>?_) (fun e=>?_)
    ·subst e;have h:=qec (K:=fun l=>wpC P G X.n0 x Q ⟨l,h0⟩) (h.1 rfl);rw[qha hg] at h;exact ihx Q ⟨t0,h0⟩ h ρ a w R
    ·subst e;have h:=qec (K:=fun l=>wpC P G X.n0 y Q ⟨l,h0⟩) (h.2 rfl);rw[qha hg] at h;exact ihy Q ⟨t0,h0⟩ h ρ a w R
   ·exact h.elim
  | const v=>
   cases v with
   | bool b=>
    cases b with
    | true=>exact wp_cond_true rfl (ihx Q ⟨t0,h0⟩ h ρ a w R)
    | false=>exact wp_cond_false rfl (ihy Q ⟨t0,h0⟩ h ρ a w R)
   | _=>exact h.elim
  | _=>exact h.elim
 | block id c ih=>
  intro Q st h ρ a w R;refine wp_block (wp_mono (ih _ _ h ρ a w R) ?_);rintro e a' w' ⟨ρ',s,R',hq⟩;cases e with
  | exit i=>
   simp only[q5m] at hq;simp only[Exit.inBlock];cases hb:Nat.beq i id with
   | true=>
    rw[hb] at hq;have:=xM hb;rw[if_pos this];exact⟨ρ',s,R',hq⟩
   | false=>
    rw[hb] at hq;have:i≠id:=fun e=>by subst e;rw[Nat.beq_refl] at hb;cases hb
    rw[if_neg this];exact⟨ρ',s,R',hq⟩
  | _=>exact⟨ρ',s,R',hq⟩
 | loop c ih=>
  intro Q st h ρ a w R;obtain⟨α,mk,inv,μ,nx,hnx,⟨x0,hx0,hw0⟩,hr⟩:=N.out h;intro b k cs;have key:∀ n x ρ a w,μ x=n->inv x->Rel X ρ (mk x) a w->
    ∃ e a' w',Lift X Q e a' w'/\Arrives P (lone (b.at a (.code c :: .inLoop c::k)) cs w) b k cs e a' w':=by
   intro n
   induction n using Nat.strongRecOn with
   | _ n ihn=>
    intro x ρ a w hn hx R;obtain⟨e,a₁,w₁,⟨ρ₁,s,R₁,hq⟩,harr⟩:=ih _ _ (hr x hx) ρ a w R b (.inLoop c::k) cs;cases e with
    | normal=>
     obtain⟨y,hy,hwk,hlt⟩:=hnx _ _ hq;obtain⟨ρ₂,R₂⟩:=hwk X ρ₁ a₁ w₁ rfl R₁;obtain⟨e₂,a₂,w₂,hq₂,harr₂⟩:=ihn (μ y) (hn▸hlt) y ρ₂ a₁ w₁ rfl hy R₂;exact⟨e₂,a₂,w₂,hq₂,.of_steps (Steps.trans harr (.one step_inLoop)) harr₂⟩
    | exit id=>exact⟨_,a₁,w₁,⟨ρ₁,s,R₁,hq⟩,.pass (x:=.inLoop c) rfl (fun _ _=>.inl Q8R) harr⟩
    | goto l=>exact⟨_,a₁,w₁,⟨ρ₁,s,R₁,hq⟩,.pass (x:=.inLoop c) rfl (fun _ _=>.inl Q8R) harr⟩
    | ret=>exact⟨_,a₁,w₁,⟨ρ₁,s,R₁,hq⟩,.pass (x:=.inLoop c) rfl (fun _ _=>.inl Q8R) harr⟩
    | panic ch=>exact⟨_,a₁,w₁,⟨ρ₁,s,R₁,hq⟩,.pass (x:=.inLoop c) rfl (fun _ _=>.inl Q8R) harr⟩
    | outgrown=>exact⟨_,a₁,w₁,⟨ρ₁,s,R₁,hq⟩,.pass (x:=.inLoop c) rfl (fun _ _=>.inl Q8R) harr⟩
  obtain⟨ρ₀,R₀⟩:=hw0 X ρ a w rfl R;obtain⟨e,a',w',hq,harr⟩:=key _ x0 ρ₀ a w rfl hx0 R₀;exact⟨e,a',w',hq,.of_steps (.one step_loop) harr⟩
 | exit id=>exact fun Q st h ρ a w R=>wp_exit ⟨ρ,st,R,h⟩
 | scope c ih=>
  intro Q st h ρ a w R;refine qp4 (wp_mono (ih _ _ h ρ a w R) ?_);rintro e a' w' ⟨ρ',s,R',hq⟩;cases e with
  | goto l=>
   simp only[q5n] at hq;split at hq
   ·rename_i r hr;rcases N.out hq with hq|⟨α,mk,μ,ok,nx,hn,⟨x0,hx0,hw0⟩,hall⟩
    ·refine qp2 hr (wp_mono (hq X rfl ρ' a' w' R') ?_);rintro e a2 w2 ⟨ρ2,s2,R2,hq2⟩;cases e with
     | goto l=>exact hq2.elim
     | _=>exact⟨ρ2,s2,R2,hq2⟩
    ·obtain⟨ρ₀,R₀⟩:=hw0 X ρ' a' w' rfl R';refine qp3 (fun l x a w=>ok l x/\∃ ρ,Rel X ρ (mk l x) a w) μ (fun l x a w hj=>?_) _ l x0 a' w' (Nat.lt_succ_self _) ⟨hx0,ρ₀,R₀⟩;obtain⟨hok,ρ1,R1⟩:=hj;obtain⟨r1,hf1,hr1⟩:=hall l x hok;refine⟨r1,hf1,wp_mono (hr1 X rfl ρ1 a w R1) ?_⟩;rintro e a2 w2 ⟨ρ2,s2,R2,hq2⟩;cases e with
     | goto l'=>
      obtain⟨y,hy,hwy,hlt⟩:=hn _ _ _ _ hq2;obtain⟨ρ3,R3⟩:=hwy X ρ2 a2 w2 rfl R2;exact⟨y,⟨hy,ρ3,R3⟩,hlt⟩
     | _=>exact⟨ρ2,s2,R2,hq2⟩
   ·exact hq.elim
  | _=>exact⟨ρ',s,R',hq⟩
 | goto l=>exact fun Q st h ρ a w R=>wp_goto ⟨ρ,st,R,h⟩
 | ret=>exact fun Q st h ρ a w R=>wp_ret ⟨ρ,st,R,h⟩
 | _=>exact fun Q st h=>h.elim
theorem N.goto {n0:Nat} {r:Code} {l:Nat} {Q:Exit->St->Prop} (hG:jef P G) (hm:P.follows .mixedOrders=true) (h:wpC P G n0 r (qx2 Q) st):N (jjz P n0 c r l Q st):=N.mk (.inl fun X hX ρ a w R=>by
 subst hX;exact qr1 hG hm X r (qx2 Q) st h ρ a w R)
end
open Go Go.RowKit
abbrev jmh:=St->(List Value->Prop)->Prop
def jm5 (G:Tys) (r:ResultVar) (ih:jmh):jmh:=fun st K=>
 match st with
 | ⟨t0,h0⟩=>match r with
  | .tmp t=>jig t0 t fun v=>ih ⟨t0,h0⟩ fun vs=>K (v::vs)
  | .cell t ty=>jig t0 t fun p=>match p with
   | .pointer (some ⟨i,f,some s⟩)=>jgj h0 i fun c=>jd2 G ty fun ti d=>jh1 c f s (qd7 d) ti.size fun v=>ih ⟨t0,h0⟩ fun vs=>K (v::vs)
   | _=>False
noncomputable def resK (G:Tys) (rs:List ResultVar):jmh:=List.rec (motive:=fun _=>jmh) (fun _ K=>K []) (fun r _ ih=>jm5 G r ih) rs
def tup2 (v:Value):Bool:=
 match v with
 | .tuple _=>false
 | _=>true
noncomputable def retK (P:Program) (G:Tys) (rs:List ResultVar) (st:St) (K:Value->Prop):Prop:=
 resK G rs st fun vs=>match vs with
  | [v]=>K v
  | vs=>match vs.all tup2 with
   | true=>K (.tuple ⟨vs⟩)
   | false=>False
section
variable {P:Program} {G:Tys}
variable {ρ:Rz}
theorem qr2 {X:Ctx} {st:St} {a:Act} {w:World} {t:TypeId} {i f s:Nat} {c:Chunk} {ti:TypeInfo} {d:TypeDesc} {v x:Value} (R:Rel X ρ st a w) (hx:Den (Fil st.h) ρ (.pointer (some ⟨i,f,some s⟩)) x) (hi:st.h[i]?=some (some c))
  (h1:P.info? t=some ti) (h2:P.underlying t=some d) (hr:Reads c f (qd7 d) ti.size v):∃ y,(do loadVar t (<-asAddr x):Sem Value).run P w=.ok y w/\Den (Fil st.h) ρ v y:=by
 have hx':x=.pointer (some ⟨(ρ i).1,(ρ i).2+f,none⟩):=hx.self.symm
 cases hd:qd7 d with
 | false=>
  rw[hd] at hr;obtain⟨hl,hv,hf⟩:=hr;obtain⟨y,hy,hyd⟩:=R.heap.cell i c hi f hl;refine⟨y,?_,by rw[hf] at hyd;exact Den.of_one hyd hv⟩;simp only[hx',asAddr,loadVar,Sem.run_bind,Sem.run_pure,Result.andThen_ok,qdx h2,hd,xJ,if_false,run_load,hy]
 | true=>
  rw[hd] at hr;obtain⟨hl,cs,rfl,hn,hf⟩:=hr;have hcell:∀ j,(hj:j<cs.toList.length)->∃ y,w.cell? ⟨(ρ i).1,(ρ i).2+(f+j),none⟩=some y/\Den1 (Fil st.h) ρ cs.toList[j] y:=fun j hj=>by
   obtain⟨y,hy,hyd⟩:=R.heap.cell i c hi (f+j) Q8G;have e:=hf j Q8G;rw[xD,xr hj] at e;simp only[yD] at e;rw[e] at hyd;exact⟨y,hy,hyd⟩
  have hcells:∀ j v,(cs.toList.map (den1 ρ))[j]?=some v->w.cell? ((⟨(ρ i).1,(ρ i).2+f,none⟩:Addr).add j)=some v:=fun j v hv=>by
   have hj:j<cs.toList.length:=by have:=(xe.1 hv).1;simpa using this
   rw[xT,xr hj] at hv;obtain⟨y,hy,hyd⟩:=hcell j hj;rw[qej,yf,hy,<-hyd.self];exact hv
  have hlen:ti.size=(cs.toList.map (den1 ρ)).length:=by rw[yH,hn]
  refine⟨.agg (cs.map (den1 ρ)),?_,fun r hr=>?_⟩
  ·simp only[hx',asAddr,loadVar,Sem.run_bind,Sem.run_pure,Result.andThen_ok,qdx h2,hd,if_true,qa5 h1];rw[hlen,run_loadCells_list _ _ _ hcells];simp only[Result.andThen_ok,Result.ok.injEq,Value.agg.injEq,and_true];apply xH.1;simp
  ·refine Q4D ?_;apply xH.1;rw[xz,xz];apply yk;intro u hu;obtain⟨j,hj,he⟩:=y4 hu;obtain⟨y,hy,hyd⟩:=hcell j hj;rw[he] at hyd;rw[hyd r hr,hyd.self]
def resF (a:Act) (r:ResultVar):Sem Value:=
 match r with
 | .tmp t=>pure (a.tmps.getD t undef)
 | .cell p t=>do loadVar t (<-asAddr (a.tmps.getD p undef))
theorem qr3 (hG:jef P G) {t0:List (Option Value)} {h0:Hp}:∀ {rs:List ResultVar} {K:List Value->Prop},resK G rs ⟨t0,h0⟩ K->∃ vs,K vs/\∀ X ρ a w,Rel X ρ ⟨t0,h0⟩ a w->∃ xs,(rs.mapM (resF a):Sem (List Value)).run P w=.ok xs w/\All2 (Den (Fil h0) ρ) vs xs
 | [],K,h=>⟨[],h,fun X ρ a w R=>⟨[],rfl,xb⟩⟩
 | .tmp t::r,K,h=>by
  obtain⟨v,hv,h⟩:=qeb (l:=t0) (n:=t) h;obtain⟨vs,hk,hr⟩:=qr3 hG h;refine⟨_,hk,fun X ρ a w R=>?_⟩;obtain⟨xs,hx,hd⟩:=hr X ρ a w R;obtain⟨y,hy,hyd⟩:=R.slot t v hv;refine⟨y::xs,?_,hyd,hd⟩;have hy':a.tmps.getD t undef=y:=by rw[yl,hy];rfl
  rw[List.mapM_cons,show resF a (.tmp t)=pure (a.tmps.getD t undef) from rfl,hy',Sem.run_bind,Sem.run_pure];simp only[Result.andThen_ok,Sem.run_bind,hx,Sem.run_pure]
 | .cell t ty::r,K,h=>by
  obtain⟨p,hp,h⟩:=qeb (l:=t0) (n:=t) h;split at h
  ·obtain⟨c,hc,h⟩:=qb4 h;obtain⟨ti,d,h1,h2,h⟩:=qao hG h;obtain⟨v,hv,h⟩:=qpj h;obtain⟨vs,hk,hr⟩:=qr3 hG h;refine⟨_,hk,fun X ρ a w R=>?_⟩;obtain⟨xs,hx,hd⟩:=hr X ρ a w R;obtain⟨z,hz,hzd⟩:=R.slot t _ hp;obtain⟨y,hy,hyd⟩:=qr2 (P:=P) R hzd hc h1 h2 hv;refine⟨y::xs,?_,hyd,hd⟩;have hz':a.tmps.getD t undef=z:=by rw[yl,hz];rfl
   rw[List.mapM_cons,show resF a (.cell t ty)=(do loadVar ty (<-asAddr (a.tmps.getD t undef)):Sem Value) from rfl,hz',Sem.run_bind,hy];simp only[Result.andThen_ok,Sem.run_bind,hx,Sem.run_pure]
  ·exact h.elim
variable {fn:Func}
theorem qx4 (hG:jef P G) {st:St} {K:Value->Prop} (h:retK P G fn.results.toList st K):∃ v,K v/\∀ X ρ a w,Rel X ρ st a w->∃ x,(results fn a.tmps).run P w=.ok x w/\Den (Fil st.h) ρ v x:=by
 obtain⟨t0,h0⟩:=st;obtain⟨vs,hk,hr⟩:=qr3 hG h;have key:∀ X ρ a w,Rel X ρ ⟨t0,h0⟩ a w->∃ xs:List Value,(results fn a.tmps).run P w=.ok (match xs with
   | [x]=>x
   | xs=>.tuple ⟨xs⟩) w/\All2 (Den (Fil h0) ρ) vs xs:=fun X ρ a w R=>by
  obtain⟨xs,hx,hd⟩:=hr X ρ a w R
  refine⟨xs,?_,hd⟩
  have ef:results fn a.tmps=(do
    let vs <-fn.results.mapM (resF a)
    pure (if h:vs.size=1 then vs[0] else .tuple vs)):=rfl
  rw[ef,Array.mapM_eq_mapM_toList,Sem.run_bind,Sem.run_map,hx]
  simp only[Result.andThen_ok,Sem.run_pure]
  match xs with
  | []=>rfl
  | [x]=>rfl
  | x::y::r=>simp
 split at hk
 ·rename_i v;refine⟨v,hk,fun X ρ a w R=>?_⟩;obtain⟨xs,hx,hd⟩:=key X ρ a w R
  match xs,hd with
  | [x],hd=>exact⟨x,hx,hd.1⟩
  | [],hd=>exact hd.elim
  | _::_::_,hd=>exact hd.2.elim
 ·rename_i hne;cases hb:vs.all tup2 with
  | false=>rw[hb] at hk;exact hk.elim
  | true=>
   rw[hb] at hk;refine⟨_,hk,fun X ρ a w R=>?_⟩;obtain⟨xs,hx,hd⟩:=key X ρ a w R;refine⟨.tuple ⟨xs⟩,?_,?_⟩
   ·rw[hx]
    match xs,vs,hd,hne with
    | [x],[v],_,hne=>exact absurd rfl (hne v)
    | [x],[],hd,_=>exact hd.elim
    | [x],_::_::_,hd,_=>exact hd.2.elim
    | [],_,_,_=>rfl
    | _::_::_,_,_,_=>rfl
   ·intro r hr;have:∀ (vs xs:List Value),vs.all tup2=true->All2 (Den (Fil h0) ρ) vs xs->vs.map (den2 r)=xs:=by
     intro vs
     induction vs with
     | nil=>intro xs _ h;cases xs with
      | nil=>rfl
      | cons _ _=>exact h.elim
     | cons v vs ih=>
      intro xs hb h;cases xs with
      | nil=>exact h.elim
      | cons x xs=>
       simp only[yt,xo] at hb;rw[xp,ih xs hb.2 h.2];congr 1;rw[<-h.1 r hr];cases v<;>first|rfl|(simp[tup2] at hb)
    simp only[den,Value.tuple.injEq];apply xH.1;rw[xz];exact this vs xs hb hd
noncomputable def bodyQ (P:Program) (G:Tys) (fn:Func) (R:Value->St->Prop):Exit->St->Prop
 | .normal,st=>retK P G fn.results.toList st fun v=>R v st
 | .ret,st=>retK P G fn.results.toList st fun v=>R v st
 | _,_=>False
def jj0:Nat->(List (Option Value)->Prop)->Prop
 | 0,K=>K []
 | n+1,K=>jj0 n fun t=>K (none::t)
def initK:List Value->Nat->(List (Option Value)->Prop)->Prop
 | [],n,K=>jj0 n K
 | v::vs,n,K=>initK vs (n-1) fun t=>K (some v::t)
def jf6:List Value->Nat->List (Option Value)
 | [],n=>List.replicate n none
 | v::vs,n=>some v::jf6 vs (n-1)
theorem qp5:∀ {n:Nat} {K:List (Option Value)->Prop},jj0 n K->K (List.replicate n none)
 | 0,K,h=>h
 | n+1,K,h=>qp5 (n:=n) (K:=fun t=>K (none::t)) h
theorem qp6:∀ {vs:List Value} {n:Nat} {K:List (Option Value)->Prop},initK vs n K->K (jf6 vs n)
 | [],n,K,h=>qp5 h
 | v::vs,n,K,h=>qp6 (vs:=vs) (n:=n-1) (K:=fun t=>K (some v::t)) h
theorem qp7:∀ (vs:List Value) (n:Nat),(jf6 vs n).length=vs.length+(n-vs.length)
 | [],n=>by simp[jf6]
 | v::vs,n=>by simp[jf6,qp7 vs (n-1)];omega
theorem qp8:∀ (vs:List Value) (n i:Nat) (v:Value),(jf6 vs n)[i]?=some (some v)->vs[i]?=some v
 | [],n,i,v,h=>by simp[jf6,List.getElem?_replicate] at h
 | u::vs,n,0,v,h=>by simpa[jf6] using h
 | u::vs,n,i+1,v,h=>by simpa using qp8 vs (n-1) i v (by simpa[jf6] using h)
theorem qtr {α β:Type} {p:α->β->Prop}:∀ {a:List α} {b:List β},All2 p a b->a.length=b.length
 | [],[],_=>rfl
 | [],_::_,h=>h.elim
 | _::_,[],h=>h.elim
 | _::a,_::b,h=>by simp[qtr h.2]
theorem qts {α β:Type} {p:α->β->Prop}:∀ {a:List α} {b:List β},All2 p a b->∀ (i:Nat) (x:α),a[i]?=some x->∃ y,b[i]?=some y/\p x y
 | [],[],_,i,x,hx=>by simp at hx
 | [],_::_,h,_,_,_=>h.elim
 | _::_,[],h,_,_,_=>h.elim
 | u::a,v::b,h,0,x,hx=>⟨v,rfl,by simp at hx;subst hx;exact h.1⟩
 | u::a,v::b,h,i+1,x,hx=>by simpa using qts h.2 i x (by simpa using hx)
variable {vs:List Value}
theorem qih {f:FuncId} {c:Code} {args:Array Value} {w:World} {X:Ctx} {h:Hp} {R:Value->St->Prop} (hG:jef P G) (hm:P.follows .mixedOrders=true) (hf:P.funcs[f]?=some fn) (hb:fn.body=some c)
  (H:HOK X ρ h w) (hx:All2 (Den (Fil h) ρ) vs args.toList) (hwp:initK vs fn.ntmps fun t=>wpC P G X.n0 c (bodyQ P G fn R) ⟨t,h⟩) :
  Calls P f args w fun e w'=>∃ ρ' v st x,e=.returned x/\HOK X ρ' st.h w'/\Den (Fil st.h) ρ' v x/\R v st:=by
 have hwp:=qp6 hwp
 refine calls_of_wp hf hb ?_
 have hlen:=qtr hx
 have R0:Rel X ρ ⟨jf6 vs fn.ntmps,h⟩ { tmps:=args++Array.replicate (fn.ntmps-args.size) undef,defers:=[] } w:=by
  refine⟨rfl,?_,fun i v hi=>?_,H⟩
  ·simp[qp7,hlen]
  ·have hv:=qp8 vs fn.ntmps i v hi;obtain⟨y,hy,hd⟩:=qts hx i v hv;refine⟨y,?_,hd⟩;have hi':i<args.size:=by have:=(xe.1 hy).1;simpa using this
   rw[Array.getElem?_append_left hi'];simpa using hy
 refine wp_mono (qr1 hG hm X c _ _ hwp ρ _ w R0) ?_
 rintro e a' w' ⟨ρ',s,R',hq⟩
 cases e with
 | normal=>
  exact Q3T
 | ret=>
  exact Q3T
 | _=>exact hq.elim
def qan (v:Value):Bool:=
 match v with
 | .tuple vs=>vs.toList.all qap
 | v=>qap v
theorem qa8 {v:Value} (h:qan v=true) (ρ:Rz):den ρ v=v:=by
 cases v with
 | tuple vs=>
  simp only[qan,xU] at h;simp only[den,Value.tuple.injEq];apply xH.1;rw[xz];exact(yk fun x hx=>qg5 (h x hx) ρ).trans (List.map_id _)
 | _=>(simp only[qan] at h;exact qbe h ρ)
theorem qx5 {F:Nat->Prop} {ρ:Rz}:∀ {vs:List Value},vs.all qap=true->All2 (Den F ρ) vs vs
 | [],_=>trivial
 | v::vs,h=>by
  simp only[yt,xo] at h;exact⟨Den.plain h.1,qx5 h.2⟩
theorem qhb {F:Nat->Prop} {ρ:Rz}:∀ {vs xs:List Value},vs.all qap=true->All2 (Den F ρ) vs xs->xs=vs
 | [],[],_,_=>rfl
 | [],_::_,_,h=>h.elim
 | _::_,[],_,h=>h.elim
 | v::vs,x::xs,hp,h=>by
  simp only[yt,xo] at hp;rw[qhb hp.2 h.2,<-h.1.self,qbe hp.1]
theorem qac {f:FuncId} {c:Code} {V:Value} (w:World) (hG:jef P G) (hm:P.follows .mixedOrders=true) (hf:P.funcs[f]?=some fn) (hb:fn.body=some c) (hp:vs.all qap=true) (hV:qan V=true)
  (hwp:initK vs fn.ntmps fun t=>wpC P G 0 c (bodyQ P G fn fun v _=>N (v=V)) ⟨t,[]⟩):Calls P f ⟨vs⟩ w fun e w'=>e=.returned V/\Below w.heap.size w w':=by
 have H:HOK ⟨w,fun _=>False,0,fun _=>(0,0)⟩ (fun _=>(0,0)) [] w:=⟨Evo.refl _ _,fun i hi=>absurd hi Q8R,fun i c hi=>by simp at hi,fun i c hi=>by simp at hi,fun i c hi=>by simp at hi,fun i c j d hi=>by simp at hi,ExtOK.nil fun i c hi=>by simp at hi⟩
 refine(qih (X:=⟨w,fun _=>False,0,fun _=>(0,0)⟩) hG hm hf hb H (qx5 hp) hwp).mono ?_
 rintro e w' ⟨ρ',v,st,x,rfl,H',hd,hv⟩
 have hv:=hv.out
 subst hv
 refine⟨?_,H'.evo.below⟩
 rw[<-hd.self,qa8 hV]
end
def TysAll (P:Program):Tys->Prop
 | []=>True
 | r::rs=>(P.info? r.1=some r.2.1/\P.underlying r.1=some r.2.2)/\TysAll P rs
theorem TysAll.ok:∀ {G:Tys},TysAll P G->jef P G
 | [],_=>fun r hr=>by cases hr
 | q::rs,h=>fun r hr=>by
  rcases xg.1 hr with rfl|hr
  ·exact h.1
  ·exact TysAll.ok h.2 r hr
theorem Bh {B:Prop} (h:A):N (jif true A B):=N.mk ⟨fun _=>h,fun e=>(by cases e)⟩
theorem Bi {B:Prop} (h:B):N (jif false A B):=N.mk ⟨fun e=>(by cases e),fun _=>h⟩
theorem Bp {B:Prop} (h:b=true->A) (k:b=false->B):N (jif b A B):=N.mk ⟨h,k⟩
theorem Bf {B:Prop} (hb:b=true) (h:A):N (jif b A B):=N.mk ⟨fun _=>h,fun e=>by rw[hb] at e;cases e⟩
theorem Be {B:Prop} (hb:b=false) (h:B):N (jif b A B):=N.mk ⟨fun e=>(by rw[hb] at e;cases e),fun _=>h⟩
theorem Bk {a b:Value} (h:a=b):N (a=b):=N.mk h
theorem Ba {p:Prop} (h:p) (k:A):N (Obl p A):=N.mk ⟨h,k⟩
section
variable {P:Program} {G:Tys}
variable {g:FuncId} {vs:List Value} {h:Hp} {K:Value->Mz->List Nat->Prop} {v:Value}
theorem Bc {q:Bool} {slot:Nat} {ms:Mz} {rh:List Nat} (hc:qaf P g vs h v ms rh) (k:K v ms rh):N (jhc q P g vs h slot K):=N.mk (.inl ⟨v,ms,rh,hc,k⟩)
theorem Bl {slot:Nat} {R:Value->Mz->Prop} (hc:CallAll P g vs h R) (k:∀ v ms,R v ms->K v ms []):N (jhc true P g vs h slot K):=N.mk (.inr ⟨rfl,R,hc,k⟩)
theorem qai (hp:vs.all qap=true) (hv:qan v=true) (hr:∀ w,(callFunc g ⟨vs⟩).run P w=.ok (.enter g ⟨vs⟩) w) (hc:∀ w,Calls P g ⟨vs⟩ w fun e w'=>e=.returned v/\Below w.heap.size w w'):qaf P g vs h v [] []:=
 fun h₂ _ _ X ρ w xs H hx=>by
  obtain rfl:=qhb hp hx;refine .inr ⟨hr w,(hc w).mono ?_⟩;exact Q4o
theorem qtt (hp:vs.all qap=true) (hv:qan v=true) (hr:∀ w,(callFunc g ⟨vs⟩).run P w=.ok (.value v) w):qaf P g vs h v [] []:=
 fun h₂ _ _ X ρ w xs H hx=>by
  obtain rfl:=qhb hp hx;exact .inl ⟨v,w,hr w,ρ,AgreeOn.refl _ _,H,fun r _=>qa8 hv r⟩
theorem Bn {c:Chunk} {f n:Nat} {agg:Bool} {K:Value->Prop} (v:Value) (h:Reads c f agg n v) (k:K v):N (jk3 c f agg n K):=N.mk ⟨v,h,k⟩
theorem N.store {c:Chunk} {f n:Nat} {K:Chunk->Prop} (d:Chunk) (h:Writes c f n v d) (k:K d):N (q5h c f n v K):=N.mk ⟨d,h,k⟩
theorem Bm {a:Int} {n:Nat} {K:Nat->Nat->Prop} (j s:Nat) (ha:a=(j:Nat)) (hj:j<n) (k:K j s):N (jmv a n K):=N.mk ⟨j,s,ha,hj,k⟩
theorem B6 {op:BinOp} {t:TypeId} {x y:Operand} {a b:Value} {K:Value->Prop} (v:Value) (h:BinIs P op t x y a b v) (k:K v):N (jpd P op t x y a b K):=N.mk ⟨v,h,k⟩
end
def jp7 (d:Nat):Nat:=match Nat.ble d 255 with
 | true=>2^d
 | false=>Nat.mul (2^255) (2^(d-255))
def jj1:List Oper->Nat
 | []=>0
 | o::os=>match o.dst with
  | some d=>Nat.lor (jp7 d) (jj1 os)
  | none=>jj1 os
noncomputable def maskC (c:Code):Nat:=
 Code.rec (motive:=fun _=>Nat) 0 (fun _ ops _=>jj1 ops.toList) (fun _ _ a b=>Nat.lor a b) (fun _ _ _ a b=>Nat.lor a b) (fun _ _ a=>a) (fun _ a=>a) (fun _ _ _ _ a b=>Nat.lor a b) (fun _=>0) (fun _ a=>a) (fun _=>0) (fun _=>0) 0 (fun _=>0) c
def jip:Vz->Nat->Option Value
 | [],_=>none
 | (i,v)::r,k=>match Nat.beq i k with
  | true=>some v
  | false=>jip r k
def jky (m:Nat) (sets:Vz):List (Option Value)->Nat->List (Option Value)
 | [],_=>[]
 | x::r,k=>(match jip sets k with
  | some v=>some v
  | none=>match Nat.testBit m k with
   | true=>none
   | false=>x)::jky m sets r (k+1)
def updK (m:Nat) (sets:Vz):List (Option Value)->Nat->(List (Option Value)->Prop)->Prop
 | [],_,K=>K []
 | x::r,k,K=>match jip sets k with
  | some v=>updK m sets r (k+1) fun l=>K (some v::l)
  | none=>match Nat.testBit m k with
   | true=>updK m sets r (k+1) fun l=>K (none::l)
   | false=>updK m sets r (k+1) fun l=>K (x::l)
theorem updK_iff {m:Nat} {sets:Vz}:∀ {t:List (Option Value)} {k:Nat} {K:List (Option Value)->Prop},updK m sets t k K↔K (jky m sets t k)
 | [],k,K=>Iff.rfl
 | x::r,k,K=>by
  simp only[updK,jky];cases jip sets k with
  | some v=>exact updK_iff
  | none=>
   cases Nat.testBit m k with
   | true=>exact updK_iff
   | false=>exact updK_iff
def ChunkLe (c' c:Chunk):Prop:=(c'.own=true->c.own=true)/\c'.n<=c.n/\(∀ j,j<c'.n->c'.f j=c.f j)/\(c'.x=Ext.none\/c'.x=c.x)
theorem ChunkLe.mk {c' c:Chunk} (h1:c'.own=true->c.own=true) (h2:c'.n<=c.n) (h3:∀ j,j<c'.n->c'.f j=c.f j) (h4:c'.x=Ext.none:=by rfl):ChunkLe c' c:=⟨h1,h2,h3,.inl h4⟩
theorem ChunkLe.of {o:Bool} {n:Nat} {p q:Pz} (h:p=q):ChunkLe ⟨o,n,p⟩ ⟨o,n,q⟩:=by subst h;exact⟨id,nlr _,fun _ _=>rfl,.inl rfl⟩
theorem ChunkLe.refl (c:Chunk):ChunkLe c c:=⟨id,nlr _,fun _ _=>rfl,.inr rfl⟩
def jid (h:Hp) (i:Nat):Bool:=
 match jfg h i with
 | some (some _)=>true
 | _=>false
theorem filB_iff:jid h i=true↔Fil h i:=by
 unfold jid Fil;rw[qbw];cases h[i]? with
 | none=>simp
 | some c=>cases c<;>simp
def Safe1 (h:Hp) (v:Value):Prop:=
 match v with
 | .pointer (some ⟨i,_,some _⟩)=>jid h i=true
 | .slice (some ⟨i,_,some _⟩) _ _=>jid h i=true
 | .map (some i)=>jid h i=true
 | .func _ _ _=>False
 | _=>True
def Safe (h:Hp) (v:Value):Prop:=
 match v with
 | .agg cs=>∀ x∈cs.toList,Safe1 h x
 | .tuple _=>False
 | v=>Safe1 h v
theorem Safe1.inScope (hs:Safe1 h v):qx1 (Fil h) v:=fun ρ ρ' ha=>by
 cases v with
 | pointer a=>cases a with
  | none=>rfl
  | some a=>
   exact Q3X
 | slice a l c=>cases a with
  | none=>rfl
  | some a=>
   exact Q3X
 | func f x y=>exact hs.elim
 | map a=>cases a with
  | none=>rfl
  | some i=>have:=ha i (filB_iff.1 hs);simp[den1,den0,this]
 | iface t v=>exact qnf _ _ _ _
 | _=>rfl
theorem Safe.inScope (hs:Safe h v):jjk (Fil h) v:=fun ρ ρ' ha=>by
 cases v with
 | agg cs=>
  refine Q4D ?_;apply xH.1;rw[xz,xz];exact yk fun x hx=>(hs x hx).inScope ρ ρ' ha
 | tuple vs=>exact hs.elim
 | _=>(simp only[Safe] at hs;exact Safe1.inScope hs ρ ρ' ha)
def jf7:Hp->Hp->Bool
 | some _::a,some _::b=>jf7 a b
 | none::a,_::b=>jf7 a b
 | some _::_,none::_=>true
 | some _::_,[]=>true
 | none::a,[]=>jf7 a []
 | [],_=>false
theorem qgh:∀ {a b:Hp},jf7 a b=false->∀ i,Fil a i->Fil b i
 | some _::a,some d::b,h,0,_=>⟨d,rfl⟩
 | some _::a,some d::b,h,i+1,hf=>by obtain⟨c,hc⟩:=qgh (a:=a) (b:=b) h i Q9y;exact⟨c,by simpa using hc⟩
 | none::a,_::b,h,0,hf=>by obtain⟨c,hc⟩:=hf;simp at hc
 | none::a,_::b,h,i+1,hf=>by
  obtain⟨c,hc⟩:=qgh (a:=a) (b:=b) (by cases ‹Option Chunk›<;>exact h) i Q9y;exact⟨c,by simpa using hc⟩
 | some _::_,none::_,h,_,_=>by simp[jf7] at h
 | some _::_,[],h,_,_=>by simp[jf7] at h
 | none::a,[],h,0,hf=>by obtain⟨c,hc⟩:=hf;simp at hc
 | none::a,[],h,i+1,hf=>by
  obtain⟨c,hc⟩:=qgh (a:=a) (b:=[]) h i Q9y;simp at hc
 | [],_,_,i,hf=>by obtain⟨c,hc⟩:=hf;simp at hc
def wkT (h':Hp) (drop:Bool):List (Option Value)->List (Option Value)->Prop->Prop
 | [],[],A=>A
 | _::a,none::b,A=>wkT h' drop a b A
 | some u::a,some v::b,A=>N (Obl (u=v) (match drop with
  | false=>wkT h' drop a b A
  | true=>N (Obl (Safe h' v) (wkT h' drop a b A))))
 | _,_,_=>False
def wkH (h':Hp) (drop:Bool):Hp->Hp->Prop->Prop
 | [],[],A=>A
 | _::a,[],A=>wkH h' drop a [] A
 | _::a,none::b,A=>wkH h' drop a b A
 | some c::a,some c'::b,A=>N (Obl (ChunkLe c' c) (match drop with
  | false=>wkH h' drop a b A
  | true=>N (Obl (∀ j,j<c'.n->Safe1 h' (c'.f j)) (wkH h' drop a b A))))
 | _,_,_=>False
def wkK (n0:Nat) (st s:St) (A:Prop):Prop:=
 match st,s with
 | ⟨t,h⟩,⟨t',h'⟩=>match jf7 (h.take n0) h' with
  | true=>False
  | false=>match jf7 h h' with
   | d=>wkT h' d t t' (wkH h' d h h' A)
theorem qr4 {h':Hp} {drop:Bool}:∀ {t t':List (Option Value)} {A:Prop},wkT h' drop t t' A->
  t'.length=t.length/\(∀ (i:Nat) (v:Value),t'[i]?=some (some v)->t[i]?=some (some v))/\(drop=true->∀ (i:Nat) (v:Value),t'[i]?=some (some v)->Safe h' v)/\A
 | [],[],A,h=>⟨rfl,fun i v hi=>by simp at hi,fun _ i v hi=>by simp at hi,h⟩
 | x::a,none::b,A,h=>by
  have h:wkT h' drop a b A:=by cases x<;>exact h
  obtain⟨h1,h2,h3,h4⟩:=qr4 h;refine⟨by simp[h1],fun i v hi=>?_,fun hd i v hi=>?_,h4⟩
  ·cases i with
   | zero=>simp at hi
   | succ i=>simpa using h2 i v Q91
  ·cases i with
   | zero=>simp at hi
   | succ i=>exact h3 hd i v Q91
 | some u::a,some v::b,A,h=>by
  obtain⟨e,h⟩:=N.out h;subst e;have hh:(drop=true->Safe h' u)/\wkT h' drop a b A:=Q3V;obtain⟨h1,h2,h3,h4⟩:=qr4 hh.2;refine⟨by simp[h1],fun i v hi=>?_,fun hd i v hi=>?_,h4⟩
  ·cases i with
   | zero=>exact hi
   | succ i=>simpa using h2 i v Q91
  ·cases i with
   | zero=>simp at hi;subst hi;exact hh.1 hd
   | succ i=>exact h3 hd i v Q91
 | none::a,some v::b,A,h=>h.elim
 | [],_::_,A,h=>h.elim
 | _::_,[],A,h=>by cases ‹Option Value›<;>exact h.elim
theorem qnq {h':Hp} {drop:Bool}:∀ {a b:Hp} {A:Prop},wkH h' drop a b A->
  (∀ (i:Nat) (c:Chunk),b[i]?=some (some c)->∃ d,a[i]?=some (some d)/\ChunkLe c d)/\(drop=true->∀ (i:Nat) (c:Chunk),b[i]?=some (some c)->∀ j,j<c.n->Safe1 h' (c.f j))/\A
 | [],[],A,h=>⟨fun i v hi=>by simp at hi,fun _ i v hi=>by simp at hi,h⟩
 | x::a,[],A,h=>by
  have h:wkH h' drop a [] A:=by cases x<;>exact h
  obtain⟨_,_,h3⟩:=qnq h;exact⟨fun i v hi=>by simp at hi,fun _ i v hi=>by simp at hi,h3⟩
 | x::a,none::b,A,h=>by
  have h:wkH h' drop a b A:=by cases x<;>exact h
  obtain⟨h1,h2,h3⟩:=qnq h;refine⟨fun i v hi=>?_,fun hd i v hi=>?_,h3⟩
  ·cases i with
   | zero=>simp at hi
   | succ i=>simpa using h1 i v Q91
  ·cases i with
   | zero=>simp at hi
   | succ i=>exact h2 hd i v Q91
 | some c::a,some c'::b,A,h=>by
  obtain⟨e,h⟩:=N.out h;have hh:(drop=true->∀ j,j<c'.n->Safe1 h' (c'.f j))/\wkH h' drop a b A:=Q3V;obtain⟨h1,h2,h3⟩:=qnq hh.2;refine⟨fun i v hi=>?_,fun hd i v hi=>?_,h3⟩
  ·cases i with
   | zero=>simp at hi;subst hi;exact⟨c,rfl,e⟩
   | succ i=>simpa using h1 i v Q91
  ·cases i with
   | zero=>simp at hi;subst hi;exact hh.1 hd
   | succ i=>exact h2 hd i v Q91
 | none::a,some c'::b,A,h=>h.elim
 | [],none::b,A,h=>h.elim
 | [],some _::b,A,h=>h.elim
theorem qp9 {n0:Nat} {s:St} (h:wkK n0 st s A):Wk n0 st s/\A:=by
 obtain⟨t,hh⟩:=st;obtain⟨t',h'⟩:=s;simp only[wkK] at h;cases hb:jf7 (hh.take n0) h' with
 | true=>rw[hb] at h;exact h.elim
 | false=>
  rw[hb] at h;simp only at h;obtain⟨a1,a2,a3,h⟩:=qr4 h;obtain⟨b1,b2,h⟩:=qnq h;refine⟨⟨a1,a2,fun i c hi=>?_,fun i hi hf=>?_,?_⟩,h⟩
  ·obtain⟨d,hd,h1,h2,h3⟩:=b1 i c hi;exact⟨d,hd,h1,h2,h3⟩
  ·refine qgh hb i ?_;obtain⟨c,hc⟩:=hf;exact⟨c,by rw[yK,if_pos hi];exact hc⟩
  ·cases hd:jf7 hh h' with
   | false=>exact .inl (qgh hd)
   | true=>
    refine .inr ⟨fun i v hi=>(a3 hd i v hi).inScope,fun i c hi j hj=>(b2 hd i c hi j hj).inScope⟩
def jh5 {α:Type} (p:α->Prop) (K:α->Prop):Prop:=∃ y,p y/\K y
theorem N.next {α:Type} {p:α->Prop} {K:α->Prop} (y:α) (hp:p y) (k:K y):N (jh5 p K):=N.mk ⟨y,hp,k⟩
theorem Bg:N True:=N.mk trivial
section
variable {P:Program} {G:Tys}
theorem setM_iff {K:Hp->Prop}:∀ {ms:Mz} {h:Hp},jgk h ms K↔K (modH h ms):=by
 have one:∀ {l:Hp} {n:Nat} {v:Chunk} {K:Hp->Prop},jhx l n v K↔K (l.set n (some v)):=by
  intro l
  induction l with
  | nil=>intro n v K;exact Iff.rfl
  | cons x r ih=>intro n v K;cases n with
   | zero=>exact Iff.rfl
   | succ n=>exact ih (K:=fun r'=>K (x::r'))
 intro ms
 induction ms with
 | nil=>intro h;exact Iff.rfl
 | cons m ms ih=>intro h;exact one.trans ih
def jm6 (K:Nat->St->Prop) (Q:Exit->St->Prop):Exit->St->Prop
 | .goto l,s=>K l s
 | e,s=>Q e s
variable {Q:Exit->St->Prop} {t:List (Option Value)}
theorem N.jumps {n0:Nat} {c r0:Code} {l0:Nat} {h:Hp} (hG:jef P G) (hm:P.follows .mixedOrders=Bool.true) {α:Type} (ok:Nat->α->Prop) (μ:Nat->α->Nat) (sets:Nat->α->Vz) (hs:Nat->α->Mz) (x0:α) (h0:ok l0 x0)
  (hw:updK (maskC c) (sets l0 x0) t 0 fun t'=>jgk h (hs l0 x0) fun h'=>wkK n0 ⟨t,h⟩ ⟨t',h'⟩ (N True))
  (hr:∀ l x,ok l x->∃ r,findLabel c l=some r/\updK (maskC c) (sets l x) t 0 fun t'=>jgk h (hs l x) fun h'=>wpC P G n0 r (jm6 (fun l' s=>N (jh5 (fun y=>ok l' y/\μ l' y<μ l x) fun y=>updK (maskC c) (sets l' y) t 0 fun t''=>jgk h (hs l' y) fun h''=>wkK n0 s ⟨t'',h''⟩ (N True))) Q) ⟨t',h'⟩):N (jjz P n0 c r0 l0 Q ⟨t,h⟩):=by
 refine N.mk (.inr ⟨α,fun l x=>⟨jky (maskC c) (sets l x) t 0,modH h (hs l x)⟩,μ,ok,fun l x l' s=>N (jh5 (fun y=>ok l' y/\μ l' y<μ l x) fun y=>updK (maskC c) (sets l' y) t 0 fun t''=>jgk h (hs l' y) fun h''=>wkK n0 s ⟨t'',h''⟩ (N True)),fun l x l' s hq=>?_,⟨x0,h0,(qp9 (setM_iff.1 (updK_iff.1 hw))).1.g⟩,fun l x hx=>?_⟩)
 ·obtain⟨y,⟨hy,hlt⟩,hk⟩:=N.out hq;exact⟨y,hy,(qp9 (setM_iff.1 (updK_iff.1 hk))).1.g,hlt⟩
 ·obtain⟨r,hf,hk⟩:=hr l x hx;refine⟨r,hf,fun X hX ρ a w R=>?_⟩;subst hX;refine wp_mono (qr1 hG hm X r _ _ (setM_iff.1 (updK_iff.1 hk)) ρ a w R) ?_;rintro e a2 w2 ⟨ρ2,s2,R2,hq2⟩;refine⟨ρ2,s2,R2,?_⟩;cases e<;>exact hq2
theorem Bt {n0:Nat} {c:Code} {A:(Exit->St->Prop)->St->Prop} {h:Hp} {α:Type} (inv:α->Prop) (μ:α->Nat) (sets:α->Vz) (hs:α->Mz) (x0:α) (h0:inv x0)
  (hw:updK (maskC c) (sets x0) t 0 fun t'=>jgk h (hs x0) fun h'=>wkK n0 ⟨t,h⟩ ⟨t',h'⟩ (N True))
  (hr:∀ x,inv x->updK (maskC c) (sets x) t 0 fun t'=>jgk h (hs x) fun h'=>A (thenQ (fun s=>N (jh5 (fun y=>inv y/\μ y<μ x) fun y=>updK (maskC c) (sets y) t 0 fun t''=>jgk h (hs y) fun h''=>wkK n0 s ⟨t'',h''⟩ (N True))) Q) ⟨t',h'⟩):N (jhg P G n0 c A Q ⟨t,h⟩):=by
 refine N.mk ⟨α,fun x=>⟨jky (maskC c) (sets x) t 0,modH h (hs x)⟩,inv,μ,fun x s=>N (jh5 (fun y=>inv y/\μ y<μ x) fun y=>updK (maskC c) (sets y) t 0 fun t''=>jgk h (hs y) fun h''=>wkK n0 s ⟨t'',h''⟩ (N True)),fun x s hq=>?_,⟨x0,h0,(qp9 (setM_iff.1 (updK_iff.1 hw))).1.g⟩,fun x hx=>setM_iff.1 (updK_iff.1 (hr x hx))⟩
 obtain⟨y,⟨hy,hlt⟩,hk⟩:=N.out hq
 exact⟨y,hy,(qp9 (setM_iff.1 (updK_iff.1 hk))).1.g,hlt⟩
end
open Go Go.RowKit
theorem Evo.into {M M':Addr->Prop} {a b c:World} (h:Evo M a b) (k:Evo M' b c) (hs:∀ p,M' ⟨p,0,some 0⟩->a.heap.size<=p\/M ⟨p,0,some 0⟩) (hm:∀ p j,M' ⟨p,j,none⟩->a.heap.size<=p\/M ⟨p,j,none⟩):Evo M a c:=
 ⟨k.os.trans h.os,k.tape.trans h.tape,k.output.trans h.output,xF h.size k.size,fun i hi=>(h.block i hi).trans (by
  rcases k.block i (xj hi h.size) with e|e|⟨cs,ty,fz,cs',e1,e2,hs',hc⟩
  ·exact .inl e
  ·rcases hs i e with h1|h1
   ·omega
   ·exact .inr (.inl h1)
  ·refine .inr (.inr ⟨cs,ty,fz,cs',e1,e2,hs',fun j hj=>hc j fun hj'=>?_⟩);rcases hm i j hj' with h1|h1
   ·omega
   ·exact hj h1)⟩
theorem Evo.same {M:Addr->Prop} {w':World} (k:Evo M w w') {b:Nat} (hb:b<w.heap.size) (hs:¬ M ⟨b,0,some 0⟩) (hm:∀ j,¬ M ⟨b,j,none⟩):w'.heap[b]?=w.heap[b]?:=by
 rcases k.block b hb with e|e|⟨cs,ty,fz,cs',e1,e2,hs',hc⟩
 ·exact e.symm
 ·exact absurd e hs
 ·rw[e1,e2];have:cs'=cs:=zy fun j=>hc j (hm j)
  rw[this]
variable {F:Nat->Prop}
theorem q2i {x:Value} (hv:qbd v=true) (h:Den1 F ρ v x):x=v:=by
 rw[<-h.self,qby hv]
theorem Den1.plain (hv:qbd v=true):Den1 F ρ v v:=fun r _=>qby hv r
def ixK:List (Nat×Nat)->Nat->Option Nat
 | [],_=>none
 | (k,i)::r,n=>match Nat.beq k n with
  | true=>some i
  | false=>ixK r n
theorem qep:∀ {ix:List (Nat×Nat)} {k i:Nat},ixK ix k=some i->(k,i)∈ix
 | [],_,_,h=>by cases h
 | (a,b)::r,k,i,h=>by
  simp only[ixK] at h;cases e:Nat.beq a k with
  | true=>
   exact Q46
  | false=>rw[e] at h;exact yn _ (qep h)
inductive Re0 (ix:List (Nat×Nat)):Value->Value->Prop
 | ptr {i k f s s':Nat} (h:ixK ix k=some i):Re0 ix (.pointer (some ⟨i,f,some s⟩)) (.pointer (some ⟨k,f,some s'⟩))
 | any {v v':Value} (h:∀ r r',den0 r v=den0 r' v'):Re0 ix v v'
inductive Re1 (ix:List (Nat×Nat)):Value->Value->Prop
 | plain {v:Value} (h:qbd v=true):Re1 ix v v
 | ptr {i k f s s':Nat} (h:ixK ix k=some i):Re1 ix (.pointer (some ⟨i,f,some s⟩)) (.pointer (some ⟨k,f,some s'⟩))
 | slice {i k f s s' l c:Nat} (h:ixK ix k=some i):Re1 ix (.slice (some ⟨i,f,some s⟩) l c) (.slice (some ⟨k,f,some s'⟩) l c)
 | map {i k:Nat} (h:ixK ix k=some i):Re1 ix (.map (some i)) (.map (some k))
 | quo {t:TypeId} {v:Value}:Re1 ix (.iface t v) (.iface t v)
 | any {v v':Value} (h:∀ r r',den1 r v=den1 r' v'):Re1 ix v v'
 | func {g:Fn} {m m' l l':List Value} (hu:All2 (Re0 ix) m m') (h:All2 (Re0 ix) l l'):Re1 ix (.func g ⟨m⟩ ⟨l⟩) (.func g ⟨m'⟩ ⟨l'⟩)
inductive Re2 (ix:List (Nat×Nat)):Value->Value->Prop
 | plain {v:Value} (h:qap v=true):Re2 ix v v
 | ptr {i k f s s':Nat} (h:ixK ix k=some i):Re2 ix (.pointer (some ⟨i,f,some s⟩)) (.pointer (some ⟨k,f,some s'⟩))
 | slice {i k f s s' l c:Nat} (h:ixK ix k=some i):Re2 ix (.slice (some ⟨i,f,some s⟩) l c) (.slice (some ⟨k,f,some s'⟩) l c)
 | map {i k:Nat} (h:ixK ix k=some i):Re2 ix (.map (some i)) (.map (some k))
 | quo {t:TypeId} {v:Value}:Re2 ix (.iface t v) (.iface t v)
 | agg {l l':List Value} (h:All2 (Re1 ix) l l'):Re2 ix (.agg ⟨l⟩) (.agg ⟨l'⟩)
 | any {v v':Value} (h2:∀ r r',Sx.den2 r v=Sx.den2 r' v') (h:∀ r r',Sx.den r v=Sx.den r' v'):Re2 ix v v'
 | func {g:Fn} {m m' l l':List Value} (hu:All2 (Re0 ix) m m') (h:All2 (Re0 ix) l l'):Re2 ix (.func g ⟨m⟩ ⟨l⟩) (.func g ⟨m'⟩ ⟨l'⟩)
inductive Re (ix:List (Nat×Nat)):Value->Value->Prop
 | plain {v:Value} (h:qan v=true):Re ix v v
 | one {v v':Value} (h:Re2 ix v v'):Re ix v v'
 | tuple {l l':List Value} (h:All2 (Re2 ix) l l'):Re ix (.tuple ⟨l⟩) (.tuple ⟨l'⟩)
variable {ix:List (Nat×Nat)}
theorem Re0.den {v':Value} {r r':Rz} (h:Re0 ix v v') (hr:∀ k i,(k,i)∈ix->r i=r' k):den0 r v=den0 r' v':=by
 cases h with
 | ptr h=>simp only[den0,jeu,hr _ _ (qep h)]
 | any h=>exact h _ _
theorem qky {ix:List (Nat×Nat)} {r r':Rz} (hr:∀ k i,(k,i)∈ix->r i=r' k):∀ {l l':List Value},All2 (Re0 ix) l l'->l.map (den0 r)=l'.map (den0 r')
 | [],[],_=>rfl
 | [],_::_,h=>h.elim
 | _::_,[],h=>h.elim
 | _::_,_::_,h=>by rw[xp,xp,h.1.den hr,qky hr h.2]
theorem Re1.den {v':Value} {r r':Rz} (h:Re1 ix v v') (hr:∀ k i,(k,i)∈ix->r i=r' k):den1 r v=den1 r' v':=by
 cases h with
 | plain h=>rw[qby h,qby h]
 | ptr h=>simp only[den1,den0,jeu,hr _ _ (qep h)]
 | slice h=>simp only[den1,den0,jeu,hr _ _ (qep h)]
 | map h=>simp only[den1,den0,hr _ _ (qep h)]
 | quo=>exact qnf _ _ _ _
 | any h=>exact h _ _
 | func hu h=>
  simp only[den1,Value.func.injEq,true_and];constructor
  ·apply xH.1;rw[xz,xz];exact qky hr hu
  ·apply xH.1;rw[xz,xz];exact qky hr h
theorem qqa {ix:List (Nat×Nat)} {r r':Rz} (hr:∀ k i,(k,i)∈ix->r i=r' k):∀ {l l':List Value},All2 (Re1 ix) l l'->l.map (den1 r)=l'.map (den1 r')
 | [],[],_=>rfl
 | [],_::_,h=>h.elim
 | _::_,[],h=>h.elim
 | _::_,_::_,h=>by rw[xp,xp,h.1.den hr,qqa hr h.2]
theorem Re2.den2 {v':Value} {r r':Rz} (h:Re2 ix v v') (hr:∀ k i,(k,i)∈ix->r i=r' k):Sx.den2 r v=Sx.den2 r' v':=by
 cases h with
 | plain h=>rw[qg5 h,qg5 h]
 | ptr h=>simp only[Sx.den2,den1,den0,jeu,hr _ _ (qep h)]
 | slice h=>simp only[Sx.den2,den1,den0,jeu,hr _ _ (qep h)]
 | map h=>simp only[Sx.den2,den1,den0,hr _ _ (qep h)]
 | quo=>exact qnf _ _ _ _
 | agg h=>
  simp only[Sx.den2,Value.agg.injEq];apply xH.1;rw[xz,xz];exact qqa hr h
 | any h2 _=>exact h2 _ _
 | func hu h=>exact(Re1.func hu h:Re1 ix _ _).den hr
theorem qqb {ix:List (Nat×Nat)} {r r':Rz} (hr:∀ k i,(k,i)∈ix->r i=r' k):∀ {l l':List Value},All2 (Re2 ix) l l'->l.map (den2 r)=l'.map (den2 r')
 | [],[],_=>rfl
 | [],_::_,h=>h.elim
 | _::_,[],h=>h.elim
 | _::_,_::_,h=>by rw[xp,xp,h.1.den2 hr,qqb hr h.2]
theorem Re2.den {v':Value} {r r':Rz} (h:Re2 ix v v') (hr:∀ k i,(k,i)∈ix->r i=r' k):Sx.den r v=Sx.den r' v':=by
 have e:=h.den2 hr;cases h with
 | plain h=>rw[qbe h,qbe h]
 | ptr h=>exact e
 | slice h=>exact e
 | map h=>exact e
 | quo=>exact e
 | agg h=>exact e
 | any _ h=>exact h _ _
 | func _ _=>exact e
theorem Re.den {v':Value} {r r':Rz} (h:Re ix v v') (hr:∀ k i,(k,i)∈ix->r i=r' k):Sx.den r v=Sx.den r' v':=by
 cases h with
 | plain h=>rw[qa8 h,qa8 h]
 | one h=>exact h.den hr
 | tuple h=>
  simp only[Sx.den,Value.tuple.injEq];apply xH.1;rw[xz,xz];exact qqb hr h
structure jdw where
 i:Nat
 c:Chunk
 e:Chunk
 d:Chunk
structure jen where
 i:Nat
 k:Nat
 d:Chunk
def partH:List jdw->Hp
 | []=>[]
 | s::r=>some s.e::partH r
def partX:List jdw->Nat->List (Nat×Nat)
 | [],_=>[]
 | s::r,k=>(k,s.i)::partX r (k+1)
def partM:List jdw->Mz
 | []=>[]
 | s::r=>match s.e.own with
  | true=>(s.i,s.d)::partM r
  | false=>partM r
def jhh:List jdw->List Nat
 | []=>[]
 | s::r=>match s.e.own with
  | true=>jhh r
  | false=>s.i::jhh r
def madeX:List jen->List (Nat×Nat)
 | []=>[]
 | n::r=>(n.k,n.i)::madeX r
def madeM:List jen->Mz
 | []=>[]
 | n::r=>(n.i,n.d)::madeM r
theorem qkz:∀ {ss:List jdw} {k:Nat},(partH ss)[k]?=(ss[k]?).map fun s=>some s.e
 | [],k=>by simp[partH]
 | s::r,0=>rfl
 | s::r,k+1=>by simpa[partH] using qkz (ss:=r) (k:=k)
theorem partX_mem:∀ {ss:List jdw} {k0 k i:Nat},(k,i)∈partX ss k0↔∃ l s,ss[l]?=some s/\k=k0+l/\i=s.i
 | [],k0,k,i=>by simp[partX]
 | s::r,k0,k,i=>by
  simp only[partX,xg,Prod.mk.injEq,partX_mem (ss:=r)];constructor
  ·rintro(⟨rfl,rfl⟩|⟨l,t,h,rfl,rfl⟩)
   ·exact⟨0,s,rfl,rfl,rfl⟩
   ·exact⟨l+1,t,h,by omega,rfl⟩
  ·rintro⟨l,t,h,rfl,rfl⟩;cases l with
   | zero=>simp at h;subst h;exact .inl ⟨rfl,rfl⟩
   | succ l=>exact .inr ⟨l,t,by simpa using h,by omega,rfl⟩
theorem partM_mem:∀ {ss:List jdw} {m:Nat×Chunk},m∈partM ss↔∃ s∈ss,s.e.own=true/\m=(s.i,s.d)
 | [],m=>by simp[partM]
 | s::r,m=>by
  simp only[partM];cases e:s.e.own with
  | true=>
       simp only[xg,partM_mem (ss:=r)];constructor
       ·rintro(rfl|⟨t,ht,h1,h2⟩)
        ·exact⟨s,.inl rfl,e,rfl⟩
        ·exact⟨t,.inr ht,h1,h2⟩
       ·rintro⟨t,rfl|ht,h1,h2⟩
        ·exact .inl h2
        ·exact .inr ⟨t,ht,h1,h2⟩
  | false=>
        simp only[xg,partM_mem (ss:=r)];constructor
        ·rintro⟨t,ht,h1,h2⟩;exact⟨t,.inr ht,h1,h2⟩
        ·rintro⟨t,rfl|ht,h1,h2⟩
         ·rw[e] at h1;cases h1
         ·exact⟨t,ht,h1,h2⟩
theorem qk0:∀ {ss:List jdw} {i:Nat},(∃ s∈ss,s.e.own=false/\i=s.i)->i∈jhh ss
 | [],i,h=>by simp at h
 | s::r,i,⟨t,ht,h1,h2⟩=>by
  simp only[jhh];rcases xg.1 ht with rfl|ht
  ·rw[h1];simp[h2]
  ·have:=qk0 (ss:=r) ⟨t,ht,h1,h2⟩;cases s.e.own with
   | true=>exact this
   | false=>exact yn _ this
theorem madeX_mem:∀ {ns:List jen} {k i:Nat},(k,i)∈madeX ns↔∃ n∈ns,k=n.k/\i=n.i
 | [],k,i=>by simp[madeX]
 | n::r,k,i=>by simp[madeX,madeX_mem (ns:=r)]
theorem madeM_mem:∀ {ns:List jen} {m:Nat×Chunk},m∈madeM ns↔∃ n∈ns,m=(n.i,n.d)
 | [],m=>by simp[madeM]
 | n::r,m=>by simp[madeM,madeM_mem (ns:=r)]
theorem qii:∀ {ms:Mz} {h:Hp},(modH h ms).length=h.length
 | [],h=>rfl
 | (i,c)::ms,h=>by simp[modH,qii (ms:=ms)]
theorem qnr:∀ {ms:Mz} {h:Hp} {k:Nat} {e:Chunk},(modH h ms)[k]?=some (some e)->(∃ m∈ms,m.1=k/\m.2=e)\/((∀ m∈ms,m.1≠k)/\h[k]?=some (some e))
 | [],h,k,e,hk=>.inr ⟨by simp,hk⟩
 | (i,c)::ms,h,k,e,hk=>by
  rcases qnr (ms:=ms) hk with ⟨m,hm,h1,h2⟩|⟨h1,h2⟩
  ·exact .inl ⟨m,yn _ hm,h1,h2⟩
  ·by_cases ek:i=k
   ·subst ek;have hl:i<h.length:=by have:=(xe.1 h2).1;simpa using this
    rw[xx hl] at h2;exact .inl ⟨(i,c),by simp,rfl,by simpa using h2⟩
   ·rw[xu ek] at h2;refine .inr ⟨fun m hm=>?_,h2⟩;rcases xg.1 hm with rfl|hm
    ·exact ek
    ·exact h1 m hm
theorem qtu:∀ {ms:Mz} {h:Hp} {m:Nat×Chunk},m∈ms->m.1<h.length->Fil (modH h ms) m.1
 | (i,c)::ms,h,m,hm,hl=>by
  rcases xg.1 hm with rfl|hm
  ·exact Fil.mod (ms:=ms) ⟨c,by rw[xx hl]⟩
  ·exact qtu (ms:=ms) hm Q99
def PartsIn (h:Hp):List jdw->Prop
 | []=>True
 | s::r=>h[s.i]?=some (some s.c)/\PartsIn h r
def qbb (ix:List (Nat×Nat)) (c e:Chunk):Prop:=∀ j,j<e.n->Re1 ix (c.f j) (e.f j)
def PartsRe (ix:List (Nat×Nat)):List jdw->Prop
 | []=>True
 | s::r=>((s.e.own=true->s.c.own=true/\s.d.n<=s.c.n)/\s.e.n<=s.c.n/\qbb ix s.c s.e)/\PartsRe ix r
def Apart:List jdw->Prop
 | []=>True
 | s::r=>(∀ t∈r,(s.e.own=true\/t.e.own=true)->s.i≠t.i)/\Apart r
def MadeIn (h:Hp):List jen->Prop
 | []=>True
 | n::r=>(h[n.i]?=some none/\(n.d.own,n.d.x)=(true,Ext.none)/\0<n.d.n/\∀ m∈r,n.i≠m.i/\n.k≠m.k)/\MadeIn h r
theorem PartsIn.at:∀ {ss:List jdw},PartsIn h ss->∀ s∈ss,h[s.i]?=some (some s.c)
 | t::r,hp,s,hs=>Q3L
theorem PartsRe.at:∀ {ss:List jdw},PartsRe ix ss->∀ s∈ss,(s.e.own=true->s.c.own=true/\s.d.n<=s.c.n)/\s.e.n<=s.c.n/\qbb ix s.c s.e
 | t::r,hp,s,hs=>Q3L
theorem Apart.at:∀ {ss:List jdw},Apart ss->∀ (k l:Nat) (s t:jdw),ss[k]?=some s->ss[l]?=some t->k≠l->s.e.own=true->s.i≠t.i
 | a::r,hp,0,0,s,t,hk,hl,hne,ho=>absurd rfl hne
 | a::r,hp,0,l+1,s,t,hk,hl,hne,ho=>by
  simp at hk;subst hk;exact hp.1 t (xG Q99) (.inl ho)
 | a::r,hp,k+1,0,s,t,hk,hl,hne,ho=>by
  simp at hl;subst hl;exact fun e=>hp.1 s (xG Q9U) (.inr ho) e.symm
 | a::r,hp,k+1,l+1,s,t,hk,hl,hne,ho=>hp.2.at k l s t Q9U Q99 Q8G ho
theorem MadeIn.at:∀ {ns:List jen},MadeIn h ns->∀ n∈ns,h[n.i]?=some none/\n.d.own=true/\0<n.d.n/\n.d.x=Ext.none
 | t::r,hp,s,hs=>by
  rcases xg.1 hs with rfl|hs
  ·exact⟨hp.1.1,(Prod.mk.inj hp.1.2.1).1,hp.1.2.2.1,(Prod.mk.inj hp.1.2.1).2⟩
  ·exact hp.2.at s hs
theorem MadeIn.ne:∀ {ns:List jen},MadeIn h ns->∀ n∈ns,∀ m∈ns,(n.i=m.i\/n.k=m.k)->n=m
 | t::r,hp,n,hn,m,hm,he=>by
  rcases xg.1 hn with h1|h1<;>rcases xg.1 hm with h2|h2
  ·rw[h1,h2]
  ·have:=hp.1.2.2.2 m h2;rw[h1] at he;omega
  ·have:=hp.1.2.2.2 n h1;rw[h2] at he;omega
  ·exact hp.2.ne n h1 m h2 he
theorem qij {o:Bool} {n m:Nat} {ps:Pz} (hp:∀ j,j<n->qbd (qa3 ps j)=true) :
  ((⟨false,n,ps⟩:Chunk).own=true->(⟨o,n,ps⟩:Chunk).own=true/\m<=(⟨o,n,ps⟩:Chunk).n)/\(⟨false,n,ps⟩:Chunk).n<=(⟨o,n,ps⟩:Chunk).n/\qbb ix ⟨o,n,ps⟩ ⟨false,n,ps⟩:=
 ⟨fun h=>Q95,nlr _,fun j hj=>.plain (hp j hj)⟩
theorem qbz {n:Nat} {l:List Value} (hl:l.length=n) (h:qap (.agg ⟨l⟩)=true):∀ j,j<n->qbd (qa3 [(0,n,.agg ⟨l⟩)] j)=true:=fun j hj=>by
 refine Q4y ?_;simp only[qap,xU] at h;exact h _ (zj _)
def PostC (ix:List (Nat×Nat)) (h:Hp) (k:Nat) (d:Chunk):Prop:=∃ c,h[k]?=some (some c)/\(d.own=true->c.own=true)/\d.n<=c.n/\∀ j,j<d.n->Re1 ix (d.f j) (c.f j)
def PostS (ix:List (Nat×Nat)) (h:Hp):List jdw->Nat->Prop
 | [],_=>True
 | s::r,k=>match s.e.own with
  | true=>PostC ix h k s.d/\PostS ix h r (k+1)
  | false=>PostS ix h r (k+1)
def PostN (ix:List (Nat×Nat)) (h:Hp) (n0:Nat):List jen->Prop
 | []=>True
 | n::r=>(n0<=n.k/\PostC ix h n.k n.d)/\PostN ix h n0 r
theorem PostS.at {ix:List (Nat×Nat)} {h:Hp}:∀ {ss:List jdw} {k0:Nat},PostS ix h ss k0->∀ (l:Nat) (s:jdw),ss[l]?=some s->s.e.own=true->PostC ix h (k0+l) s.d
 | a::r,k0,hp,0,s,hl,ho=>by
  simp at hl;subst hl;simp only[PostS] at hp;rw[ho] at hp;exact hp.1
 | a::r,k0,hp,l+1,s,hl,ho=>by
  simp only[PostS] at hp;have:PostS ix h r (k0+1):=by
   cases e:a.e.own with
   | true=>rw[e] at hp;exact hp.2
   | false=>rw[e] at hp;exact hp
  rw[show k0+(l+1)=k0+1+l from by omega];exact this.at l s Q99 ho
theorem PostN.at {n0:Nat}:∀ {ns:List jen},PostN ix h n0 ns->∀ n∈ns,n0<=n.k/\PostC ix h n.k n.d
 | t::r,hp,s,hs=>Q3L
section
variable {P:Program} {G:Tys}
def jgp (ss:List jdw) (k:Nat):Nat:=match ss[k]? with
 | some s=>s.i
 | none=>0
def subM (ρ:Rz) (S:Nat->Nat->Prop) (ss:List jdw):Addr->Prop:=fun a=>
 (a.spot=none/\∃ s∈ss,s.e.own=true/\a.block=(ρ s.i).1/\(ρ s.i).2<=a.off/\a.off<(ρ s.i).2+s.c.n)\/∃ s∈ss,s.e.own=true/\S s.i a.block
variable {ρ:Rz} {S:Nat->Nat->Prop} {ss:List jdw}
theorem qns {b:Nat} (h:subM ρ S ss ⟨b,0,some 0⟩):∃ s∈ss,s.e.own=true/\S s.i b:=by
 rcases h with ⟨h,_⟩|h
 ·cases h
 ·exact h
def qx6 (s:jdw):Prop:=s.e.x=Ext.none\/(s.e.own=true/\s.e.x=s.c.x)
variable {h₂:Hp} {vs xs:List Value} {X:Ctx} {w:World}
theorem qk1 (ss:List jdw) (vs':List Value)
  (hI:∀ s∈ss,h₂[s.i]?=some (some s.c)) (hre:PartsRe (partX ss 0) ss) (hap:Apart ss) (hex:∀ s∈ss,qx6 s) (hvs:All2 (Re2 (partX ss 0)) vs vs') (H:HOK X ρ h₂ w) (E:ExtOK X ρ h₂ w S) (hx:All2 (Den (Fil h₂) ρ) vs xs) :
  HOK ⟨w,subM ρ S ss,ss.length,fun k=>ρ (jgp ss k)⟩ (fun k=>ρ (jgp ss k)) (partH ss) w/\All2 (Den (Fil (partH ss)) (fun k=>ρ (jgp ss k))) vs' xs:=by
 let σ:Nat->Nat:=jgp ss
 have hσ:∀ k s,ss[k]?=some s->σ k=s.i:=fun k s hk=>by show(match ss[k]? with|some s=>s.i|none=>0)=s.i;rw[hk]
 let M':Addr->Prop:=subM ρ S ss
 have hix0:∀ k i,(k,i)∈partX ss 0->i=σ k/\k<ss.length:=fun k i hki=>by
  obtain⟨l,s,hl,rfl,rfl⟩:=partX_mem.1 hki;rw[xn];exact⟨(hσ l s hl).symm,(xe.1 hl).1⟩
 have filH:∀ k s,ss[k]?=some s->Fil (partH ss) k:=fun k s hk=>⟨s.e,by rw[qkz,hk];rfl⟩
 have getP:∀ k c,(partH ss)[k]?=some (some c)->∃ s:jdw,ss[k]?=some s/\s.e=c:=fun k c hk=>by
  rw[qkz] at hk;cases e:ss[k]? with
  | none=>rw[e] at hk;cases hk
  | some s=>rw[e] at hk;exact⟨s,e,by simpa using hk⟩
 have H0:HOK ⟨w,M',ss.length,fun k=>ρ (σ k)⟩ (fun k=>ρ (σ k)) (partH ss) w:=by
  refine⟨Evo.refl _ _,fun k hk=>?_,fun k c hk=>?_,fun k c hk j hj=>?_,fun k c hk ho j hj=>?_,fun k c l e hk ho hl hne=>?_,?_⟩
  ·have hk:k<ss.length:=hk;exact⟨filH k ss[k] (by simp[hk]),rfl⟩
  ·obtain⟨s,hs,rfl⟩:=getP k c hk;show(ρ (σ k)).1<_;rw[hσ k s hs];exact H.lt _ _ (hI s (xG hs))
  ·obtain⟨s,hs,rfl⟩:=getP k c hk;have hmem:=xG hs;obtain⟨_,hn,hcr⟩:=hre.at s hmem;obtain⟨x,hx,hdx⟩:=H.cell _ _ (hI s hmem) j (xj hj hn);show ∃ x,w.cell? ⟨(ρ (σ k)).1,(ρ (σ k)).2+j,none⟩=some x/\_;rw[hσ k s hs];refine⟨x,hx,fun r hrr=>?_⟩;have:=(hcr j hj).den (r:=ρ) (r':=r) (fun k i hki=>by
    obtain⟨rfl,hlt⟩:=hix0 k i hki;exact(hrr k (filH k ss[k] (by simp[hlt]))).symm)
   rw[<-this];exact hdx.self
  ·obtain⟨s,hs,rfl⟩:=getP k c hk;have hmem:=xG hs;obtain⟨ho1,hn,hcr⟩:=hre.at s hmem;have hj':=xj hj hn;show w.frozen? ⟨(ρ (σ k)).1,(ρ (σ k)).2+j,none⟩=false/\(_<=(ρ (σ k)).1\/M' ⟨(ρ (σ k)).1,(ρ (σ k)).2+j,none⟩);rw[hσ k s hs];exact⟨(H.own _ _ (hI s hmem) (ho1 ho).1 j hj').1,.inr (.inl ⟨rfl,s,hmem,ho,rfl,Nat.le_add_right _ _,Nat.add_lt_add_left hj' _⟩)⟩
  ·obtain⟨s,hs,rfl⟩:=getP k c hk;obtain⟨t,ht,rfl⟩:=getP l e hl;have hmem:=xG hs;show(ρ (σ k)).1≠(ρ (σ l)).1;rw[hσ k s hs,hσ l t ht];exact H.sep _ _ _ _ (hI s hmem) ((hre.at s hmem).1 ho).1 (hI t (xG ht)) (hap.at k l s t hs ht hne ho)
  ·refine⟨fun k b=>∃ s,ss[k]?=some s/\s.e.x≠Ext.none/\S s.i b,fun k c hk=>?_,fun k c b hk hS=>?_,fun k c b l d hk hS hl hne=>?_⟩
   ·obtain⟨s,hs,rfl⟩:=getP k c hk;show s.e.x.inv (ρ (σ k)) _ w;rw[hσ k s hs];rcases hex s (xG hs) with e|⟨_,e⟩
    ·rw[e];rintro b ⟨t,ht,h1,_⟩;rw[hs] at ht;obtain rfl:s=t:=by simpa using ht
     exact h1 e
    ·by_cases en:s.e.x=Ext.none
     ·rw[en];rintro b ⟨t,ht,h1,_⟩;rw[hs] at ht;obtain rfl:s=t:=by simpa using ht
      exact h1 en
     ·have:(fun b=>∃ t,ss[k]?=some t/\t.e.x≠Ext.none/\S t.i b)=S s.i:=by
       funext b;refine propext ⟨?_,fun h=>⟨s,hs,en,h⟩⟩;rintro⟨t,ht,_,h⟩;rw[hs] at ht;obtain rfl:s=t:=by simpa using ht
       exact h
      rw[this,e];exact E.inv _ _ (hI s (xG hs))
   ·obtain⟨s,hs,rfl⟩:=getP k c hk;obtain⟨t,ht,hx1,hb⟩:=hS;rw[hs] at ht;obtain rfl:s=t:=by simpa using ht
    have hmem:=xG hs;obtain⟨h1,h2,h3⟩:=E.mine _ _ b (hI s hmem) hb;have ho:s.e.own=true:=Q4G;exact⟨by have:=(hre.at s hmem).2.1;show s.e.n=0\/b≠(ρ (σ k)).1;rw[hσ k s hs];omega,h2,.inr ⟨.inr ⟨s,hmem,ho,hb⟩,fun j=>.inr ⟨s,hmem,ho,hb⟩⟩⟩
   ·obtain⟨s,hs,rfl⟩:=getP k c hk;obtain⟨u,hu,rfl⟩:=getP l d hl;obtain⟨t,ht,hx1,hb⟩:=hS;rw[hs] at ht;obtain rfl:s=t:=by simpa using ht
    have hmem:=xG hs;have ho:s.e.own=true:=Q4G;have hne':u.i≠s.i:=fun e=>hap.at k l s u hs hu (fun e=>hne e.symm) ho e.symm
    obtain⟨h1,h2⟩:=E.apart _ _ b _ _ (hI s hmem) hb (hI u (xG hu)) hne';refine⟨by show(ρ (σ l)).1≠b;rw[hσ l u hu];exact h1,?_⟩;rintro⟨t,ht,_,hb'⟩;rw[hu] at ht;obtain rfl:u=t:=by simpa using ht
    exact h2 hb'
 have hargs:∀ (aas bs ys:List Value),All2 (Re2 (partX ss 0)) aas bs->All2 (Den (Fil h₂) ρ) aas ys->All2 (Den (Fil (partH ss)) (fun k=>ρ (σ k))) bs ys:=by
  intro aas
  induction aas with
  | nil=>intro bs ys h1 h2;cases bs with
   | nil=>cases ys with
    | nil=>exact trivial
    | cons _ _=>exact h2.elim
   | cons _ _=>exact h1.elim
  | cons a aas ih=>
   intro bs ys h1 h2;cases bs with
   | nil=>exact h1.elim
   | cons b bs=>cases ys with
    | nil=>exact h2.elim
    | cons y ys=>
     refine⟨fun r hrr=>?_,ih bs ys h1.2 h2.2⟩;have:=h1.1.den (r:=ρ) (r':=r) (fun k i hki=>by
      obtain⟨rfl,hlt⟩:=hix0 k i hki;exact(hrr k (filH k ss[k] (by simp[hlt]))).symm)
     rw[<-this];exact h2.1.self
 exact⟨H0,hargs _ _ _ hvs hx⟩
theorem q7a {g:FuncId} {fn:Func} {cd:Code} (ss:List jdw) (vs':List Value) {R:Value->St->Prop}
  (hG:jef P G) (hm:P.follows .mixedOrders=true) (hf:P.funcs[g]?=some fn) (hb:fn.body=some cd)
  (hI:∀ s∈ss,h₂[s.i]?=some (some s.c)) (hre:PartsRe (partX ss 0) ss) (hap:Apart ss) (hex:∀ s∈ss,qx6 s) (hvs:All2 (Re2 (partX ss 0)) vs vs')
  (hwp:initK vs' fn.ntmps fun t=>wpC P G ss.length cd (bodyQ P G fn R) ⟨t,partH ss⟩) (H:HOK X ρ h₂ w) (E:ExtOK X ρ h₂ w S) (hx:All2 (Den (Fil h₂) ρ) vs xs) :
  Calls P g ⟨xs⟩ w fun e w'=>∃ ρ1 v st x,e=.returned x/\HOK ⟨w,subM ρ S ss,ss.length,fun k=>ρ (jgp ss k)⟩ ρ1 st.h w'/\Den (Fil st.h) ρ1 v x/\R v st:=by
 obtain⟨H0,hargs⟩:=qk1 ss vs' hI hre hap hex hvs H E hx
 exact qih (X:=⟨w,subM ρ S ss,ss.length,fun k=>ρ (jgp ss k)⟩) (args:=⟨xs⟩) hG hm hf hb H0 hargs hwp
def Selfish (x:Ext):Prop:=∀ p S w,x.inv p S w->S p.1
open Classical in
theorem qnt {hE:Hp} {V:Value} (ss:List jdw) (ns:List jen)
  (hI:∀ s∈ss,h₂[s.i]?=some (some s.c)) (hNw:∀ n∈ns,h₂[n.i]?=some none) (hre:PartsRe (partX ss 0) ss) (hap:Apart ss) (hmi:∀ n∈ns,n.d.own=true/\(0<n.d.n\/Selfish n.d.x)) (hne:∀ n∈ns,∀ m∈ns,(n.i=m.i\/n.k=m.k)->n=m) {w':World} {ρ1:Rz} {v x:Value} (H:HOK X ρ h₂ w) (E:ExtOK X ρ h₂ w S)
  (H1:HOK ⟨w,subM ρ S ss,ss.length,fun k=>ρ (jgp ss k)⟩ ρ1 hE w') (hdx:Den (Fil hE) ρ1 v x)
  (hV:Re (partX ss 0++madeX ns) V v) (hS:PostS (partX ss 0++madeX ns) hE ss 0) (hN:PostN (partX ss 0++madeX ns) hE ss.length ns)
  (hSx:∀ (l:Nat) (s:jdw),ss[l]?=some s->s.e.own=true->s.d.x=Ext.none\/∃ c,hE[l]?=some (some c)/\s.d.x=c.x) (hNx:∀ n∈ns,n.d.x=Ext.none\/∃ c,hE[n.k]?=some (some c)/\n.d.x=c.x) :
  ∃ ρ',AgreeOn (Fil h₂) ρ ρ'/\HOK X ρ' (modH h₂ (partM ss++madeM ns)) w'/\Den (Fil (modH h₂ (partM ss++madeM ns))) ρ' V x:=by
 let σ:Nat->Nat:=jgp ss
 have hσ:∀ k s,ss[k]?=some s->σ k=s.i:=fun k s hk=>by show(match ss[k]? with|some s=>s.i|none=>0)=s.i;rw[hk]
 let M':Addr->Prop:=subM ρ S ss
 have hsz:w.heap.size<=w'.heap.size:=H1.evo.size
 obtain⟨S1,E1⟩:=H1.ext
 have hbase:∀ k s,ss[k]?=some s->Fil hE k/\ρ1 k=ρ s.i:=fun k s hk=>by
  obtain⟨h1,h2⟩:=H1.base k (xe.1 hk).1;exact⟨h1,h2.trans (by show ρ (σ k)=_;rw[hσ k s hk])⟩
 have may:∀ b,May ⟨w,M',ss.length,fun k=>ρ (σ k)⟩ b->w.heap.size<=b\/∃ s∈ss,s.e.own=true/\S s.i b:=fun b hb=>by
  rcases hb with hb|⟨hb,_⟩
  ·exact .inl hb
  ·exact .inr (qns hb)
 have mayX:∀ b,(w.heap.size<=b\/∃ s∈ss,s.e.own=true/\S s.i b)->May X b:=fun b hb=>by
  rcases hb with hb|⟨s,hs,_,hb⟩
  ·exact .inl (xF H.evo.size hb)
  ·exact(E.mine _ _ b (hI s hs) hb).2.2
 have hnew:∀ n∈ns,w.heap.size<=(ρ1 n.k).1\/∃ s∈ss,s.e.own=true/\S s.i (ρ1 n.k).1:=fun n hn=>by
  obtain⟨hk,c,hc,ho,hle,_⟩:=hN.at n hn;obtain⟨hdo,hpos⟩:=hmi n hn;rcases hpos with hpos|hself
  ·rcases(H1.own n.k c hc (ho hdo) 0 (xj hpos hle)).2 with h|h|h
   ·exact .inl h
   ·obtain⟨_,s,hs,hso,hbl,_⟩:=h;obtain⟨l,hl,hlt⟩:=y4 hs;have hl':ss[l]?=some s:=by rw[xr hl,hlt]
    obtain⟨⟨d,hd⟩,hρ⟩:=hbase l s hl';have:=H1.sep n.k c l d hc (ho hdo) hd Q8G;rw[hρ] at this;exact absurd hbl this
   ·exact .inr h
  ·rcases hNx n hn with e|⟨c',hc',e⟩
   ·have:=hself (0,0) (fun _=>False) w (by rw[e];exact fun _ h=>h);exact this.elim
   ·have:=hself _ _ _ (by rw[e];exact E1.inv _ _ hc');exact may _ (E1.mine _ _ _ hc' this).2.2
 let ρ':Nat->Nat×Nat:=fun j=>if hj:∃ n∈ns,n.i=j then ρ1 (Classical.choose hj).k else ρ j
 have ρnew:∀ n∈ns,ρ' n.i=ρ1 n.k:=fun n hn=>by
  have hj:∃ m∈ns,m.i=n.i:=⟨n,hn,rfl⟩;have hc:=Classical.choose_spec hj;have:Classical.choose hj=n:=hne _ hc.1 _ hn (.inl hc.2);show(if hj:∃ m∈ns,m.i=n.i then ρ1 (Classical.choose hj).k else ρ n.i)=_;rw[dif_pos hj,this]
 have ρold:∀ j,Fil h₂ j->ρ' j=ρ j:=fun j ⟨c,hc⟩=>by
  have:¬ ∃ n∈ns,n.i=j:=fun⟨n,hn,he⟩=>by
   have:=hNw n hn;rw[he,hc] at this;simp at this
  show(if hj:∃ m∈ns,m.i=j then ρ1 (Classical.choose hj).k else ρ j)=_;rw[dif_neg this]
 have filS:∀ s∈ss,Fil h₂ s.i:=fun s hs=>⟨_,hI s hs⟩
 let ms:Mz:=partM ss++madeM ns
 have fil:∀ k,Fil h₂ k->Fil (modH h₂ ms) k:=fun k hk=>hk.mod
 have filN:∀ n∈ns,Fil (modH h₂ ms) n.i:=fun n hn=>
  qtu (m:=(n.i,n.d)) (zA _ (madeM_mem.2 ⟨n,hn,rfl⟩)) (xe.1 (hNw n hn)).1
 have hix:∀ k i,(k,i)∈partX ss 0++madeX ns->Fil (modH h₂ ms) i/\ρ' i=ρ1 k:=fun k i hki=>by
  rcases yM.1 hki with hki|hki
  ·obtain⟨l,s,hl,rfl,rfl⟩:=partX_mem.1 hki;have hmem:=xG hl;rw[xn];exact⟨fil _ (filS s hmem),(ρold _ (filS s hmem)).trans (hbase l s hl).2.symm⟩
  ·obtain⟨n,hn,rfl,rfl⟩:=madeX_mem.1 hki;exact⟨filN n hn,ρnew n hn⟩
 have hden:∀ r,AgreeOn (Fil (modH h₂ ms)) ρ' r->∀ k i,(k,i)∈partX ss 0++madeX ns->r i=ρ1 k:=fun r hrr k i hki=>by
  obtain⟨h1,h2⟩:=hix k i hki;exact(hrr i h1).trans h2
 have get:∀ k e,(modH h₂ ms)[k]?=some (some e)->(∃ (l:Nat) (s:jdw),ss[l]?=some s/\s.e.own=true/\s.i=k/\s.d=e)\/(∃ n∈ns,n.i=k/\n.d=e)\/((∀ s∈ss,s.e.own=true->s.i≠k)/\h₂[k]?=some (some e)):=fun k e hk=>by
  rcases qnr hk with ⟨m,hm,h1,h2⟩|⟨h1,h2⟩
  ·rcases yM.1 hm with hm|hm
   ·obtain⟨s,hs,ho,rfl⟩:=partM_mem.1 hm;obtain⟨l,hl,hlt⟩:=y4 hs;exact .inl ⟨l,s,by rw[xr hl,hlt],ho,h1,h2⟩
   ·obtain⟨n,hn,rfl⟩:=madeM_mem.1 hm;exact .inr (.inl ⟨n,hn,h1,h2⟩)
  ·exact .inr (.inr ⟨fun s hs ho=>h1 _ (List.mem_append_left _ (partM_mem.2 ⟨s,hs,ho,rfl⟩)),h2⟩)
 let Inn:Nat->Nat->Prop:=fun k l=>(∃ s,ss[l]?=some s/\s.e.own=true/\s.i=k)\/∃ n∈ns,n.i=k/\n.k=l
 have innU:∀ k l l',Inn k l->Inn k l'->l=l':=fun k l l' h1 h2=>by
  rcases h1 with ⟨s,hs,ho,rfl⟩|⟨n,hn,rfl,rfl⟩<;>rcases h2 with ⟨t,ht,ho',e⟩|⟨m,hm,e,rfl⟩
  ·exact Classical.byContradiction fun hll=>hap.at l l' s t hs ht hll ho e.symm
  ·have h1:=hNw m hm;rw[e,hI s (xG hs)] at h1;simp at h1
  ·have h1:=hNw n hn;rw[<-e,hI t (xG ht)] at h1;simp at h1
  ·rw[hne n hn m hm (.inl e.symm)]
 have innV:∀ k k' l,Inn k l->Inn k' l->k=k':=fun k k' l h1 h2=>by
  rcases h1 with ⟨s,hs,ho,rfl⟩|⟨n,hn,rfl,rfl⟩<;>rcases h2 with ⟨t,ht,ho',e⟩|⟨m,hm,e,e'⟩
  ·rw[hs] at ht;obtain rfl:s=t:=by simpa using ht
   exact e
  ·have:=(hN.at m hm).1;have:=(xe.1 hs).1;omega
  ·have:=(hN.at n hn).1;have:=(xe.1 ht).1;omega
  ·rw[hne n hn m hm (.inr e'.symm)];exact e
 have inn:∀ k e,(modH h₂ ms)[k]?=some (some e)->(∃ l c,Inn k l/\hE[l]?=some (some c)/\ρ' k=ρ1 l/\(e.own=true->c.own=true)/\e.n<=c.n/\(∀ j,j<e.n->Re1 (partX ss 0++madeX ns) (e.f j) (c.f j))/\(e.x=Ext.none\/e.x=c.x))\/((∀ l,¬ Inn k l)/\(∀ s∈ss,s.e.own=true->s.i≠k)/\h₂[k]?=some (some e)/\ρ' k=ρ k):=fun k e hk=>by
  rcases get k e hk with ⟨l,s,hl,ho,rfl,rfl⟩|⟨n,hn,rfl,rfl⟩|⟨hnn,hk⟩
  ·have hmem:=xG hl;obtain⟨c,hc,hoc,hle,hR⟩:=hS.at l s hl ho;rw[xn] at hc;refine .inl ⟨l,c,.inl ⟨s,hl,ho,rfl⟩,hc,?_,hoc,hle,hR,?_⟩
   ·rw[ρold _ (filS s hmem),(hbase l s hl).2]
   ·rcases hSx l s hl ho with e|⟨c',hc',e⟩
    ·exact .inl e
    exact Q4O
  ·obtain⟨_,c,hc,hoc,hle,hR⟩:=hN.at n hn;refine .inl ⟨n.k,c,.inr ⟨n,hn,rfl,rfl⟩,hc,ρnew n hn,hoc,hle,hR,?_⟩;rcases hNx n hn with e|⟨c',hc',e⟩
   ·exact .inl e
   exact Q4O
  ·refine .inr ⟨fun l hl=>?_,hnn,hk,ρold k ⟨e,hk⟩⟩;rcases hl with ⟨s,hs,ho,rfl⟩|⟨n,hn,rfl,rfl⟩
   ·exact hnn s (xG hs) ho rfl
   ·rw[hNw n hn] at hk;simp at hk
 have innIn:∀ k l,Inn k l->∀ b,(b=(ρ1 l).1\/∃ c,hE[l]?=some (some c)/\S1 l b)->w.heap.size<=b\/(∃ s∈ss,s.e.own=true/\S s.i b)\/∃ s∈ss,s.e.own=true/\b=(ρ s.i).1:=fun k l hl b hb=>by
  rcases hb with rfl|⟨c,hc,hb⟩
  ·rcases hl with ⟨s,hs,ho,rfl⟩|⟨n,hn,rfl,rfl⟩
   ·exact .inr (.inr ⟨s,xG hs,ho,by rw[(hbase l s hs).2]⟩)
   ·rcases hnew n hn with h|h
    ·exact .inl h
    ·exact .inr (.inl h)
  ·rcases may b (E1.mine l c b hc hb).2.2 with h|h
   ·exact .inl h
   ·exact .inr (.inl h)
 have out:∀ b,b<w.heap.size->(∀ s∈ss,s.e.own=true->b≠(ρ s.i).1/\¬ S s.i b)->w'.heap[b]?=w.heap[b]?:=fun b hb hn=>
  H1.evo.same hb (fun hm=>by obtain⟨s,hs,ho,h⟩:=qns hm;exact(hn s hs ho).2 h) fun j hm=>by
   rcases hm with ⟨_,s,hs,hso,hbl,_⟩|⟨s,hs,ho,h⟩
   ·exact(hn s hs hso).1 hbl
   ·exact(hn s hs ho).2 h
 have apartO:∀ k e,(∀ s∈ss,s.e.own=true->s.i≠k)->h₂[k]?=some (some e)->∀ s∈ss,s.e.own=true->(ρ k).1≠(ρ s.i).1/\¬ S s.i (ρ k).1:=fun k e hnn hk s hs ho=>by
  refine⟨fun e'=>H.sep _ _ _ _ (hI s hs) ((hre.at s hs).1 ho).1 hk (hnn s hs ho) e'.symm,fun hb=>?_⟩;exact(E.apart _ _ _ _ _ (hI s hs) hb hk (fun e=>hnn s hs ho e.symm)).1 rfl
 have apartS:∀ k e b,(∀ s∈ss,s.e.own=true->s.i≠k)->h₂[k]?=some (some e)->S k b->∀ s∈ss,s.e.own=true->b≠(ρ s.i).1/\¬ S s.i b:=fun k e b hnn hk hb s hs ho=>by
  obtain⟨h1,h2⟩:=E.apart _ _ b _ _ hk hb (hI s hs) (hnn s hs ho);exact⟨fun e=>h1 e.symm,h2⟩
 have same:∀ k c',h₂[k]?=some (some c')->(∀ s∈ss,s.e.own=true->s.i≠k)->w'.heap[(ρ k).1]?=w.heap[(ρ k).1]?:=fun k c' hk hnn=>
  out _ (H.lt _ _ hk) (apartO k c' hnn hk)
 refine⟨ρ',fun k hk=>ρold k hk,?_,?_⟩
 ·show HOK X ρ' (modH h₂ ms) w';refine⟨H.evo.into H1.evo (fun p hp=>?_) fun p j hj=>?_,fun k hk=>⟨fil k (H.base k hk).1,(ρold k (H.base k hk).1).trans (H.base k hk).2⟩,fun k e hk=>?_,fun k e hk j hj=>?_,fun k e hk hoe j hj=>?_,fun k e l f' hk hoe hlf hnel=>?_,?_⟩
  ·obtain⟨s,hs,ho,h⟩:=qns hp;rcases(E.mine _ _ _ (hI s hs) h).2.2 with h|h
   ·exact .inl h
   ·exact .inr h.1
  ·rcases hj with ⟨_,s,hs,hso,hbl,h1,h2⟩|⟨s,hs,ho,h⟩
   ·have hbl:p=(ρ s.i).1:=hbl;have h1:(ρ s.i).2<=j:=h1;have h2:j<(ρ s.i).2+s.c.n:=h2;have:=(H.own _ _ (hI s hs) ((hre.at s hs).1 hso).1 (j-(ρ s.i).2) Q8G).2;rw[show(ρ s.i).2+(j-(ρ s.i).2)=j from by omega,<-hbl] at this;exact this
   ·rcases(E.mine _ _ _ (hI s hs) h).2.2 with h|h
    ·exact .inl h
    ·exact .inr (h.2 j)
  ·rcases inn k e hk with ⟨l,c,_,hc,hρ,_⟩|⟨_,_,hk,hρ⟩
   ·rw[hρ];exact H1.lt _ _ hc
   ·rw[hρ];exact xj (H.lt _ _ hk) hsz
  ·rcases inn k e hk with ⟨l,c,_,hc,hρ,_,hle,hR,_⟩|⟨_,hnn,hk,hρ⟩
   ·obtain⟨y,hy,hdy⟩:=H1.cell l c hc j (xj hj hle);rw[hρ];exact⟨y,hy,fun r hrr=>((hR j hj).den (hden r hrr)).trans hdy.self⟩
   ·obtain⟨y,hy,hdy⟩:=H.cell _ _ hk j hj;rw[hρ];refine⟨y,?_,hdy.more (fun i hi=>ρold i hi) fil⟩;have:=same k e hk hnn;rw[<-hy];unfold World.cell?;simp only[this]
  ·rcases get k e hk with ⟨l,s,hl,ho,rfl,rfl⟩|⟨n,hn,rfl,rfl⟩|⟨hnn,hk⟩
   ·have hmem:=xG hl;obtain⟨c,hc,hoc,hle,hR⟩:=hS.at l s hl ho;rw[xn] at hc;have h1:=(H1.own l c hc (hoc hoe) j (xj hj hle)).1;rw[(hbase l s hl).2] at h1;rw[ρold _ (filS s hmem)];obtain⟨hco,hdn⟩:=(hre.at s hmem).1 ho;exact⟨h1,(H.own _ _ (hI s hmem) hco j (xj hj hdn)).2⟩
   ·obtain⟨_,c,hc,hoc,hle,_⟩:=hN.at n hn;rw[ρnew n hn];refine⟨(H1.own n.k c hc (hoc hoe) j (xj hj hle)).1,?_⟩;rcases mayX _ (hnew n hn) with h|h
    ·exact .inl h
    ·exact .inr (h.2 _)
   ·obtain⟨hy,hdy⟩:=H.own _ _ hk hoe j hj;rw[ρold k ⟨e,hk⟩];refine⟨?_,hdy⟩;have:=same k e hk hnn;rw[<-hy];unfold World.frozen?;simp only[this]
  ·rcases inn k e hk with ⟨i1,c,hi1,hc,hρ,hoc,_⟩|⟨hin,hnn,hk,hρ⟩<;>rcases inn l f' hlf with ⟨i2,c',hi2,hc',hρ2,_⟩|⟨hin2,hnn2,hlf,hρ2⟩
   ·rw[hρ,hρ2];exact H1.sep _ _ _ _ hc (hoc hoe) hc' fun ei=>hnel (innV _ _ i1 hi1 (by rw[ei];exact hi2))
   ·rw[hρ,hρ2];have h1:=H.lt _ _ hlf;have h2:=apartO l f' hnn2 hlf;rcases innIn _ _ hi1 _ (.inl rfl) with h|⟨s,hs,ho,h⟩|⟨s,hs,ho,h⟩
    ·omega
    ·exact fun e=>(h2 s hs ho).2 (e▸h)
    ·exact fun e=>(h2 s hs ho).1 (e▸h)
   ·rw[hρ,hρ2];have h1:=H.lt _ _ hk;have h2:=apartO k e hnn hk;rcases innIn _ _ hi2 _ (.inl rfl) with h|⟨s,hs,ho,h⟩|⟨s,hs,ho,h⟩
    ·omega
    ·exact fun e=>(h2 s hs ho).2 (e.symm▸h)
    ·exact fun e=>(h2 s hs ho).1 (e.trans h)
   ·rw[hρ,hρ2];exact H.sep _ _ _ _ hk hoe hlf hnel
  ·refine⟨fun k b=>∃ e,(modH h₂ ms)[k]?=some (some e)/\e.x≠Ext.none/\((∃ l,Inn k l/\S1 l b)\/((∀ l,¬ Inn k l)/\S k b)),fun k e hk=>?_,fun k e b hk hS'=>?_,fun k e b l d hk hS' hl hnel=>?_⟩
   ·by_cases en:e.x=Ext.none
    ·rw[en];rintro b ⟨e',he',h1,_⟩;rw[hk] at he';obtain rfl:e=e':=by simpa using he'
     exact h1 en
    ·rcases inn k e hk with ⟨l,c,hil,hc,hρ,_,_,_,hx⟩|⟨hin,hnn,hk2,hρ⟩
     ·have:(fun b=>∃ e,(modH h₂ ms)[k]?=some (some e)/\e.x≠Ext.none/\((∃ l,Inn k l/\S1 l b)\/((∀ l,¬ Inn k l)/\S k b)))=S1 l:=by
       funext b;refine propext ⟨?_,fun h=>⟨e,hk,en,.inl ⟨l,hil,h⟩⟩⟩;rintro⟨e',_,_,⟨l',hl',h⟩|⟨h,_⟩⟩
       ·rw[innU k l l' hil hl'];exact h
       ·exact absurd hil (h l)
      rw[this,hρ];rcases hx with hx|hx
      ·exact absurd hx en
      ·rw[hx];exact E1.inv l c hc
     ·have:(fun b=>∃ e,(modH h₂ ms)[k]?=some (some e)/\e.x≠Ext.none/\((∃ l,Inn k l/\S1 l b)\/((∀ l,¬ Inn k l)/\S k b)))=S k:=by
       funext b;refine propext ⟨?_,fun h=>⟨e,hk,en,.inr ⟨hin,h⟩⟩⟩;rintro⟨e',_,_,⟨l',hl',h⟩|⟨_,h⟩⟩
       ·exact absurd hl' (hin l')
       ·exact h
      rw[this,hρ];exact e.x.keep (E.inv k e hk2) fun b hb=>out b (E.mine k e b hk2 hb).2.1 (apartS k e b hnn hk2 hb)
   ·obtain⟨e',he',_,hS'⟩:=hS';rcases inn k e hk with ⟨l,c,hil,hc,hρ,_,hle,_,hx⟩|⟨hin,hnn,hk2,hρ⟩
    ·rcases hS' with ⟨l',hl',hb⟩|⟨h,_⟩
     ·obtain rfl:=innU k l l' hil hl';obtain⟨h1,h2,h3⟩:=E1.mine l c b hc hb;exact⟨by rw[hρ];omega,h2,mayX b (may b h3)⟩
     ·exact absurd hil (h l)
    ·rcases hS' with ⟨l',hl',hb⟩|⟨_,hb⟩
     ·exact absurd hl' (hin l')
     ·obtain⟨h1,h2,h3⟩:=E.mine k e b hk2 hb;exact⟨by rw[hρ];exact h1,xj h2 hsz,h3⟩
   ·obtain⟨e',he',_,hS'⟩:=hS';have key:(ρ' l).1≠b/\¬ ((∃ l',Inn l l'/\S1 l' b)\/((∀ l',¬ Inn l l')/\S l b)):=by
     rcases inn k e hk with ⟨i1,c,hi1,hc,hρ,_⟩|⟨hin,hnn,hk2,hρ⟩<;>rcases inn l d hl with ⟨i2,c',hi2,hc',hρ2,_⟩|⟨hin2,hnn2,hl2,hρ2⟩
     ·rcases hS' with ⟨l',hl',hb⟩|⟨h,_⟩
      ·obtain rfl:=innU k i1 l' hi1 hl';obtain⟨h1,h2⟩:=E1.apart i1 c b i2 c' hc hb hc' fun ei=>hnel (innV _ _ i2 hi2 (by rw[ei];exact hi1))
       refine⟨by rw[hρ2];exact h1,?_⟩;rintro(⟨l'',hl'',hb'⟩|⟨h,_⟩)
       ·obtain rfl:=innU l i2 l'' hi2 hl'';exact h2 hb'
       ·exact h i2 hi2
      ·exact absurd hi1 (h i1)
     ·rcases hS' with ⟨l',hl',hb⟩|⟨h,_⟩
      ·obtain rfl:=innU k i1 l' hi1 hl';have hb1:=may b (E1.mine i1 c b hc hb).2.2;refine⟨?_,?_⟩
       ·rw[hρ2];rcases hb1 with h|⟨s,hs,ho,h⟩
        ·have:=H.lt _ _ hl2;omega
        ·exact fun e=>(apartO l d hnn2 hl2 s hs ho).2 (e▸h)
       ·rintro(⟨l'',hl'',hb'⟩|⟨_,hb'⟩)
        ·exact hin2 l'' hl''
        ·rcases hb1 with h|⟨s,hs,ho,h⟩
         ·have:=(E.mine l d b hl2 hb').2.1;omega
         ·exact(apartS l d b hnn2 hl2 hb' s hs ho).2 h
      ·exact absurd hi1 (h i1)
     ·rcases hS' with ⟨l',hl',hb⟩|⟨_,hb⟩
      ·exact absurd hl' (hin l')
      ·have hlt:=(E.mine k e b hk2 hb).2.1;have hap2:=apartS k e b hnn hk2 hb;refine⟨?_,?_⟩
       ·rw[hρ2];intro e3;rcases innIn _ _ hi2 b (.inl e3.symm) with h|⟨s,hs,ho,h⟩|⟨s,hs,ho,h⟩
        ·omega
        ·exact(hap2 s hs ho).2 h
        ·exact(hap2 s hs ho).1 h
       ·rintro(⟨l'',hl'',hb'⟩|⟨h,_⟩)
        ·obtain rfl:=innU l i2 l'' hi2 hl'';rcases innIn _ _ hi2 b (.inr ⟨c',hc',hb'⟩) with h|⟨s,hs,ho,h⟩|⟨s,hs,ho,h⟩
         ·omega
         ·exact(hap2 s hs ho).2 h
         ·exact(hap2 s hs ho).1 h
        ·exact h i2 hi2
     ·rcases hS' with ⟨l',hl',hb⟩|⟨_,hb⟩
      ·exact absurd hl' (hin l')
      ·obtain⟨h1,h2⟩:=E.apart k e b l d hk2 hb hl2 hnel;refine⟨by rw[hρ2];exact h1,?_⟩;rintro(⟨l'',hl'',_⟩|⟨_,hb'⟩)
       ·exact hin2 l'' hl''
       ·exact h2 hb'
    exact⟨key.1,fun⟨_,_,_,h⟩=>key.2 h⟩
 ·intro r hrr;rw[hV.den (hden r hrr)];exact hdx.self
def PartsN:List jdw->Prop
 | []=>True
 | s::r=>(s.e.x=Ext.none/\s.d.x=Ext.none)/\PartsN r
theorem PartsN.at:∀ {ss:List jdw},PartsN ss->∀ s∈ss,s.e.x=Ext.none/\s.d.x=Ext.none
 | t::r,hp,s,hs=>by
  rcases xg.1 hs with rfl|hs
  ·exact hp.1
  ·exact PartsN.at hp.2 s hs
theorem qal {g:FuncId} {fn:Func} {cd:Code} {h:Hp} {V:Value} (ss:List jdw) (ns:List jen) (vs':List Value)
  (hG:jef P G) (hm:P.follows .mixedOrders=true) (hf:P.funcs[g]?=some fn) (hb:fn.body=some cd) (hr:∀ xs w,(callFunc g xs).run P w=.ok (.enter g xs) w)
  (hin:PartsIn h ss) (hre:PartsRe (partX ss 0) ss) (hap:Apart ss) (hmi:MadeIn h ns) (hvs:All2 (Re2 (partX ss 0)) vs vs')
  (hwp:initK vs' fn.ntmps fun t=>wpC P G ss.length cd (bodyQ P G fn fun v st=>N (Obl (Re (partX ss 0++madeX ns) V v) (N (Obl (PostS (partX ss 0++madeX ns) st.h ss 0) (N (Obl (PostN (partX ss 0++madeX ns) st.h ss.length ns) (N True))))))) ⟨t,partH ss⟩)
  (hex:PartsN ss:=by(first|exact True.intro|exact⟨⟨rfl,rfl⟩,True.intro⟩|exact⟨⟨rfl,rfl⟩,⟨rfl,rfl⟩,True.intro⟩|exact⟨⟨rfl,rfl⟩,⟨rfl,rfl⟩,⟨rfl,rfl⟩,True.intro⟩|exact⟨⟨rfl,rfl⟩,⟨rfl,rfl⟩,⟨rfl,rfl⟩,⟨rfl,rfl⟩,True.intro⟩|exact⟨⟨rfl,rfl⟩,⟨rfl,rfl⟩,⟨rfl,rfl⟩,⟨rfl,rfl⟩,⟨rfl,rfl⟩,True.intro⟩|exact⟨⟨rfl,rfl⟩,⟨rfl,rfl⟩,⟨rfl,rfl⟩,⟨rfl,rfl⟩,⟨rfl,rfl⟩,⟨rfl,rfl⟩,True.intro⟩|exact⟨⟨rfl,rfl⟩,⟨rfl,rfl⟩,⟨rfl,rfl⟩,⟨rfl,rfl⟩,⟨rfl,rfl⟩,⟨rfl,rfl⟩,⟨rfl,rfl⟩,True.intro⟩|exact⟨⟨rfl,rfl⟩,⟨rfl,rfl⟩,⟨rfl,rfl⟩,⟨rfl,rfl⟩,⟨rfl,rfl⟩,⟨rfl,rfl⟩,⟨rfl,rfl⟩,⟨rfl,rfl⟩,True.intro⟩|exact⟨⟨rfl,rfl⟩,⟨rfl,rfl⟩,⟨rfl,rfl⟩,⟨rfl,rfl⟩,⟨rfl,rfl⟩,⟨rfl,rfl⟩,⟨rfl,rfl⟩,⟨rfl,rfl⟩,⟨rfl,rfl⟩,True.intro⟩|exact⟨⟨rfl,rfl⟩,⟨rfl,rfl⟩,⟨rfl,rfl⟩,⟨rfl,rfl⟩,⟨rfl,rfl⟩,⟨rfl,rfl⟩,⟨rfl,rfl⟩,⟨rfl,rfl⟩,⟨rfl,rfl⟩,⟨rfl,rfl⟩,True.intro⟩)) :
  qaf P g vs h V (partM ss++madeM ns) (jhh ss):=fun h₂ hrd hms X ρ w xs H hx=>by
 have hI:∀ s∈ss,h₂[s.i]?=some (some s.c):=fun s hs=>Q2Z
 have hNw:∀ n∈ns,h₂[n.i]?=some none:=fun n hn=>(hms (n.i,n.d) (zA _ (madeM_mem.2 ⟨n,hn,rfl⟩))).trans (hmi.at n hn).1
 obtain⟨S,E⟩:=H.ext
 refine .inr ⟨hr _ w,?_⟩
 refine(q7a ss vs' hG hm hf hb hI hre hap (fun s hs=>.inl (hex.at s hs).1) hvs hwp H E hx).mono ?_
 rintro e w' ⟨ρ1,v,st,x,rfl,H1,hdx,hq⟩
 have q1:Re (partX ss 0++madeX ns) V v/\N _:=N.out hq
 have q2:PostS (partX ss 0++madeX ns) st.h ss 0/\N _:=N.out q1.2
 have q3:PostN (partX ss 0++madeX ns) st.h ss.length ns/\N True:=N.out q2.2
 exact⟨x,rfl,qnt ss ns hI hNw hre hap (fun n hn=>⟨(hmi.at n hn).2.1,.inl (hmi.at n hn).2.2.1⟩) (fun n hn m hm=>hmi.ne n hn m hm) H E H1 hdx q1.1 q2.1 q3.1 (fun l s hl _=>.inl (hex.at s (xG hl)).2) fun n hn=>.inl (hmi.at n hn).2.2.2⟩
def setD:List jdw->List Chunk->List jdw
 | [],_=>[]
 | s::r,[]=>s::setD r []
 | s::r,d::ds=>⟨s.i,s.c,s.e,d⟩::setD r ds
theorem qka:∀ (ss:List jdw),setD ss []=ss
 | []=>rfl
 | s::r=>by simp[setD,qka r]
theorem qik {β:Type} (f:Nat->Chunk->Chunk->β):∀ (ss:List jdw) (ds:List Chunk),(setD ss ds).map (fun s=>f s.i s.c s.e)=ss.map (fun s=>f s.i s.c s.e)
 | [],_=>rfl
 | s::r,[]=>by simp[setD,qka]
 | s::r,d::ds=>by simp only[setD,xp,qik f r ds]
theorem qtv (ss:List jdw) (ds:List Chunk):(setD ss ds).length=ss.length:=by
 have:=congrArg List.length (qik (fun i _ _=>i) ss ds);simpa using this
theorem qqc:∀ (ss:List jdw) (ds:List Chunk) (k:Nat),partX (setD ss ds) k=partX ss k
 | [],_,_=>rfl
 | s::r,[],k=>by rw[qka]
 | s::r,d::ds,k=>by simp only[setD,partX,qqc r ds]
variable {ds:List Chunk}
theorem qnu {s:jdw} (h:s∈setD ss ds):∃ t∈ss,t.i=s.i/\t.c=s.c/\t.e=s.e:=by
 have:=qik (fun i c e=>(i,c,e)) ss ds;have hm:(s.i,s.c,s.e)∈(setD ss ds).map (fun s=>(s.i,s.c,s.e)):=xw.2 ⟨s,h,rfl⟩;rw[this] at hm;obtain⟨t,ht,e⟩:=xw.1 hm;simp only[Prod.mk.injEq] at e;exact⟨t,ht,e.1,e.2.1,e.2.2⟩
theorem qx7 {t:jdw} (h:t∈ss):∃ s∈setD ss ds,t.i=s.i/\t.c=s.c/\t.e=s.e:=by
 have:=qik (fun i c e=>(i,c,e)) ss ds;have hm:(t.i,t.c,t.e)∈ss.map (fun s=>(s.i,s.c,s.e)):=xw.2 ⟨t,h,rfl⟩;rw[<-this] at hm;obtain⟨s,hs,e⟩:=xw.1 hm;simp only[Prod.mk.injEq] at e;exact⟨s,hs,e.1.symm,e.2.1.symm,e.2.2.symm⟩
theorem jal (ss:List jdw) (ds:List Chunk):jgp (setD ss ds)=jgp ss:=by
 funext k;have:=congrArg (fun l=>l[k]?) (qik (fun i _ _=>i) ss ds);simp only[xT] at this;unfold jgp;cases h1:(setD ss ds)[k]?<;>cases h2:ss[k]?<;>simp_all
theorem jam (ρ:Rz) (S:Nat->Nat->Prop) (ss:List jdw) (ds:List Chunk):subM ρ S (setD ss ds)=subM ρ S ss:=by
 funext a;unfold subM;refine propext ⟨fun h=>?_,fun h=>?_⟩
 ·rcases h with ⟨h,s,hs,h1⟩|⟨s,hs,h1⟩<;>obtain⟨t,ht,e1,e2,e3⟩:=qnu hs
  ·exact .inl ⟨h,t,ht,by rw[e1,e2,e3];exact h1⟩
  ·exact .inr ⟨t,ht,by rw[e1,e3];exact h1⟩
 ·rcases h with ⟨h,s,hs,h1⟩|⟨s,hs,h1⟩<;>obtain⟨t,ht,e1,e2,e3⟩:=qx7 (ds:=ds) hs
  ·exact .inl ⟨h,t,ht,by rw[<-e1,<-e2,<-e3];exact h1⟩
  ·exact .inr ⟨t,ht,by rw[<-e1,<-e3];exact h1⟩
theorem qmn:∀ {ss:List jdw} {ds:List Chunk},Apart ss->Apart (setD ss ds)
 | [],_,_=>trivial
 | s::r,[],h=>by rw[qka];exact h
 | s::r,d::ds,h=>⟨fun t ht ho=>by
   obtain⟨t',ht',e1,_,e3⟩:=qnu ht;have:=h.1 t' ht' (by rw[e3];exact ho);rw[e1] at this;exact this,qmn h.2⟩
def jiq {α:Type} (p:α->Prop):Prop:=∃ κ,p κ
theorem Bo {α:Type} {p:α->Prop} (κ:α) (h:p κ):N (jiq p):=N.mk ⟨κ,h⟩
end
theorem jdx (n:Int) (h0 : -9223372036854775808<=n) (h1:n<9223372036854775808):IntKind.i64.wrap n=n:=by rw[xN];omega
theorem jfk {p:Prop} [Decidable p] (h:b=true↔p):Value.bool b=.bool (decide p):=by
 congr 1;rw[Bool.eq_iff_iff,h,decide_eq_true_iff]
end Go.Proofs.YtfkngpmgcimdbaaGreat.Sx
