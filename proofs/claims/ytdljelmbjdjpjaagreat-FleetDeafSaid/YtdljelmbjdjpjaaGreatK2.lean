/-
  The evaluator: regions that draw their order, calls, loops, contracts with chunks.
-/
import Derived.Scope
import Derived.KernelRfl
import Derived.Test.YtdljelmbjdjpjaaGreatK1
set_option linter.unusedVariables false
set_option linter.unusedSimpArgs false
set_option maxRecDepth 100000
set_option maxHeartbeats 20000000

namespace Go.Proofs.YtdljelmbjdjpjaaGreat.Sx
open Go Go.RowKit
structure Res where
 v:Value
 ms:List (Nat×Chunk)
 rh:List Nat
def St.after (st:St) (dst:Option Tmp) (v:Value) (ms:List (Nat×Chunk)):St:=
 ⟨match dst with
  | some d=>st.t.set d (some v)
  | none=>st.t,modH st.h ms⟩
def qcc (st:St) (dst:Option Tmp) (v:Value) (ms:List (Nat×Chunk)) (K:St→Prop):Prop:=
 match st with
 | ⟨t0,h0⟩=>match dst with
  | some d=>setK t0 d v fun t=>setM h0 ms fun h=>K ⟨t,h⟩
  | none=>setM h0 ms fun h=>K ⟨t0,h⟩
theorem qc5 {st:St} {dst:Option Tmp} {v:Value} {ms:List (Nat×Chunk)} {K:St→Prop} (h:qcc st dst v ms K):K (st.after dst v ms):=by
 obtain⟨t0,h0⟩:=st
 cases dst with
 | some d=>exact qj8 (K:=fun h=>K ⟨_,h⟩) (qcz (K:=fun t=>setM h0 ms fun h=>K ⟨t,h⟩) h)
 | none=>exact qj8 (K:=fun h=>K ⟨_,h⟩) h
def qbj:Op→Nat
 | .alloc _ | .box .. | .buildSlice .. | .makeSlice .. | .makeMap .. | .range ..=>1
 | .call _=>4
 | _=>0
abbrev RunT:=Nat→St→List (List Nat×List Nat)→(St→List (List Nat×List Nat)→Prop)→Prop
def wpR1 (P:Program) (G:Tys) (ops:List Oper) (o:Oper) (ih:RunT):RunT:=fun sl st acc K=>
 match st with
 | ⟨t0,h0⟩=>match nthL h0 sl with
  | some none=>match o.guard with
   | none=>stepS P G o ⟨t0,h0⟩ sl fun v ms rh=>qcc ⟨t0,h0⟩ o.dst v ms fun st'=>litK (sl+qbj o.op) fun sl'=>ih sl' st' ((rh,ms.map (·.1))::acc) K
   | some (j,want)=>match nthL ops j with
    | some oj=>match oj.dst with
     | some d=>getK t0 d fun g=>match g with
      | .bool b=>N (Fork b
        (setK t0 d (.bool true) fun t=>match want with
         | true=>stepS P G o ⟨t,h0⟩ sl fun v ms rh=>qcc ⟨t,h0⟩ o.dst v ms fun st'=>litK (sl+qbj o.op) fun sl'=>ih sl' st' ((rh,ms.map (·.1))::acc) K
         | false=>qcc ⟨t,h0⟩ o.dst undef [] fun st'=>litK (sl+qbj o.op) fun sl'=>ih sl' st' (([],[])::acc) K)
        (setK t0 d (.bool false) fun t=>match want with
         | false=>stepS P G o ⟨t,h0⟩ sl fun v ms rh=>qcc ⟨t,h0⟩ o.dst v ms fun st'=>litK (sl+qbj o.op) fun sl'=>ih sl' st' ((rh,ms.map (·.1))::acc) K
         | true=>qcc ⟨t,h0⟩ o.dst undef [] fun st'=>litK (sl+qbj o.op) fun sl'=>ih sl' st' (([],[])::acc) K))
      | .tuple _=>qcc ⟨t0,h0⟩ o.dst undef [] fun st'=>litK (sl+qbj o.op) fun sl'=>ih sl' st' (([],[])::acc) K
      | _=>False
     | none=>False
    | none=>False
  | _=>False
noncomputable def wpR (P:Program) (G:Tys) (ops:List Oper) (os:List Oper):RunT:=
 List.rec (motive:=fun _=>RunT) (fun _ st acc K=>K st acc) (fun o _ ih=>wpR1 P G ops o ih) os
def App0N (cj:Chunk) (g m size bytes:Nat) (z:Value) (slot:Nat) (K:Value→List (Nat×Chunk)→Prop):Prop:=
 (∃ v,Reads cj g true (m*size) v∧0<m∧m≤9223372036854775807∧m*bytes≤140737488355328∧∀ cap,m≤cap→K (.slice (some ⟨slot,0,some 0⟩) m cap) [(slot,grown ⟨true,0,[]⟩ 0 m size v z cap)])∨(m=0∧K (.slice none 0 0) [])
def AppN (ci:Chunk) (k s l c:Nat) (cj:Chunk) (g m size bytes:Nat) (z:Value) (slot:Nat) (K:Value→List (Nat×Chunk)→Prop):Prop:=
 ∃ v,Reads cj g true (m*size) v∧flatB v (m*size)=true∧l*size≤ci.n∧l+m≤9223372036854775807∧(l+m)*bytes≤140737488355328∧
  (l+m≤c→∃ d,Writes ci (l*size) (m*size) v d∧K (.slice (some ⟨k,0,some s⟩) (l+m) c) [(k,d)])∧(c<l+m→∀ cap,l+m≤cap→K (.slice (some ⟨slot,0,some 0⟩) (l+m) cap) [(slot,grown ci l m size v z cap)])
def AltN (A B:Prop):Prop:=A∨B
theorem N.alt {A B:Prop} (h:A):N (AltN A B):=N.mk (.inl h)
theorem N.altP {A B:Prop} (h:B):N (AltN A B):=N.mk (.inr h)
def stepQ (P:Program) (G:Tys) (o:Oper) (st:St) (slot:Nat) (K:Value→List (Nat×Chunk)→Prop):Prop:=
 match o.op with
 | .call ⟨.builtin .append,⟨[x,y]⟩,⟨[t,t']⟩⟩=>match Nat.beq t t' with
  | true=>evalS x st fun p=>evalS y st fun q=>match q with
   | .slice (some ⟨j,g,some _⟩) m _=>lookT G t fun _ d=>match d with
    | .slice e=>lookT G e fun ei _=>match ei.zero with
     | some z=>match qam z&&flatB z ei.size&&Nat.ble 1 ei.size with
      | true=>getH st.h j fun cj=>match p with
       | .slice none 0 0=>N (App0N cj g m ei.size ei.bytes z slot K)
       | .slice (some ⟨k,0,some s⟩) l c=>getH st.h k fun ci=>N (AppN ci k s l c cj g m ei.size ei.bytes z slot K)
       | .iface _ _=>N (EffAll P o st K)
       | _=>False
      | false=>False
     | none=>False
    | _=>False
   | .slice (some ⟨_,_,none⟩) _ _=>N (EffAll P o st K)
   | .slice none _ _=>N (EffAll P o st K)
   | .iface _ _=>N (EffAll P o st K)
   | _=>False
  | false=>False
 | .call ⟨.value f,xs,_⟩=>evalS f st fun fv=>match fv with
  | .func (.func g) ⟨us⟩ ⟨cs⟩=>match us.all cap1&&cs.all cap1 with
   | true=>evalL xs.toList st fun vs=>listK (us++vs++cs) fun l=>N (CallN true P g l st.h slot fun v ms _=>K v ms)
   | false=>False
  | _=>False
 | .range _ _=>N (EffAll P o st K)
 | .next _ _=>N (EffAll P o st K)
 | .convert _ _ (.const (.string _))=>N (EffAll P o st K)
 | .buildSlice _ _ _=>N (AltN (stepS P G o st slot fun v ms _=>K v ms) (EffAll P o st K))
 | _=>stepS P G o st slot fun v ms _=>K v ms
theorem qh3 {P:Program} {o:Oper} {st:St} {f:Operand} {xs:Array Operand} {ts:Array TypeId} {g:FuncId} {us vs cs:List Value} {R K:Value→List (Nat×Chunk)→Prop} (ho:o.op=.call ⟨.value f,xs,ts⟩) (hf:EvTo f st (.func (.func g) ⟨us⟩ ⟨cs⟩)) (hu:us.all cap1=true) (hc:cs.all cap1=true)
  (hx:All2 (fun x v=>EvTo x st v) xs.toList vs) (h:CallAll P g (us++vs++cs) st.h R) (hK:∀ v ms,R v ms→K v ms):EffAll P o st K:=fun X ρ a w Rl next Q hn=>by
 obtain⟨e1,d1,d2⟩:=(hf.den Rl).caps hu hc
 have d3:=qkd Rl xs.toList vs hx (fun x hx u hu=>hu)
 have hk:=h X ρ w _ Rl.heap (qda (qda d1 d3) d2)
 have hrun:(execOp a.eval o).run P w=(callFunc g ⟨us.map (den0 ρ)++xs.toList.map a.eval++cs.map (den0 ρ)⟩).run P w:=by
  simp only[execOp,ho,resolve,e1,Deferred.ofValue,Sem.run_bind,Sem.run_pure,Result.andThen_ok,invoke]
  congr 2
  apply Array.toList_inj.1
  simp
 unfold Oper.wp
 rw[hrun]
 rcases hk with ⟨x,w',hr,v,ms,ρ',hR,ha,hh,hd⟩|⟨hr,hcl⟩
 ·rw[hr];exact hn v ms ρ' x w' (hK v ms hR) ⟨ha,hh,hd⟩
 ·rw[hr]
  refine hcl.mono fun e w' ⟨x,he,v,ms,ρ',hR,ha,hh,hd⟩=>?_
  subst he
  exact hn v ms ρ' x w' (hK v ms hR) ⟨ha,hh,hd⟩
theorem EffAll.of {P:Program} {o:Oper} {st:St} {v:Value} {ms:List (Nat×Chunk)} {rh:List Nat} {K:Value→List (Nat×Chunk)→Prop} (h:OKs P o st v ms rh) (hK:K v ms):EffAll P o st K:=fun X ρ a w R next Q hn=>
 h st (fun _ _ _ h=>h) (fun _ _=>rfl) (fun _ _=>rfl) X ρ a w R next Q fun ρ' x w' ha=>hn v ms ρ' x w' hK ha
theorem qsq {P:Program} {G:Tys} {o:Oper} {st:St} {slot:Nat} {K:Value→List (Nat×Chunk)→Prop} (hG:TysOK P G) (hs:st.h[slot]?=some none) (h:stepQ P G o st slot K):EffAll P o st K:=by
 unfold stepQ at h
 split at h
 ·rename_i x y t t' ho
  cases hb:Nat.beq t t' with
  | false=>rw[hb] at h;exact h.elim
  | true=>
   rw[hb] at h
   obtain rfl:=Nat.eq_of_beq_eq_true hb
   obtain⟨p,hp,h⟩:=qan h
   obtain⟨q,hq,h⟩:=qan h
   split at h
   ·obtain⟨i,d,h1,h2,h⟩:=qal hG h
    split at h
    ·obtain⟨ei,ed,h3,h4,h⟩:=qal hG h
     split at h
     ·rename_i z hz
      cases hc:qam z&&flatB z ei.size&&Nat.ble 1 ei.size with
      | false=>rw[hc] at h;exact h.elim
      | true=>
       rw[hc] at h
       simp only[Bool.and_eq_true,Nat.ble_eq] at hc
       obtain⟨cj,hj,h⟩:=qba h
       split at h
       ·rcases N.out h with ⟨v,hr,hm,h63,hby,hk⟩|⟨rfl,hk⟩
        ·exact qfj ho hp hq h2 h3 hz hc.1.1 hc.1.2 hc.2 hj hr hm h63 hby hs hk
        ·exact qeq ho hp hq h2 h3 hk
       ·obtain⟨ci,hi,h⟩:=qba h
        obtain⟨v,hr,hf,hln,h63,hby,ha,hk⟩:=N.out h
        exact qjn ho hp hq h2 h3 hz hc.1.1 hc.1.2 hc.2 hi hln hj hr hf h63 hby hs ha hk
       ·exact N.out h
       ·exact h.elim
     ·exact h.elim
    ·exact h.elim
   ·exact N.out h
   ·exact N.out h
   ·exact N.out h
   ·exact h.elim
 ·rename_i f xs ts ho
  obtain⟨v,hv,h⟩:=qan h
  split at h
  ·rename_i g us cs
   cases hb:us.all cap1&&cs.all cap1 with
   | true=>
    rw[hb] at h
    simp only[Bool.and_eq_true] at hb
    obtain⟨vs,hx,h⟩:=qc8 h
    have h:=qdb (K:=fun l=>N (CallN true P g l st.h slot fun v ms _=>K v ms)) h
    rcases h.out with ⟨u,ms,rh,h1,h⟩|⟨_,R,h1,h⟩
    ·exact EffAll.of (qsf ho hv hb.1 hb.2 hx h1) h
    ·exact qh3 ho hv hb.1 hb.2 hx h1 h
   | false=>rw[hb] at h;exact h.elim
  ·exact h.elim
 ·exact N.out h
 ·exact N.out h
 ·exact N.out h
 ·rcases N.out h with h|h
  ·obtain⟨v,ms,rh,hok,hk⟩:=qfx hG hs h
   exact EffAll.of hok hk
  ·exact h
 ·obtain⟨v,ms,rh,hok,hk⟩:=qfx hG hs h
  exact EffAll.of hok hk
abbrev RunQ:=Nat→St→(St→Prop)→Prop
def wpQ1 (P:Program) (G:Tys) (ops:List Oper) (o:Oper) (ih:RunQ):RunQ:=fun sl st K=>
 match st with
 | ⟨t0,h0⟩=>match nthL h0 sl with
  | some none=>match o.guard with
   | none=>stepQ P G o ⟨t0,h0⟩ sl fun v ms=>qcc ⟨t0,h0⟩ o.dst v ms fun st'=>litK (sl+qbj o.op) fun sl'=>ih sl' st' K
   | some (j,want)=>match nthL ops j with
    | some oj=>match oj.dst with
     | some d=>getK t0 d fun g=>match g with
      | .bool b=>N (Fork b
        (setK t0 d (.bool true) fun t=>match want with
         | true=>stepQ P G o ⟨t,h0⟩ sl fun v ms=>qcc ⟨t,h0⟩ o.dst v ms fun st'=>litK (sl+qbj o.op) fun sl'=>ih sl' st' K
         | false=>qcc ⟨t,h0⟩ o.dst undef [] fun st'=>litK (sl+qbj o.op) fun sl'=>ih sl' st' K)
        (setK t0 d (.bool false) fun t=>match want with
         | false=>stepQ P G o ⟨t,h0⟩ sl fun v ms=>qcc ⟨t,h0⟩ o.dst v ms fun st'=>litK (sl+qbj o.op) fun sl'=>ih sl' st' K
         | true=>qcc ⟨t,h0⟩ o.dst undef [] fun st'=>litK (sl+qbj o.op) fun sl'=>ih sl' st' K))
      | .tuple _=>qcc ⟨t0,h0⟩ o.dst undef [] fun st'=>litK (sl+qbj o.op) fun sl'=>ih sl' st' K
      | _=>False
     | none=>False
    | none=>False
  | _=>False
noncomputable def wpQ (P:Program) (G:Tys) (ops:List Oper) (os:List Oper):RunQ:=
 List.rec (motive:=fun _=>RunQ) (fun _ st K=>K st) (fun o _ ih=>wpQ1 P G ops o ih) os
def OpRes (P:Program) (ops:List Oper) (o:Oper) (st:St) (r:Res):Prop:=
 match o.guard with
 | none=>OKs P o st r.v r.ms r.rh
 | some (j,want)=>∃ oj d g,ops[j]?=some oj∧oj.dst=some d∧st.t[d]?=some (some g)∧((∃ b,g=.bool b∧(b=want→OKs P o st r.v r.ms r.rh)∧(b≠want→r=⟨undef,[],[]⟩))∨((∃ us,g=.tuple us)∧r=⟨undef,[],[]⟩))
def Trace (P:Program) (ops:List Oper):List Oper→St→List Res→St→Prop
 | [],st,rs,st'=>rs=[]∧st'=st
 | o::os,st,rs,st'=>∃ r rs',rs=r::rs'∧OpRes P ops o st r∧Trace P ops os (st.after o.dst r.v r.ms) rs' st'
def feet (rs:List Res):List (List Nat×List Nat):=rs.map fun r=>(r.rh,r.ms.map (·.1))
theorem qe3 {l:List (Option Value)} {d:Nat} {v:Value} (h:l[d]?=some (some v)):l.set d (some v)=l:=by
 apply List.ext_getElem?
 intro i
 by_cases e:d=i
 ·subst e;rw[List.getElem?_set_self (List.getElem?_eq_some_iff.1 h).1,h]
 ·rw[List.getElem?_set_ne e]
theorem qkf {P:Program} {G:Tys} {ops:List Oper} (hG:TysOK P G) {K:St→List (List Nat×List Nat)→Prop}:∀ {os:List Oper} {sl:Nat} {st:St} {acc:List (List Nat×List Nat)},wpR P G ops os sl st acc K→
  ∃ rs st',Trace P ops os st rs st'∧K st' ((feet rs).reverse++acc)
 | [],sl,st,acc,h=>⟨[],st,⟨rfl,rfl⟩,h⟩
 | o::os,sl,⟨t0,h0⟩,acc,h=>by
  have h:wpR1 P G ops o (wpR P G ops os) sl ⟨t0,h0⟩ acc K:=h
  unfold wpR1 at h
  simp only at h
  rw[qbb] at h
  split at h
  ·rename_i hs
   have run:∀ {st0:St},st0=⟨t0,h0⟩→(stepS P G o st0 sl fun v ms rh=>qcc st0 o.dst v ms fun st'=>litK (sl+qbj o.op) fun sl'=>wpR P G ops os sl' st' ((rh,ms.map (·.1))::acc) K)→
     ∃ r rs st',OKs P o ⟨t0,h0⟩ r.v r.ms r.rh∧Trace P ops os (St.after ⟨t0,h0⟩ o.dst r.v r.ms) rs st'∧K st' ((feet (r::rs)).reverse++acc):=fun {st0} e h1=>by
    subst e
    obtain⟨v,ms,rh,hok,h2⟩:=qfx hG hs h1
    obtain⟨rs,st',ht,hk⟩:=qkf hG (qbl (K:=fun sl'=>wpR P G ops os sl' _ _ K) (qc5 h2))
    exact⟨⟨v,ms,rh⟩,rs,st',hok,ht,by simpa[feet] using hk⟩
   have skip:∀ {st0:St},st0=⟨t0,h0⟩→(qcc st0 o.dst undef [] fun st'=>litK (sl+qbj o.op) fun sl'=>wpR P G ops os sl' st' (([],[])::acc) K)→
     ∃ rs st',Trace P ops os (St.after ⟨t0,h0⟩ o.dst undef []) rs st'∧K st' ((feet (⟨undef,[],[]⟩::rs)).reverse++acc):=fun {st0} e h1=>by
    subst e
    obtain⟨rs,st',ht,hk⟩:=qkf hG (qbl (K:=fun sl'=>wpR P G ops os sl' _ _ K) (qc5 h1))
    exact⟨rs,st',ht,by simpa[feet] using hk⟩
   split at h
   ·rename_i hg
    obtain⟨r,rs,st',hok,ht,hk⟩:=run rfl h
    exact⟨r::rs,st',⟨r,rs,rfl,by unfold OpRes;rw[hg];exact hok,ht⟩,hk⟩
   ·rename_i j want hg
    rw[qbb] at h
    split at h
    ·rename_i oj hj
     split at h
     ·rename_i d hd
      obtain⟨g,hgv,h⟩:=qcy h
      split at h
      ·rename_i b
       have h:=h.out
       cases b with
       | true=>
        have h:=qcz (K:=fun t=>_) (h.1 rfl)
        rw[qe3 hgv] at h
        cases want with
        | true=>
         obtain⟨r,rs,st',hok,ht,hk⟩:=run rfl h
         exact⟨r::rs,st',⟨r,rs,rfl,by unfold OpRes;rw[hg];exact⟨oj,d,_,hj,hd,hgv,.inl ⟨true,rfl,fun _=>hok,fun e=>absurd rfl e⟩⟩,ht⟩,hk⟩
        | false=>
         obtain⟨rs,st',ht,hk⟩:=skip rfl h
         exact⟨_::rs,st',⟨⟨undef,[],[]⟩,rs,rfl,by unfold OpRes;rw[hg];exact⟨oj,d,_,hj,hd,hgv,.inl ⟨true,rfl,fun e=>absurd e (by simp),fun _=>rfl⟩⟩,ht⟩,hk⟩
       | false=>
        have h:=qcz (K:=fun t=>_) (h.2 rfl)
        rw[qe3 hgv] at h
        cases want with
        | false=>
         obtain⟨r,rs,st',hok,ht,hk⟩:=run rfl h
         exact⟨r::rs,st',⟨r,rs,rfl,by unfold OpRes;rw[hg];exact⟨oj,d,_,hj,hd,hgv,.inl ⟨false,rfl,fun _=>hok,fun e=>absurd rfl e⟩⟩,ht⟩,hk⟩
        | true=>
         obtain⟨rs,st',ht,hk⟩:=skip rfl h
         exact⟨_::rs,st',⟨⟨undef,[],[]⟩,rs,rfl,by unfold OpRes;rw[hg];exact⟨oj,d,_,hj,hd,hgv,.inl ⟨false,rfl,fun e=>absurd e (by simp),fun _=>rfl⟩⟩,ht⟩,hk⟩
      ·obtain⟨rs,st',ht,hk⟩:=skip rfl h
       exact⟨_::rs,st',⟨⟨undef,[],[]⟩,rs,rfl,by unfold OpRes;rw[hg];exact⟨oj,d,_,hj,hd,hgv,.inr ⟨⟨_,rfl⟩,rfl⟩⟩,ht⟩,hk⟩
      ·exact h.elim
     ·exact h.elim
    ·exact h.elim
  ·exact h.elim
theorem qd5 {X:Ctx} {ρ ρ':Nat→Nat×Nat} {st:St} {a:Act} {w w':World} {dst:Option Tmp} {v x:Value} {ms:List (Nat×Chunk)} (R:Rel X ρ st a w) (h:After X ρ st v ms ρ' x w'):Rel X ρ' (st.after dst v ms) (a.put dst x) w':=by
 obtain⟨ha,hh,hd⟩:=h
 have more:∀ (i:Nat) (u:Value),st.t[i]?=some (some u)→∃ y,a.tmps[i]?=some y∧Den (Fil (modH st.h ms)) ρ' u y:=fun i u hi=>by
  obtain⟨y,hy,hyd⟩:=R.slot i u hi
  exact⟨y,hy,hyd.more ha (fun _ hF=>hF.mod)⟩
 cases dst with
 | none=>exact⟨R.defers,R.size,more,hh⟩
 | some d=>
  refine⟨R.defers,by simp[Act.put,St.after,R.size],fun i u hi=>?_,hh⟩
  simp only[St.after,List.getElem?_set] at hi
  simp only[Act.put,Array.getElem?_setIfInBounds]
  by_cases e:d=i
  ·subst e
   rw[if_pos rfl] at hi
   by_cases hl:d<st.t.length
   ·rw[if_pos hl] at hi
    simp only[Option.some.injEq] at hi
    subst hi
    exact⟨x,by rw[if_pos rfl,if_pos (by rw[R.size];exact hl)],hd⟩
   ·rw[if_neg hl] at hi;cases hi
  ·rw[if_neg e] at hi
   obtain⟨y,hy,hyd⟩:=more i u hi
   exact⟨y,by rw[if_neg e];exact hy,hyd⟩
theorem OKs.here {P:Program} {o:Oper} {st:St} {v:Value} {ms:List (Nat×Chunk)} {rh:List Nat} (h:OKs P o st v ms rh):EffOK P o st v ms:=h st (fun _ _ _ h=>h) (fun _ _=>rfl) (fun _ _=>rfl)
theorem qz0 {P:Program} {ops:Array Oper} {Q:Exit→Act→World→Prop} {k:Nat} {o:Oper} {st:St} {r:Res} {X:Ctx} {ρ:Nat→Nat×Nat} {a:Act} {w:World} {next:Act→World→Prop} (hk:ops[k]?=some o) (h:OpRes P ops.toList o st r) (R:Rel X ρ st a w)
  (hn:∀ ρ' a' w',Rel X ρ' (st.after o.dst r.v r.ms) a' w'→next a' w'):wpOp P ops Q k next a w:=by
 have go:OKs P o st r.v r.ms r.rh→o.wp P a w next Q:=fun hok=>hok.here X ρ a w R next Q fun ρ' x w' ha=>hn ρ' _ w' (qd5 R ha)
 have undef_den:∀ F ρ,Den F ρ undef undef:=fun F ρ r _=>by simp[undef,den]
 unfold wpOp
 rw[hk]
 simp only
 unfold OpRes at h
 cases hg:o.guard with
 | none=>
  rw[hg] at h
  have hw:Region.wanted o (yielded ops a.tmps)=true:=by simp[Region.wanted,hg]
  rw[if_pos hw]
  exact .inl (go h)
 | some jw=>
  obtain⟨j,want⟩:=jw
  rw[hg] at h
  obtain⟨oj,d,g,hj,hd,hb,h12⟩:=h
  obtain⟨y,hy,hyd⟩:=R.slot d _ hb
  have hj':ops[j]?=some oj:=by simpa using hj
  have skip:¬ Region.wanted o (yielded ops a.tmps)=true→r=⟨undef,[],[]⟩→(if Region.wanted o (yielded ops a.tmps)=true then o.wp P a w next Q∨(o.asks P a w∧LetsOut Q) else next (a.put o.dst undef) w):=fun hw hr=>by
   rw[if_neg hw]
   rw[hr] at hn
   exact hn ρ _ w (qd5 R ⟨AgreeOn.refl _ _,R.heap,undef_den _ _⟩)
  rcases h12 with ⟨b,rfl,h1,h2⟩|⟨⟨us,rfl⟩,hr⟩
  ·have hyb:y=.bool b:=hyd.self.symm
   have hyl:yielded ops a.tmps j=some b:=by simp[yielded,hj',hd,hy,hyb]
   by_cases e:b=want
   ·have hw:Region.wanted o (yielded ops a.tmps)=true:=by simp[Region.wanted,hg,hyl,e]
    rw[if_pos hw]
    exact .inl (go (h1 e))
   ·exact skip (by simp[Region.wanted,hg,hyl,e]) (h2 e)
  ·have hyb:y=.tuple (us.map (den2 ρ)):=hyd.self.symm
   have hyl:yielded ops a.tmps j=none:=by simp[yielded,hj',hd,hy,hyb]
   exact skip (by simp[Region.wanted,hg,hyl]) hr
theorem qsr {P:Program} {G:Tys} {ops:Array Oper} {Q:Exit→Act→World→Prop} {X:Ctx} (hG:TysOK P G) {K:St→Prop} (hq:∀ s ρ a w,K s→Rel X ρ s a w→Q .normal a w):∀ (os:List Oper) (sl k:Nat) (st:St),wpQ P G ops.toList os sl st K→(∀ i,i<os.length→ops[k+i]?=os[i]?)→
  ∀ ρ a w,Rel X ρ st a w→wpOps P ops Q (List.range' k os.length) a w
 | [],sl,k,st,h,_,ρ,a,w,R=>hq st ρ a w h R
 | o::os,sl,k,⟨t0,h0⟩,h,hi,ρ,a,w,R=>by
  have h:wpQ1 P G ops.toList o (wpQ P G ops.toList os) sl ⟨t0,h0⟩ K:=h
  rw[List.length_cons,List.range'_succ,wpOps_cons]
  have hk:ops[k]?=some o:=by simpa using hi 0 (by simp)
  have rest:∀ (st':St),(litK (sl+qbj o.op) fun sl'=>wpQ P G ops.toList os sl' st' K)→∀ ρ a w,Rel X ρ st' a w→wpOps P ops Q (List.range' (k+1) os.length) a w:=fun st' h' ρ a w R'=>by
   refine qsr hG hq os _ (k+1) st' (qbl (K:=fun sl'=>wpQ P G ops.toList os sl' st' K) h') (fun i hil=>?_) ρ a w R'
   have:=hi (i+1) (by simpa using hil)
   rw[show k+1+i=k+(i+1) from by omega,this]
   simp
  unfold wpQ1 at h
  simp only at h
  rw[qbb] at h
  split at h
  ·rename_i hs
   have go:(stepQ P G o ⟨t0,h0⟩ sl fun v ms=>qcc ⟨t0,h0⟩ o.dst v ms fun st'=>litK (sl+qbj o.op) fun sl'=>wpQ P G ops.toList os sl' st' K)→Region.wanted o (yielded ops a.tmps)=true→
     wpOp P ops Q k (fun a w=>wpOps P ops Q (List.range' (k+1) os.length) a w) a w:=fun h1 hw=>by
    unfold wpOp
    rw[hk]
    simp only
    rw[if_pos hw]
    refine .inl (qsq hG hs h1 X ρ a w R _ Q fun v ms ρ' x w' hk' ha=>?_)
    exact rest _ (qc5 hk') ρ' _ w' (qd5 R ha)
   have undef_den:∀ F ρ,Den F ρ undef undef:=fun F ρ r _=>by simp[undef,den]
   have skip:(qcc ⟨t0,h0⟩ o.dst undef [] fun st'=>litK (sl+qbj o.op) fun sl'=>wpQ P G ops.toList os sl' st' K)→¬ Region.wanted o (yielded ops a.tmps)=true→
     wpOp P ops Q k (fun a w=>wpOps P ops Q (List.range' (k+1) os.length) a w) a w:=fun h1 hw=>by
    unfold wpOp
    rw[hk]
    simp only
    rw[if_neg hw]
    exact rest _ (qc5 h1) ρ _ w (qd5 R ⟨AgreeOn.refl _ _,R.heap,undef_den _ _⟩)
   split at h
   ·rename_i hg
    exact go h (by simp[Region.wanted,hg])
   ·rename_i j want hg
    rw[qbb] at h
    split at h
    ·rename_i oj hj
     split at h
     ·rename_i d hd
      obtain⟨g,hgv,h⟩:=qcy h
      obtain⟨y,hy,hyd⟩:=R.slot d _ hgv
      have hj':ops[j]?=some oj:=by simpa using hj
      split at h
      ·rename_i b
       have hyb:y=.bool b:=hyd.self.symm
       have hyl:yielded ops a.tmps j=some b:=by simp[yielded,hj',hd,hy,hyb]
       have h:=h.out
       cases b with
       | true=>
        have h:=qcz (K:=fun t=>_) (h.1 rfl)
        rw[qe3 hgv] at h
        cases want with
        | true=>exact go h (by simp[Region.wanted,hg,hyl])
        | false=>exact skip h (by simp[Region.wanted,hg,hyl])
       | false=>
        have h:=qcz (K:=fun t=>_) (h.2 rfl)
        rw[qe3 hgv] at h
        cases want with
        | false=>exact go h (by simp[Region.wanted,hg,hyl])
        | true=>exact skip h (by simp[Region.wanted,hg,hyl])
      ·rename_i us
       have hyb:y=.tuple (us.map (den2 ρ)):=hyd.self.symm
       have hyl:yielded ops a.tmps j=none:=by simp[yielded,hj',hd,hy,hyb]
       exact skip h (by simp[Region.wanted,hg,hyl])
      ·exact h.elim
     ·exact h.elim
    ·exact h.elim
  ·exact h.elim
structure Eff where
 dst:Option Tmp
 v:Value
 ms:List (Nat×Chunk)
def cur (D:Nat→Bool):Nat→List Eff→St→St
 | _,[],st=>st
 | k,e::es,st=>cur D (k+1) es (match D k with
  | true=>st.after e.dst e.v e.ms
  | false=>st)
def effs:List Oper→List Res→List Eff
 | o::os,r::rs=>⟨o.dst,r.v,r.ms⟩::effs os rs
 | _,_=>[]
structure Part {α:Type} (f:St→α) (W:Eff→Prop):Prop where
 keep:∀ (st:St) (e:Eff),¬ W e→f (st.after e.dst e.v e.ms)=f st
 same:∀ (st st':St) (e:Eff),f st=f st'→f (st.after e.dst e.v e.ms)=f (st'.after e.dst e.v e.ms)
theorem qfy (i:Nat):Part (fun st:St=>st.t[i]?) (fun e=>e.dst=some i):=by
 refine⟨fun st e h=>?_,fun st st' e h=>?_⟩
 ·obtain⟨d,v,ms⟩:=e
  cases d with
  | none=>rfl
  | some d=>
   have:d≠i:=fun e=>h (by rw[e])
   show(st.t.set d (some v))[i]?=_
   rw[List.getElem?_set_ne this]
 ·obtain⟨d,v,ms⟩:=e
  cases d with
  | none=>exact h
  | some d=>
   show(st.t.set d (some v))[i]?=(st'.t.set d (some v))[i]?
   have h:st.t[i]?=st'.t[i]?:=h
   by_cases e:d=i
   ·subst e
    rw[List.getElem?_set,List.getElem?_set,if_pos rfl,if_pos rfl]
    by_cases hl:d<st.t.length
    ·have:d<st'.t.length:=by
      rw[List.getElem?_eq_getElem hl] at h
      exact(List.getElem?_eq_some_iff.1 h.symm).1
     rw[if_pos hl,if_pos this]
    ·have:¬ d<st'.t.length:=fun hl'=>by
      rw[List.getElem?_eq_getElem hl'] at h
      exact hl (List.getElem?_eq_some_iff.1 h).1
     rw[if_neg hl,if_neg this]
   ·rw[List.getElem?_set_ne e,List.getElem?_set_ne e,h]
theorem qbv {i:Nat}:∀ {ms:List (Nat×Chunk)} {h:Hp},i∉ms.map (·.1)→(modH h ms)[i]?=h[i]?
 | [],_,_=>rfl
 | (j,c)::ms,h,hn=>by
  simp only[List.map_cons,List.mem_cons,not_or] at hn
  simp only[modH]
  rw[qbv hn.2,List.getElem?_set_ne (fun e=>hn.1 e.symm)]
theorem qfz {i:Nat}:∀ {ms:List (Nat×Chunk)} {h h':Hp},h[i]?=h'[i]?→(modH h ms)[i]?=(modH h' ms)[i]?
 | [],_,_,e=>e
 | (j,c)::ms,h,h',e=>by
  simp only[modH]
  refine qfz ?_
  by_cases ej:j=i
  ·subst ej
   rw[List.getElem?_set,List.getElem?_set,if_pos rfl,if_pos rfl]
   by_cases hl:j<h.length
   ·have:j<h'.length:=by
     rw[List.getElem?_eq_getElem hl] at e
     exact(List.getElem?_eq_some_iff.1 e.symm).1
    rw[if_pos hl,if_pos this]
   ·have:¬ j<h'.length:=fun hl'=>by
     rw[List.getElem?_eq_getElem hl'] at e
     exact hl (List.getElem?_eq_some_iff.1 e).1
    rw[if_neg hl,if_neg this]
  ·rw[List.getElem?_set_ne ej,List.getElem?_set_ne ej,e]
theorem qfk (i:Nat):Part (fun st:St=>st.h[i]?) (fun e=>i∈e.ms.map (·.1)):=
 ⟨fun st e h=>qbv h,fun st st' e h=>qfz h⟩
theorem qbm {α:Type} {f:St→α} {W:Eff→Prop} (hp:Part f W) {D D':Nat→Bool}:∀ (es:List Eff) (k:Nat) (st st':St),(∀ i e,es[i]?=some e→W e→D (k+i)=D' (k+i))→f st=f st'→f (cur D k es st)=f (cur D' k es st')
 | [],_,_,_,_,h=>h
 | e::es,k,st,st',hd,h=>by
  simp only[cur]
  refine qbm hp es (k+1) _ _ (fun i e' he hw=>?_) ?_
  ·have:=hd (i+1) e' (by simpa using he) hw
   rwa[show k+(i+1)=k+1+i from by omega] at this
  ·by_cases hw:W e
   ·have h0:=hd 0 e rfl hw
    rw[Nat.add_zero] at h0
    rw[h0]
    cases D' k with
    | true=>exact hp.same _ _ e h
    | false=>exact h
   ·have h1:∀ b:Bool,∀ s:St,f (match b with|true=>s.after e.dst e.v e.ms|false=>s)=f s:=fun b s=>by
     cases b with
     | true=>exact hp.keep _ e hw
     | false=>rfl
    rw[h1,h1,h]
theorem qdn {D:Nat→Bool}:∀ (es:List Eff) (k:Nat) (st:St),(∀ i,i<es.length→D (k+i)=false)→cur D k es st=st
 | [],_,_,_=>rfl
 | e::es,k,st,h=>by
  simp only[cur]
  have:=h 0 (by simp)
  rw[Nat.add_zero] at this
  rw[this]
  exact qdn es (k+1) st fun i hi=>by
   have:=h (i+1) (by simpa using hi)
   rwa[show k+(i+1)=k+1+i from by omega] at this
theorem qh4 {α:Type} {f:St→α} {W:Eff→Prop} (hp:Part f W) {D:Nat→Bool} {k0:Nat} {e0:Eff}:∀ (es:List Eff) (k:Nat) (st:St),k≤k0→es[k0-k]?=some e0→D k0=false→(W e0→∀ i e,es[i]?=some e→k0<k+i→W e→D (k+i)=false)→
  f (cur (fun j=>decide (j=k0)||D j) k es st)=f ((cur D k es st).after e0.dst e0.v e0.ms)
 | [],k,st,hk,he,hd,hw=>by simp at he
 | e::es,k,st,hk,he,hd,hw=>by
  simp only[cur]
  by_cases hkk:k=k0
  ·subst hkk
   rw[Nat.sub_self] at he
   simp only[List.getElem?_cons_zero,Option.some.injEq] at he
   subst he
   simp only[decide_true,Bool.true_or,hd]
   have h1:f (cur (fun j=>decide (j=k)||D j) (k+1) es (st.after e.dst e.v e.ms))=f (cur D (k+1) es (st.after e.dst e.v e.ms)):=
    qbm hp es (k+1) _ _ (fun i e' he' hw'=>by
     have:decide (k+1+i=k)=false:=by simp;omega
     simp only[this,Bool.false_or]) rfl
   rw[h1]
   by_cases hwe:W e
   ·have hno:∀ i e',es[i]?=some e'→W e'→D (k+1+i)=false:=fun i e' he' hw'=>by
     have:=hw hwe (i+1) e' (by simpa using he') (by omega) hw'
     rwa[show k+(i+1)=k+1+i from by omega] at this
    have h2:f (cur D (k+1) es (st.after e.dst e.v e.ms))=f (st.after e.dst e.v e.ms):=
     (qbm hp (D':=fun _=>false) es (k+1) _ _ (fun i e' he' hw'=>hno i e' he' hw') rfl).trans (by rw[qdn es (k+1) _ (fun _ _=>rfl)])
    have h3:f (cur D (k+1) es st)=f st:=
     (qbm hp (D':=fun _=>false) es (k+1) _ _ (fun i e' he' hw'=>hno i e' he' hw') rfl).trans (by rw[qdn es (k+1) _ (fun _ _=>rfl)])
    rw[h2]
    exact hp.same _ _ e h3.symm
   ·rw[hp.keep _ e hwe]
    exact qbm hp es (k+1) _ _ (fun _ _ _ _=>rfl) (hp.keep _ e hwe)
  ·have:decide (k=k0)=false:=by simpa using hkk
   simp only[this,Bool.false_or]
   exact qh4 hp es (k+1) _ (by omega) (by
    rw[show k0-k=(k0-(k+1))+1 from by omega] at he
    simpa using he) hd (fun hwe i e' he' hlt hw'=>by
     have:=hw hwe (i+1) e' (by simpa using he') (by omega) hw'
     rwa[show k+(i+1)=k+1+i from by omega] at this)
theorem St.ext' {a b:St} (h1:∀ i:Nat,a.t[i]?=b.t[i]?) (h2:∀ i:Nat,a.h[i]?=b.h[i]?):a=b:=by
 obtain⟨t,h⟩:=a
 obtain⟨t',h'⟩:=b
 have e1:t=t':=List.ext_getElem? h1
 have e2:h=h':=List.ext_getElem? h2
 rw[e1,e2]
theorem ql4 {P:Program} {ops:List Oper}:∀ {os:List Oper} {st st':St} {rs:List Res},Trace P ops os st rs st'→rs.length=os.length
 | [],_,_,_,h=>by rw[h.1];rfl
 | o::os,_,_,_,h=>by obtain⟨r,rs',rfl,_,h⟩:=h;simp[ql4 h]
theorem qkg:∀ {os:List Oper} {rs:List Res} {k:Nat} {o:Oper} {r:Res},os[k]?=some o→rs[k]?=some r→(effs os rs)[k]?=some ⟨o.dst,r.v,r.ms⟩
 | o'::os,r'::rs,0,o,r,h1,h2=>by simp at h1 h2;subst h1 h2;rfl
 | o'::os,r'::rs,k+1,o,r,h1,h2=>by simpa[effs] using qkg (os:=os) (rs:=rs) (k:=k) (by simpa using h1) (by simpa using h2)
 | [],_,_,_,_,h1,_=>by simp at h1
 | _::_,[],_,_,_,_,h2=>by simp at h2
theorem qo8:∀ {os:List Oper} {rs:List Res},rs.length=os.length→(effs os rs).length=os.length
 | [],[],_=>rfl
 | o::os,r::rs,h=>by simp[effs,qo8 (os:=os) (rs:=rs) (by simpa using h)]
 | [],_::_,h=>by simp at h
 | _::_,[],h=>by simp at h
theorem qo9 {P:Program} {ops:List Oper}:∀ {os:List Oper} {st st':St} {rs:List Res} {k0:Nat},Trace P ops os st rs st'→∀ k o,os[k]?=some o→∃ r,rs[k]?=some r∧OpRes P ops o (cur (fun j=>decide (j<k0+k)) k0 (effs os rs) st) r
 | [],_,_,_,_,_,k,o,h=>by simp at h
 | o'::os,st,st',rs,k0,h,k,o,ho=>by
  obtain⟨r,rs',rfl,h1,h2⟩:=h
  cases k with
  | zero=>
   simp only[List.getElem?_cons_zero,Option.some.injEq] at ho
   subst ho
   refine⟨r,rfl,?_⟩
   rw[qdn _ k0 st (fun i _=>by simp)]
   exact h1
  | succ k=>
   obtain⟨r',hr,hres⟩:=qo9 (k0:=k0+1) h2 k o (by simpa using ho)
   refine⟨r',by simpa using hr,?_⟩
   have e:decide (k0<k0+(k+1))=true:=by simp
   simp only[effs,cur,e]
   rw[show k0+(k+1)=k0+1+k from by omega]
   exact hres
theorem ql5 {P:Program} {ops:List Oper}:∀ {os:List Oper} {st st':St} {rs:List Res} {k0:Nat},Trace P ops os st rs st'→cur (fun _=>true) k0 (effs os rs) st=st'
 | [],_,_,_,_,h=>by obtain⟨rfl,rfl⟩:=h;rfl
 | o'::os,st,st',rs,k0,h=>by
  obtain⟨r,rs',rfl,h1,h2⟩:=h
  simp only[effs,cur]
  exact ql5 h2
def ql6 (x:Operand):List Nat:=
 match x with
 | .tmp t=>[t]
 | _=>[]
def qdo (ops:List Oper) (o:Oper):List Nat:=
 o.op.operands.toList.flatMap ql6++(match o.guard with
  | some (j,_)=>match nthL ops j with
   | some oj=>oj.dst.toList
   | none=>[]
  | none=>[])
def disj (a b:List Nat):Bool:=a.all fun x=>b.all fun y=>!(Nat.beq x y)
structure Foot where
 rt:List Nat
 wt:List Nat
 rh:List Nat
 wh:List Nat
 m:Nat
def indep (f g:Foot):Bool:=disj f.wt g.rt&&disj f.wt g.wt&&disj g.wt f.rt&&disj f.wh g.rh&&disj f.wh g.wh&&disj g.wh f.rh
def qfl (o:Oper) (acc:List Nat):Nat:=o.after.toList.foldl (fun s e=>match Region.binds .any e with
 | true=>s ||| 2^e.on ||| (match nthL acc e.on with
  | some m=>m
  | none=>0)
 | false=>s) 0
def ql7 (ops:List Oper) (o:Oper) (f:List Nat×List Nat) (acc:List Nat):Foot:=⟨qdo ops o,o.dst.toList,f.1,f.2,qfl o acc⟩
def chkGo (ops:List Oper):List Oper→List (List Nat×List Nat)→Nat→List Nat→List (Nat×Foot)→Bool
 | o::os,f::fs,j,acc,prev=>
  let g:=ql7 ops o f acc
  prev.all (fun p=>Nat.testBit g.m p.1||indep p.2 g)&&chkGo ops os fs (j+1) (acc++[g.m]) (prev++[(j,g)])
 | [],[],_,_,_=>true
 | _,_,_,_,_=>false
def ql8 (ops:List Oper) (fs:List (List Nat×List Nat)):Bool:=chkGo ops ops fs 0 [] []
def masks:List Oper→List Nat→List Nat
 | [],acc=>acc
 | o::os,acc=>masks os (acc++[qfl o acc])
theorem qcr:∀ (os:List Oper) (acc:List Nat) (i:Nat),i<acc.length→(masks os acc)[i]?=acc[i]?
 | [],_,_,_=>rfl
 | o::os,acc,i,h=>by rw[masks,qcr os _ i (by simp;omega),List.getElem?_append_left h]
theorem qkh {ops:List Oper}:∀ {os:List Oper} {fs:List (List Nat×List Nat)} {j:Nat} {acc:List Nat} {prev:List (Nat×Foot)},chkGo ops os fs j acc prev=true→acc.length=j→
  ∀ k o f,os[k]?=some o→fs[k]?=some f→∃ m,(masks os acc)[j+k]?=some m∧m=qfl o ((masks os acc).take (j+k))∧
   (∀ p∈prev,Nat.testBit m p.1=true∨indep p.2 ⟨qdo ops o,o.dst.toList,f.1,f.2,m⟩=true)∧
   ∀ i o' f',i<k→os[i]?=some o'→fs[i]?=some f'→∃ m',Nat.testBit m (j+i)=true∨indep ⟨qdo ops o',o'.dst.toList,f'.1,f'.2,m'⟩ ⟨qdo ops o,o.dst.toList,f.1,f.2,m⟩=true
 | [],fs,j,acc,prev,h,hl,k,o,f,ho,hf=>by simp at ho
 | o0::os,[],j,acc,prev,h,hl,k,o,f,ho,hf=>by simp at hf
 | o0::os,f0::fs,j,acc,prev,h,hl,k,o,f,ho,hf=>by
  simp only[chkGo,Bool.and_eq_true] at h
  obtain⟨h1,h2⟩:=h
  have hm0:(masks (o0::os) acc)[j]?=some (qfl o0 acc):=by
   rw[masks,qcr os _ j (by simp;omega),List.getElem?_append_right (by omega),hl,Nat.sub_self]
   rfl
  have htake:(masks (o0::os) acc).take j=acc:=by
   apply List.ext_getElem?
   intro i
   rw[List.getElem?_take]
   by_cases hi:i<j
   ·rw[if_pos hi,masks,qcr os _ i (by simp;omega),List.getElem?_append_left (by omega)]
   ·rw[if_neg hi,List.getElem?_eq_none (by omega)]
  cases k with
  | zero=>
   simp only[List.getElem?_cons_zero,Option.some.injEq] at ho hf
   subst ho hf
   refine⟨qfl o0 acc,by simpa using hm0,by rw[Nat.add_zero,htake],fun p hp=>?_,fun i _ _ hi=>absurd hi (by omega)⟩
   have:=List.all_eq_true.1 h1 p hp
   simpa[ql7] using this
  | succ k=>
   obtain⟨m,g1,g2,g3,g4⟩:=qkh h2 (by simp[hl]) k o f (by simpa using ho) (by simpa using hf)
   have e:j+1+k=j+(k+1):=by omega
   have em:masks os (acc++[(ql7 ops o0 f0 acc).m])=masks (o0::os) acc:=rfl
   rw[em,e] at g1 g2
   refine⟨m,g1,g2,fun p hp=>g3 p (by simp[hp]),fun i o' f' hi ho' hf'=>?_⟩
   cases i with
   | zero=>
    simp only[List.getElem?_cons_zero,Option.some.injEq] at ho' hf'
    subst ho' hf'
    have:=g3 (j,ql7 ops o0 f0 acc) (by simp)
    exact⟨qfl o0 acc,by simpa[ql7] using this⟩
   | succ i=>
    obtain⟨m',h'⟩:=g4 i o' f' (by omega) (by simpa using ho') (by simpa using hf')
    rw[show j+1+i=j+(i+1) from by omega] at h'
    exact⟨m',h'⟩
theorem ql9 (acc:List Nat) (i:Nat):∀ (es:List Edge) (s:Nat),(es.foldl (fun s e=>match Region.binds .any e with
  | true=>s ||| 2^e.on ||| (match nthL acc e.on with
   | some m=>m
   | none=>0)
  | false=>s) s).testBit i=true→s.testBit i=true∨∃ e∈es,Region.binds .any e=true∧(e.on=i∨∃ m,acc[e.on]?=some m∧m.testBit i=true)
 | [],s,h=>.inl h
 | e::es,s,h=>by
  rw[List.foldl_cons] at h
  rcases ql9 acc i es _ h with h|⟨e',he,hb,h⟩
  ·cases hb:Region.binds .any e with
   | false=>rw[hb] at h;exact .inl h
   | true=>
    rw[hb] at h
    simp only[Nat.testBit_or,Bool.or_eq_true] at h
    rcases h with (h|h)|h
    ·exact .inl h
    ·refine .inr ⟨e,by simp,hb,.inl ?_⟩
     rw[Nat.testBit_two_pow] at h
     simpa using h
    ·refine .inr ⟨e,by simp,hb,.inr ?_⟩
     rw[qbb] at h
     cases hm:acc[e.on]? with
     | none=>rw[hm] at h;simp at h
     | some m=>rw[hm] at h;exact⟨m,rfl,h⟩
  ·exact .inr ⟨e',by simp[he],hb,h⟩
theorem qpa {o:Oper} {acc:List Nat} {i:Nat} (h:(qfl o acc).testBit i=true):∃ e∈o.after.toList,Region.binds .any e=true∧(e.on=i∨∃ m,acc[e.on]?=some m∧m.testBit i=true):=by
 rcases ql9 acc i o.after.toList 0 h with h|h
 ·simp at h
 ·exact h
theorem qbh {a b:List Nat} (h:disj a b=true) {x:Nat} (ha:x∈a):x∉b:=fun hb=>by
 have:=List.all_eq_true.1 (List.all_eq_true.1 h x ha) x hb
 simp at this
theorem qpb {x:Operand} {st st₂:St} {u:Value} (h:∀ t∈ql6 x,st₂.t[t]?=st.t[t]?) (hx:EvTo x st u):EvTo x st₂ u:=by
 cases x with
 | tmp t=>exact(h t (by simp[ql6])).trans hx
 | _=>exact hx
theorem OKs.move {P:Program} {o:Oper} {st st₂:St} {v:Value} {ms:List (Nat×Chunk)} {rh:List Nat} (h:OKs P o st v ms rh) (ht:∀ x∈o.op.operands.toList,∀ t∈ql6 x,st₂.t[t]?=st.t[t]?) (hr:∀ i∈rh,st₂.h[i]?=st.h[i]?) (hm:∀ i∈ms.map (·.1),st₂.h[i]?=st.h[i]?):OKs P o st₂ v ms rh:=
 fun st₃ h1 h2 h3=>h st₃ (fun x hx u hu=>h1 x hx u (qpb (ht x hx) hu)) (fun i hi=>(h2 i hi).trans (hr i hi)) (fun m hm'=>(h3 m hm').trans (hm m.1 (List.mem_map.2 ⟨m,hm',rfl⟩)))
theorem OpRes.move {P:Program} {ops:List Oper} {o:Oper} {st st₂:St} {r:Res} (h:OpRes P ops o st r) (ht:∀ t∈qdo ops o,st₂.t[t]?=st.t[t]?) (hr:∀ i∈r.rh,st₂.h[i]?=st.h[i]?) (hm:∀ i∈r.ms.map (·.1),st₂.h[i]?=st.h[i]?):OpRes P ops o st₂ r:=by
 have hops:∀ x∈o.op.operands.toList,∀ t∈ql6 x,st₂.t[t]?=st.t[t]?:=fun x hx t htx=>ht t (by
  unfold qdo
  exact List.mem_append_left _ (List.mem_flatMap.2 ⟨x,hx,htx⟩))
 unfold OpRes at *
 cases hg:o.guard with
 | none=>rw[hg] at h;exact h.move hops hr hm
 | some jw=>
  obtain⟨j,want⟩:=jw
  rw[hg] at h
  obtain⟨oj,d,g,hj,hd,hb,h12⟩:=h
  refine⟨oj,d,g,hj,hd,?_,h12.imp (fun⟨b,e,h1,h2⟩=>⟨b,e,fun e=>(h1 e).move hops hr hm,h2⟩) id⟩
  rw[ht d ?_,hb]
  unfold qdo
  apply List.mem_append_right
  rw[hg]
  simp only
  rw[qbb,hj]
  simp[hd]
def qb0:List Oper→Nat→Bool
 | [],_=>true
 | o::os,j=>o.after.toList.all (fun e=>!(Region.binds .any e)||Nat.ble (e.on+1) j)&&qb0 os (j+1)
theorem qer:∀ {os:List Oper} {j:Nat},qb0 os j=true→∀ k o,os[k]?=some o→∀ e∈o.after.toList,Region.binds .any e=true→e.on<j+k
 | [],_,_,k,o,h,_,_,_=>by simp at h
 | o'::os,j,h,k,o,ho,e,he,hb=>by
  simp only[qb0,Bool.and_eq_true] at h
  cases k with
  | zero=>
   simp only[List.getElem?_cons_zero,Option.some.injEq] at ho
   subst ho
   have:=List.all_eq_true.1 h.1 e he
   rw[hb] at this
   have:=Nat.le_of_ble_eq_true (by simpa using this)
   omega
  | succ k=>
   have:=qer h.2 k o (by simpa using ho) e he hb
   omega
section
variable {P:Program} {ops:Array Oper} {Q:Exit→Act→World→Prop} {X:Ctx} {st st':St} {rs:List Res}
theorem qh5 {D:Nat→Bool} (hcl:∀ (j:Nat) (o:Oper),ops.toList[j]?=some o→D j=true→∀ e∈o.after.toList,Region.binds .any e=true→D e.on=true) (fs:List (List Nat×List Nat)) (hlen:fs.length=ops.toList.length) (hc:ql8 ops.toList fs=true) (he:qb0 ops.toList 0=true) :
  ∀ (j:Nat) (o:Oper) (m i:Nat),ops.toList[j]?=some o→(masks ops.toList [])[j]?=some m→m.testBit i=true→(∀ e∈o.after.toList,Region.binds .any e=true→D e.on=true)→D i=true:=by
 intro j
 induction j using Nat.strongRecOn with
 | _ j ih=>
  intro o m i ho hm hb hedges
  have hjl:j<fs.length:=by rw[hlen];exact(List.getElem?_eq_some_iff.1 ho).1
  obtain⟨m',g1,g2,_,_⟩:=qkh hc rfl j o fs[j] ho (List.getElem?_eq_getElem hjl)
  rw[Nat.zero_add] at g1 g2
  rw[hm] at g1
  simp only[Option.some.injEq] at g1
  subst g1
  rw[g2] at hb
  obtain⟨e,hee,hbe,h⟩:=qpa hb
  have hD:=hedges e hee hbe
  rcases h with h|⟨m2,hm2,hb2⟩
  ·rwa[←h]
  ·have hlt:=qer he j o ho e hee hbe
   rw[Nat.zero_add] at hlt
   rw[List.getElem?_take,if_pos hlt] at hm2
   have hol:e.on<ops.toList.length:=Nat.lt_trans hlt (List.getElem?_eq_some_iff.1 ho).1
   exact ih e.on hlt ops.toList[e.on] m2 i (List.getElem?_eq_getElem hol) hm2 hb2 (hcl e.on _ (List.getElem?_eq_getElem hol) hD)
theorem q1b (ht:Trace P ops.toList ops.toList st rs st') (hc:ql8 ops.toList (feet rs)=true) (he:qb0 ops.toList 0=true) (hq:∀ ρ a w,Rel X ρ st' a w→Q .normal a w) :
  ∀ (fuel:Nat) (S:List Nat) (listed:Array Bool),S.length=fuel→S.Nodup→listed.size=ops.size→(∀ i,i<ops.size→(listed.getD i false=true↔i∉S))→(∀ i∈S,i<ops.size)→
   (∀ (j:Nat) (o:Oper),ops.toList[j]?=some o→listed.getD j false=true→∀ e∈o.after.toList,Region.binds .any e=true→listed.getD e.on false=true)→
   ∀ ρ a w,Rel X ρ (cur (fun j=>listed.getD j false) 0 (effs ops.toList rs) st) a w→wpAny P .any ops Q fuel listed a w:=by
 have hlen:=ql4 ht
 have hfl:(feet rs).length=ops.toList.length:=by simp[feet,hlen]
 have hel:=qo8 hlen
 have fin:∀ (listed:Array Bool),(∀ i,i<ops.size→listed.getD i false=true)→∀ ρ a w,Rel X ρ (cur (fun j=>listed.getD j false) 0 (effs ops.toList rs) st) a w→Q .normal a w:=by
  intro listed hall ρ a w R
  refine hq ρ a w ?_
  have hD:∀ {α:Type} {f:St→α} {W:Eff→Prop},Part f W→f (cur (fun j=>listed.getD j false) 0 (effs ops.toList rs) st)=f st':=fun hp=>by
   rw[qbm hp (D':=fun _=>true) (effs ops.toList rs) 0 st st (fun i e hi _=>by
    rw[Nat.zero_add]
    exact hall i (by have:=(List.getElem?_eq_some_iff.1 hi).1;rw[hel] at this;simpa using this)) rfl,ql5 ht]
  rw[←St.ext' (fun i=>hD (qfy i)) (fun i=>hD (qfk i))]
  exact R
 have noready:∀ (listed:Array Bool),listed.size=ops.size→Region.ready .any ops listed=[]→∀ i,i<ops.size→listed.getD i false=true:=by
  intro listed hsz hr i
  induction i using Nat.strongRecOn with
  | _ i ih=>
   intro hi
   cases hl:listed.getD i false with
   | true=>rfl
   | false=>
    exfalso
    have hi':i<ops.toList.length:=by simpa using hi
    have hmem:i∈Region.ready .any ops listed:=mem_ready.2 ⟨by
     have hil:i<listed.size:=by omega
     simp[Array.getD_eq_getD_getElem?,Array.getElem?_eq_getElem hil] at hl ⊢
     exact hl,ops[i],Array.getElem?_eq_getElem hi,fun e hee hb=>by
      have hlt:=qer he i ops[i] (by simp[hi]) e (by simpa using hee) hb
      exact ih e.on (by omega) (by omega)⟩
    rw[hr] at hmem
    cases hmem
 intro fuel
 induction fuel with
 | zero=>
  intro S listed hS hnd hsz hdS hlt hcl ρ a w R
  have hS0:S=[]:=List.length_eq_zero_iff.1 hS
  subst hS0
  have hall:∀ i,i<ops.size→listed.getD i false=true:=fun i hi=>(hdS i hi).2 (by simp)
  refine⟨?_,fin listed hall ρ a w R⟩
  apply List.eq_nil_iff_forall_not_mem.2
  intro j hj
  obtain⟨h0,o,ho,_⟩:=mem_ready.1 hj
  have hjl:j<ops.size:=(Array.getElem?_eq_some_iff.1 ho).1
  have:=hall j hjl
  have hjs:j<listed.size:=by omega
  simp[Array.getD_eq_getD_getElem?,Array.getElem?_eq_getElem hjs] at h0 this
  rw[h0] at this;cases this
 | succ fuel ih=>
  intro S listed hS hnd hsz hdS hlt hcl ρ a w R
  refine⟨fun hr=>fin listed (noready listed hsz hr) ρ a w R,fun i hi=>?_⟩
  obtain⟨h0,o,ho,hready⟩:=mem_ready.1 hi
  have hil:i<ops.size:=(Array.getElem?_eq_some_iff.1 ho).1
  have his:i<listed.size:=by omega
  have hol:ops.toList[i]?=some o:=by simpa using ho
  have hDi:listed.getD i false=false:=by
   simp[Array.getD_eq_getD_getElem?,Array.getElem?_eq_getElem his] at h0 ⊢
   exact h0
  have hiS:i∈S:=by
   rcases Classical.em (i∈S) with h|h
   ·exact h
   ·have:=(hdS i hil).2 h;rw[hDi] at this;cases this
  obtain⟨r,hr,hres⟩:=qo9 (k0:=0) ht i o hol
  rw[Nat.zero_add] at hres
  have hei:=qkg hol hr
  have hfi:(feet rs)[i]?=some (r.rh,r.ms.map (·.1)):=by simp[feet,hr]
  obtain⟨m,g1,g2,_,g4⟩:=qkh hc rfl i o _ hol hfi
  rw[Nat.zero_add] at g1 g2
  have hmi:∀ q,m.testBit q=true→listed.getD q false=true:=fun q hq'=>
   qh5 (D:=fun j=>listed.getD j false) hcl (feet rs) hfl hc he i o m q hol g1 hq' (fun e hee hb=>hready e (by simpa using hee) hb)
  have indepW:∀ (j:Nat) (e:Eff),(effs ops.toList rs)[j]?=some e→(listed.getD j false=true↔¬ j<i)→j≠i→
    ∃ oj rj,ops.toList[j]?=some oj∧rs[j]?=some rj∧e=⟨oj.dst,rj.v,rj.ms⟩∧
     (∀ d,oj.dst=some d→d∉qdo ops.toList o∧o.dst≠some d)∧(∀ q,q∈rj.ms.map (·.1)→q∉r.rh∧q∉r.ms.map (·.1)):=by
   intro j e hje hD hne
   have hjl:j<ops.toList.length:=by have:=(List.getElem?_eq_some_iff.1 hje).1;rwa[hel] at this
   have hjr:j<rs.length:=by omega
   obtain⟨oj,hoj⟩:∃ oj,ops.toList[j]?=some oj:=⟨_,List.getElem?_eq_getElem hjl⟩
   obtain⟨rj,hrj⟩:∃ rj,rs[j]?=some rj:=⟨_,List.getElem?_eq_getElem hjr⟩
   have hee:=qkg hoj hrj
   rw[hje] at hee
   simp only[Option.some.injEq] at hee
   refine⟨_,_,hoj,hrj,hee,?_⟩
   have hfj:(feet rs)[j]?=some (rj.rh,rj.ms.map (·.1)):=by simp[feet,hrj]
   rcases Nat.lt_or_ge j i with hji|hji
   ·-- ahead in the text and not yet done: no edge binds
    have hDj:listed.getD j false=false:=by
     cases h:listed.getD j false with
     | false=>rfl
     | true=>exact absurd hji (hD.1 h)
    obtain⟨m',h⟩:=g4 j _ _ hji hoj hfj
    rw[Nat.zero_add] at h
    rcases h with h|h
    ·have:=hmi j h;rw[hDj] at this;cases this
    ·simp only[indep,Bool.and_eq_true] at h
     obtain⟨⟨⟨⟨⟨h1,h2⟩,h3⟩,h4⟩,h5⟩,h6⟩:=h
     refine⟨fun d hd=>⟨qbh h1 (by simp[hd]),fun e=>?_⟩,fun q hq=>⟨qbh h4 hq,qbh h5 hq⟩⟩
     exact qbh h2 (x:=d) (by simp[hd]) (by simp[e])
   ·have hDj:listed.getD j false=true:=hD.2 (by omega)
    obtain⟨mj,k1,k2,_,k4⟩:=qkh hc rfl j _ _ hoj hfj
    rw[Nat.zero_add] at k1 k2
    obtain⟨m',h⟩:=k4 i o _ (by omega) hol hfi
    rw[Nat.zero_add] at h
    rcases h with h|h
    ·have:=qh5 (D:=fun j=>listed.getD j false) hcl (feet rs) hfl hc he j _ mj i hoj k1 h (fun e hee hb=>hcl j _ hoj hDj e hee hb)
     rw[hDi] at this;cases this
    ·simp only[indep,Bool.and_eq_true] at h
     obtain⟨⟨⟨⟨⟨h1,h2⟩,h3⟩,h4⟩,h5⟩,h6⟩:=h
     refine⟨fun d hd=>⟨qbh h3 (by simp[hd]),fun e=>?_⟩,fun q hq=>⟨qbh h6 hq,fun hq2=>qbh h5 hq2 hq⟩⟩
     exact qbh h2 (x:=d) (by simp[e]) (by simp[hd])
  have agree:∀ {α:Type} {f:St→α} {W:Eff→Prop},Part f W→(∀ (j:Nat) (e:Eff),(effs ops.toList rs)[j]?=some e→(listed.getD j false=true↔¬ j<i)→j≠i→¬ W e)→(¬ (listed.getD i false=true↔¬ i<i))→
    f (cur (fun j=>listed.getD j false) 0 (effs ops.toList rs) st)=f (cur (fun j=>decide (j<i)) 0 (effs ops.toList rs) st):=fun hp hw _=>by
   refine qbm hp _ 0 st st (fun j e hje hwe=>?_) rfl
   rw[Nat.zero_add]
   by_cases hji:j=i
   ·subst hji;simpa using hDi
   ·by_cases hD:(listed.getD j false=true↔¬ j<i)
    ·exact absurd hwe (hw j e hje hD hji)
    ·cases h:listed.getD j false with
     | true=>
      have:j<i:=by
       rcases Nat.lt_or_ge j i with h'|h'
       ·exact h'
       ·exact absurd ⟨fun _=>by omega,fun _=>h⟩ hD
      simp[this]
     | false=>
      have:¬ j<i:=fun h'=>hD ⟨fun e=>(by rw[h] at e;cases e),fun e=>absurd h' e⟩
      simp[this]
  have hii:¬ (listed.getD i false=true↔¬ i<i):=fun h=>by
   have:=h.2 (by omega);rw[hDi] at this;cases this
  have hres':OpRes P ops.toList o (cur (fun j=>listed.getD j false) 0 (effs ops.toList rs) st) r:=by
   refine hres.move (fun t htr=>?_) (fun q hq'=>?_) (fun q hq'=>?_)
   ·exact agree (qfy t) (fun j e hje hD hne hwe=>by
     obtain⟨oj,rj,_,_,rfl,h1,_⟩:=indepW j e hje hD hne
     exact(h1 t hwe).1 htr) hii
   ·exact agree (qfk q) (fun j e hje hD hne hwe=>by
     obtain⟨oj,rj,_,_,rfl,_,h2⟩:=indepW j e hje hD hne
     exact(h2 q hwe).1 hq') hii
   ·exact agree (qfk q) (fun j e hje hD hne hwe=>by
     obtain⟨oj,rj,_,_,rfl,_,h2⟩:=indepW j e hje hD hne
     exact(h2 q hwe).2 hq') hii
  refine qz0 ho hres' R fun ρ' a' w' R'=>?_
  have hget:∀ j,(listed.setIfInBounds i true).getD j false=(decide (j=i)||listed.getD j false):=fun j=>by
   by_cases hji:j=i
   ·subst hji;simp[Array.getD_eq_getD_getElem?,Array.getElem?_setIfInBounds,his]
   ·rw[getD_set_ne false (fun e=>hji e.symm)];simp[hji]
  have hcur:cur (fun j=>(listed.setIfInBounds i true).getD j false) 0 (effs ops.toList rs) st=(cur (fun j=>listed.getD j false) 0 (effs ops.toList rs) st).after o.dst r.v r.ms:=by
   have hfun:(fun j=>(listed.setIfInBounds i true).getD j false)=(fun j=>decide (j=i)||listed.getD j false):=funext hget
   rw[hfun]
   have later:∀ (j:Nat) (e:Eff),(effs ops.toList rs)[j]?=some e→i<0+j→listed.getD (0+j) false=true→(∀ d,e.dst=some d→o.dst≠some d)∧∀ q,q∈e.ms.map (·.1)→q∉r.ms.map (·.1):=fun j e hje hlt' hD=>by
    rw[Nat.zero_add] at hlt' hD
    obtain⟨oj,rj,_,_,rfl,h1,h2⟩:=indepW j e hje ⟨fun _=>by omega,fun _=>hD⟩ (by omega)
    exact⟨fun d hd=>(h1 d hd).2,fun q hq'=>(h2 q hq').2⟩
   refine St.ext' (fun q=>?_) (fun q=>?_)
   ·refine qh4 (qfy q) (e0:=⟨o.dst,r.v,r.ms⟩) (effs ops.toList rs) 0 st (by omega) hei hDi (fun hw j e hje hlt' hwe=>?_)
    cases h:listed.getD (0+j) false with
    | false=>rfl
    | true=>exact absurd hw ((later j e hje hlt' h).1 q hwe)
   ·refine qh4 (qfk q) (e0:=⟨o.dst,r.v,r.ms⟩) (effs ops.toList rs) 0 st (by omega) hei hDi (fun hw j e hje hlt' hwe=>?_)
    cases h:listed.getD (0+j) false with
    | false=>rfl
    | true=>exact absurd hw ((later j e hje hlt' h).2 q hwe)
  refine ih (S.erase i) (listed.setIfInBounds i true) ?_ (hnd.erase i) (by simp[hsz]) (fun j hj=>?_) (fun j hj=>hlt j (List.mem_of_mem_erase hj)) (fun j oj hoj hDj e hee hb=>?_) ρ' a' w' (by rw[hcur];exact R')
  ·rw[List.length_erase_of_mem hiS,hS];rfl
  ·rw[hget,hnd.mem_erase_iff]
   simp only[Bool.or_eq_true,decide_eq_true_eq,hdS j hj]
   constructor
   ·rintro(h|h) ⟨h1,h2⟩
    ·exact h1 h
    ·exact h h2
   ·intro h
    rcases Classical.em (j=i) with e|e
    ·exact .inl e
    ·exact .inr fun h2=>h ⟨e,h2⟩
  ·rw[hget] at hDj ⊢
   simp only[Bool.or_eq_true,decide_eq_true_eq] at hDj ⊢
   rcases hDj with rfl|hDj
   ·rw[hol] at hoj
    simp only[Option.some.injEq] at hoj
    subst hoj
    exact .inr (hready e (by simpa using hee) hb)
   ·exact .inr (hcl j oj hoj hDj e hee hb)
theorem qss (ht:Trace P ops.toList ops.toList st rs st') (hc:ql8 ops.toList (feet rs)=true) (he:qb0 ops.toList 0=true) (hq:∀ ρ a w,Rel X ρ st' a w→Q .normal a w) {ρ:Nat→Nat×Nat} {a:Act} {w:World} (R:Rel X ρ st a w) :
  wpAny P .any ops Q ops.size (Array.replicate ops.size false) a w:=by
 have h0:∀ j,(Array.replicate ops.size false).getD j false=false:=fun j=>by
  simp only[Array.getD_eq_getD_getElem?,Array.getElem?_replicate]
  split<;>rfl
 refine q1b ht hc he hq ops.size (List.range ops.size) _ (by simp) List.nodup_range (by simp) (fun i hi=>?_) (fun i hi=>by simpa using hi) (fun j o _ h=>by rw[h0] at h;cases h) ρ a w ?_
 ·rw[h0];simp[hi]
 ·rw[qdn _ 0 st (fun i _=>h0 _)]
  exact R
end
structure Stp where
 i:Nat
 o:Oper
 r:Res
 f:List Nat×List Nat
 mu:Bool
def effsS (S:List Stp):List Eff:=S.map fun s=>⟨s.o.dst,s.r.v,s.r.ms⟩
theorem qst {S:List Stp} {k:Nat} {s:Stp} (h:S[k]?=some s):(effsS S)[k]?=some ⟨s.o.dst,s.r.v,s.r.ms⟩:=by simp[effsS,h]
theorem qdc {S:List Stp} {k:Nat} {e:Eff} (h:(effsS S)[k]?=some e):∃ s,S[k]?=some s∧e=⟨s.o.dst,s.r.v,s.r.ms⟩:=by
 simp only[effsS,List.getElem?_map] at h
 cases hs:S[k]? with
 | none=>rw[hs] at h;cases h
 | some s=>rw[hs] at h;exact⟨s,rfl,by simpa using h.symm⟩
def StpOK (P:Program) (ops:List Oper) (st:St) (s:Stp):Prop:=(s.mu=false→OpRes P ops s.o st s.r)∧(∀ q∈s.r.rh,q∈s.f.1)∧∀ q∈s.r.ms.map (·.1),q∈s.f.2
def GoodS (P:Program) (ops:List Oper):List Stp→St→St→Prop
 | [],st,st'=>st'=st
 | s::S,st,st'=>StpOK P ops st s∧GoodS P ops S (st.after s.o.dst s.r.v s.r.ms) st'
theorem qki {P:Program} {ops:List Oper}:∀ {S:List Stp} {st st':St} {k0:Nat},GoodS P ops S st st'→∀ k s,S[k]?=some s→StpOK P ops (cur (fun j=>decide (j<k0+k)) k0 (effsS S) st) s
 | [],_,_,_,_,k,s,h=>by simp at h
 | s'::S,st,st',k0,h,k,s,hs=>by
  obtain⟨h1,h2⟩:=h
  cases k with
  | zero=>
   simp only[List.getElem?_cons_zero,Option.some.injEq] at hs
   subst hs
   rw[qdn _ k0 st (fun i _=>by simp)]
   exact h1
  | succ k=>
   have:=qki (k0:=k0+1) h2 k s (by simpa using hs)
   have e:decide (k0<k0+(k+1))=true:=by simp
   simp only[effsS,List.map_cons,cur,e]
   rw[show k0+(k+1)=k0+1+k from by omega]
   exact this
theorem qkj {P:Program} {ops:List Oper}:∀ {S:List Stp} {st st':St} {k0:Nat},GoodS P ops S st st'→cur (fun _=>true) k0 (effsS S) st=st'
 | [],_,_,_,h=>by cases h;rfl
 | s::S,st,st',k0,h=>by
  simp only[effsS,List.map_cons,cur]
  exact qkj h.2
theorem qpc {P:Program} {ops:List Oper}:∀ {S T:List Stp} {st m st':St},GoodS P ops S st m→GoodS P ops T m st'→GoodS P ops (S++T) st st'
 | [],_,_,_,_,h,k=>by cases h;exact k
 | s::S,_,_,_,_,h,k=>⟨h.1,qpc h.2 k⟩
theorem qsu {D:Nat→Bool}:∀ (es es':List Eff) (k:Nat) (st:St),cur D k (es++es') st=cur D (k+es.length) es' (cur D k es st)
 | [],_,_,_=>rfl
 | e::es,es',k,st=>by
  simp only[List.cons_append,cur,List.length_cons]
  rw[qsu es es' (k+1),show k+1+es.length=k+(es.length+1) from by omega]
theorem qma:∀ (os:List Oper) (acc:List Nat) (k:Nat) (o:Oper),os[k]?=some o→(masks os acc)[acc.length+k]?=some (qfl o ((masks os acc).take (acc.length+k)))
 | [],_,k,o,h=>by simp at h
 | o0::os,acc,k,o,h=>by
  cases k with
  | zero=>
   simp only[List.getElem?_cons_zero,Option.some.injEq] at h
   subst h
   have htake:(masks (o0::os) acc).take (acc.length+0)=acc:=by
    apply List.ext_getElem?
    intro i
    rw[List.getElem?_take]
    by_cases hi:i<acc.length+0
    ·rw[if_pos hi,masks,qcr os _ i (by simp;omega),List.getElem?_append_left (by omega)]
    ·rw[if_neg hi,List.getElem?_eq_none (by omega)]
   rw[htake,masks,qcr os _ _ (by simp),List.getElem?_append_right (by omega)]
   simp
  | succ k=>
   have:=qma os (acc++[qfl o0 acc]) k o (by simpa using h)
   simp only[List.length_append,List.length_singleton] at this
   rw[show acc.length+(k+1)=acc.length+1+k from by omega]
   exact this
def mkAt (ops:List Oper) (i:Nat):Nat:=match nthL (masks ops []) i with
 | some m=>m
 | none=>0
theorem q1c {ops:List Oper} {i:Nat} {o:Oper} (h:ops[i]?=some o):mkAt ops i=qfl o ((masks ops []).take i):=by
 have:=qma ops [] i o h
 simp only[List.length_nil,Nat.zero_add] at this
 unfold mkAt
 rw[qbb,this]
theorem qes {ops:List Oper} {D:Nat→Bool} (he:qb0 ops 0=true) (hcl:∀ (j:Nat) (o:Oper),ops[j]?=some o→D j=true→∀ e∈o.after.toList,Region.binds .any e=true→D e.on=true) :
  ∀ (j:Nat) (o:Oper) (i:Nat),ops[j]?=some o→(mkAt ops j).testBit i=true→(∀ e∈o.after.toList,Region.binds .any e=true→D e.on=true)→D i=true:=by
 intro j
 induction j using Nat.strongRecOn with
 | _ j ih=>
  intro o i ho hb hedges
  rw[q1c ho] at hb
  obtain⟨e,hee,hbe,h⟩:=qpa hb
  have hD:=hedges e hee hbe
  rcases h with h|⟨m2,hm2,hb2⟩
  ·rwa[←h]
  ·have hlt:=qer he j o ho e hee hbe
   rw[Nat.zero_add] at hlt
   rw[List.getElem?_take,if_pos hlt] at hm2
   have hol:e.on<ops.length:=Nat.lt_trans hlt (List.getElem?_eq_some_iff.1 ho).1
   refine ih e.on hlt ops[e.on] i (List.getElem?_eq_getElem hol) ?_ (hcl e.on _ (List.getElem?_eq_getElem hol) hD)
   unfold mkAt
   rw[qbb,hm2]
   exact hb2
def footS (ops:List Oper) (s:Stp):Foot:=⟨qdo ops s.o,s.o.dst.toList,s.f.1,s.f.2,0⟩
def qsv (ops:List Oper) (a b:Stp):Prop:=(mkAt ops b.i).testBit a.i=true∨indep (footS ops a) (footS ops b)=true
def Pairs (ops:List Oper) (S:List Stp):Prop:=∀ (k l:Nat) (a b:Stp),k<l→S[k]?=some a→S[l]?=some b→qsv ops a b
def qnp (P:Program) (o:Oper) (st:St) (hs:List Nat) (F:Value→List (Nat×Chunk)→Prop):Prop:=
 ∀ st₂:St,(∀ x∈o.op.operands.toList,∀ u,EvTo x st u→EvTo x st₂ u)→(∀ i∈hs,st₂.h[i]?=st.h[i]?)→EffAll P o st₂ F
structure Own (ops:List Oper) (S:List Stp):Prop where
 at_:∀ (k:Nat) (s:Stp),S[k]?=some s→ops[s.i]?=some s.o
 inj:∀ (k l:Nat) (a b:Stp),S[k]?=some a→S[l]?=some b→a.i=b.i→k=l
def qpd (ops:List Oper) (o:Oper) (s:St):Prop:=match o.guard with
 | none=>True
 | some (j,want)=>∃ (oj:Oper) (d:Nat),ops[j]?=some oj∧oj.dst=some d∧s.t[d]?=some (some (.bool want))
def PlanP (P:Program) (ops:List Oper) (Kend:St→Prop):List (Nat×List Nat)→List Stp→St→Prop
 | [],S,s=>Own ops S∧Pairs ops S∧(∀ i,i<ops.length→∃ (k:Nat) (t:Stp),S[k]?=some t∧t.i=i)∧Kend s
 | (m,seg)::rest,S,s=>∃ (om:Oper) (hs:List Nat),ops[m]?=some om∧qpd ops om s∧(∀ t:Stp,t.i=m→t.o=om→t.f=(hs,hs)→Own ops (S++[t])∧Pairs ops (S++[t]))∧
   (∀ i,i<ops.length→(∃ (k:Nat) (t:Stp),S[k]?=some t∧t.i=i)∨i=m∨(mkAt ops i).testBit m=true)∧
   qnp P om s hs (fun v ms=>(∀ q∈ms.map (·.1),q∈hs)∧∃ (S2:List Stp) (s2:St),(∀ t∈S2,t.mu=false)∧GoodS P ops S2 (s.after om.dst v ms) s2∧PlanP P ops Kend rest (S++⟨m,om,⟨v,ms,hs⟩,(hs,hs),true⟩::S2) s2)
def DL (listed:Array Bool) (S:List Stp) (k:Nat):Bool:=match S[k]? with
 | some s=>listed.getD s.i false
 | none=>false
theorem qel {listed:Array Bool} {S:List Stp} {k:Nat} {s:Stp} (h:S[k]?=some s):DL listed S k=listed.getD s.i false:=by unfold DL;rw[h]
section
variable {P:Program} {ops:Array Oper} {Q:Exit→Act→World→Prop} {X:Ctx} {st:St}
theorem qf0 {S:List Stp} {listed:Array Bool} {n:Nat} {α:Type} {f:St→α} {W:Eff→Prop} (hp:Part f W)
  (hw:∀ (j:Nat) (a:Stp),S[j]?=some a→(j<n→listed.getD a.i false=false→¬ W ⟨a.o.dst,a.r.v,a.r.ms⟩)∧(n≤j→listed.getD a.i false=true→¬ W ⟨a.o.dst,a.r.v,a.r.ms⟩)) :
  f (cur (DL listed S) 0 (effsS S) st)=f (cur (fun j=>decide (j<n)) 0 (effsS S) st):=by
 refine qbm hp _ 0 st st (fun j e hje hwe=>?_) rfl
 rw[Nat.zero_add]
 obtain⟨a,ha,rfl⟩:=qdc hje
 rw[qel ha]
 obtain⟨w1,w2⟩:=hw j a ha
 rcases Nat.lt_or_ge j n with h|h
 ·cases e:listed.getD a.i false with
  | true=>simp[h]
  | false=>exact absurd hwe (w1 h e)
 ·cases e:listed.getD a.i false with
  | true=>exact absurd hwe (w2 h e)
  | false=>simp;omega
theorem qdd {ops:List Oper} {a b:Stp} (h:indep (footS ops a) (footS ops b)=true) :
  (∀ t∈qdo ops b.o,¬ a.o.dst=some t)∧(∀ t,a.o.dst=some t→¬ b.o.dst=some t)∧(∀ t∈qdo ops a.o,¬ b.o.dst=some t)∧(∀ q∈a.f.2,q∉b.f.1∧q∉b.f.2)∧∀ q∈b.f.2,q∉a.f.1:=by
 simp only[indep,Bool.and_eq_true] at h
 obtain⟨⟨⟨⟨⟨h1,h2⟩,h3⟩,h4⟩,h5⟩,h6⟩:=h
 refine⟨fun t ht e=>qbh h1 (x:=t) (by simp[footS,e]) ht,fun t e e2=>qbh h2 (x:=t) (by simp[footS,e]) (by simp[footS,e2]),fun t ht e=>qbh h3 (x:=t) (by simp[footS,e]) ht,fun q hq=>⟨qbh h4 hq,qbh h5 hq⟩,fun q hq=>qbh h6 hq⟩
theorem qwy (he:qb0 ops.toList 0=true) {S:List Stp} {s':St} (ho:Own ops.toList S) (hp:Pairs ops.toList S) (hg:GoodS P ops.toList S st s') {listed:Array Bool} (hsz:listed.size=ops.size)
  (hcl:∀ (j:Nat) (o:Oper),ops.toList[j]?=some o→listed.getD j false=true→∀ e∈o.after.toList,Region.binds .any e=true→listed.getD e.on false=true)
  {k:Nat} {b:Stp} (hk:S[k]?=some b) (hmu:b.mu=false) (hD:listed.getD b.i false=false) (hready:∀ e∈b.o.after.toList,Region.binds .any e=true→listed.getD e.on false=true)
  {ρ:Nat→Nat×Nat} {a:Act} {w:World} (R:Rel X ρ (cur (DL listed S) 0 (effsS S) st) a w) {next:Act→World→Prop}
  (hn:∀ ρ' a' w',Rel X ρ' (cur (DL (listed.setIfInBounds b.i true) S) 0 (effsS S) st) a' w'→next a' w'):wpOp P ops Q b.i next a w:=by
 have hbo:=ho.at_ k b hk
 have mb:∀ q,(mkAt ops.toList b.i).testBit q=true→listed.getD q false=true:=fun q hq=>qes (D:=fun j=>listed.getD j false) he hcl b.i b.o q hbo hq hready
 have ahead:∀ (j:Nat) (c:Stp),S[j]?=some c→j<k→listed.getD c.i false=false→indep (footS ops.toList c) (footS ops.toList b)=true:=fun j c hc hj hl=>by
  rcases hp j k c b hj hc hk with h|h
  ·rw[mb _ h] at hl;cases hl
  ·exact h
 have behind:∀ (j:Nat) (c:Stp),S[j]?=some c→k≤j→listed.getD c.i false=true→indep (footS ops.toList b) (footS ops.toList c)=true:=fun j c hc hj hl=>by
  have hne:k≠j:=fun e=>by subst e;rw[hk] at hc;cases hc;rw[hD] at hl;cases hl
  rcases hp k j b c (by omega) hk hc with h|h
  ·have:=qes (D:=fun j=>listed.getD j false) he hcl c.i c.o b.i (ho.at_ j c hc) h (fun e hee hbe=>hcl c.i c.o (ho.at_ j c hc) hl e hee hbe)
   rw[this] at hD;cases hD
  ·exact h
 have gb:=qki (k0:=0) hg k b hk
 rw[Nat.zero_add] at gb
 have gf:∀ (j:Nat) (c:Stp),S[j]?=some c→∀ q∈c.r.ms.map (·.1),q∈c.f.2:=fun j c hc=>(qki (k0:=0) hg j c hc).2.2
 have hres:OpRes P ops.toList b.o (cur (DL listed S) 0 (effsS S) st) b.r:=by
  refine(gb.1 hmu).move (fun t ht=>?_) (fun q hq=>?_) (fun q hq=>?_)
  ·exact qf0 (qfy t) fun j c hc=>⟨fun hj hl hw=>(qdd (ahead j c hc hj hl)).1 t ht hw,fun hj hl hw=>(qdd (behind j c hc hj hl)).2.2.1 t ht hw⟩
  ·exact qf0 (qfk q) fun j c hc=>⟨fun hj hl hw=>((qdd (ahead j c hc hj hl)).2.2.2.1 q (gf j c hc q hw)).1 (gb.2.1 q hq),fun hj hl hw=>(qdd (behind j c hc hj hl)).2.2.2.2 q (gf j c hc q hw) (gb.2.1 q hq)⟩
  ·exact qf0 (qfk q) fun j c hc=>⟨fun hj hl hw=>((qdd (ahead j c hc hj hl)).2.2.2.1 q (gf j c hc q hw)).2 (gb.2.2 q hq),fun hj hl hw=>((qdd (behind j c hc hj hl)).2.2.2.1 q (gb.2.2 q hq)).2 (gf j c hc q hw)⟩
 have hb2:ops[b.i]?=some b.o:=by simpa using hbo
 have his:b.i<listed.size:=by rw[hsz];exact(Array.getElem?_eq_some_iff.1 hb2).1
 refine qz0 hb2 hres R fun ρ' a' w' R'=>hn ρ' a' w' ?_
 have hget:∀ j,(listed.setIfInBounds b.i true).getD j false=(decide (j=b.i)||listed.getD j false):=fun j=>by
  by_cases hji:j=b.i
  ·subst hji;simp[Array.getD_eq_getD_getElem?,Array.getElem?_setIfInBounds,his]
  ·rw[getD_set_ne false (fun e=>hji e.symm)];simp[hji]
 have hfun:DL (listed.setIfInBounds b.i true) S=fun j=>decide (j=k)||DL listed S j:=funext fun j=>by
  cases hj:S[j]? with
  | none=>
   have:j≠k:=fun e=>by subst e;rw[hk] at hj;cases hj
   simp[DL,hj,this]
  | some c=>
   rw[qel hj,qel hj,hget]
   congr 1
   by_cases e:j=k
   ·subst e;rw[hk] at hj;cases hj;simp
   ·have:c.i≠b.i:=fun e2=>e (ho.inj j k c b hj hk e2)
    simp[e,this]
 have hcur:cur (DL (listed.setIfInBounds b.i true) S) 0 (effsS S) st=(cur (DL listed S) 0 (effsS S) st).after b.o.dst b.r.v b.r.ms:=by
  rw[hfun]
  have hei:=qst hk
  have hDk:DL listed S k=false:=by rw[qel hk];exact hD
  refine St.ext' (fun q=>?_) (fun q=>?_)
  ·refine qh4 (qfy q) (e0:=⟨b.o.dst,b.r.v,b.r.ms⟩) (effsS S) 0 st (by omega) hei hDk (fun hw j e hje hlt' hwe=>?_)
   obtain⟨c,hc,rfl⟩:=qdc hje
   rw[Nat.zero_add] at hlt' ⊢
   rw[qel hc]
   cases h:listed.getD c.i false with
   | false=>rfl
   | true=>exact absurd hwe ((qdd (behind j c hc (by omega) h)).2.1 q hw)
  ·refine qh4 (qfk q) (e0:=⟨b.o.dst,b.r.v,b.r.ms⟩) (effsS S) 0 st (by omega) hei hDk (fun hw j e hje hlt' hwe=>?_)
   obtain⟨c,hc,rfl⟩:=qdc hje
   rw[Nat.zero_add] at hlt' ⊢
   rw[qel hc]
   cases h:listed.getD c.i false with
   | false=>rfl
   | true=>exact absurd (gf j c hc q hwe) ((qdd (behind j c hc (by omega) h)).2.2.2.1 q (gb.2.2 q hw)).2
 rw[hcur]
 exact R'
structure Done (ops:Array Oper) (fuel:Nat) (U:List Nat) (listed:Array Bool):Prop where
 len:U.length=fuel
 nd:U.Nodup
 sz:listed.size=ops.size
 un:∀ i,i<ops.size→(listed.getD i false=true↔i∉U)
 lt:∀ i∈U,i<ops.size
 cl:∀ (j:Nat) (o:Oper),ops.toList[j]?=some o→listed.getD j false=true→∀ e∈o.after.toList,Region.binds .any e=true→listed.getD e.on false=true
theorem get_set {listed:Array Bool} {i:Nat} (h:i<listed.size) (j:Nat):(listed.setIfInBounds i true).getD j false=(decide (j=i)||listed.getD j false):=by
 by_cases hji:j=i
 ·subst hji;simp[Array.getD_eq_getD_getElem?,Array.getElem?_setIfInBounds,h]
 ·rw[getD_set_ne false (fun e=>hji e.symm)];simp[hji]
theorem Done.step {fuel:Nat} {U:List Nat} {listed:Array Bool} (d:Done ops (fuel+1) U listed) {i:Nat} {o:Oper} (hi:ops[i]?=some o) (hD:listed.getD i false=false) (hready:∀ e∈o.after.toList,Region.binds .any e=true→listed.getD e.on false=true) :
  Done ops fuel (U.erase i) (listed.setIfInBounds i true):=by
 have hil:=(Array.getElem?_eq_some_iff.1 hi).1
 have his:i<listed.size:=by rw[d.sz];exact hil
 have hiU:i∈U:=by
  rcases Classical.em (i∈U) with h|h
  ·exact h
  ·have:=(d.un i hil).2 h;rw[hD] at this;cases this
 have hol:ops.toList[i]?=some o:=by simpa using hi
 refine⟨?_,d.nd.erase i,by simp[d.sz],fun j hj=>?_,fun j hj=>d.lt j (List.mem_of_mem_erase hj),fun j oj hoj hDj e hee hb=>?_⟩
 ·rw[List.length_erase_of_mem hiU,d.len];rfl
 ·rw[get_set his,d.nd.mem_erase_iff]
  simp only[Bool.or_eq_true,decide_eq_true_eq,d.un j hj]
  constructor
  ·rintro(h|h) ⟨h1,h2⟩
   ·exact h1 h
   ·exact h h2
  ·intro h
   rcases Classical.em (j=i) with e|e
   ·exact .inl e
   ·exact .inr fun h2=>h ⟨e,h2⟩
 ·rw[get_set his] at hDj ⊢
  simp only[Bool.or_eq_true,decide_eq_true_eq] at hDj ⊢
  rcases hDj with rfl|hDj
  ·rw[hol] at hoj
   simp only[Option.some.injEq] at hoj
   subst hoj
   exact .inr (hready e hee hb)
  ·exact .inr (d.cl j oj hoj hDj e hee hb)
theorem qf1 {listed:Array Bool} (hsz:listed.size=ops.size) {i:Nat} (h:i∈Region.ready .any ops listed):∃ o,ops[i]?=some o∧listed.getD i false=false∧∀ e∈o.after.toList,Region.binds .any e=true→listed.getD e.on false=true:=by
 obtain⟨h0,o,ho,hr⟩:=mem_ready.1 h
 have hil:=(Array.getElem?_eq_some_iff.1 ho).1
 have his:i<listed.size:=by omega
 refine⟨o,ho,?_,fun e hee hb=>hr e (by simpa using hee) hb⟩
 simp[Array.getD_eq_getD_getElem?,Array.getElem?_eq_getElem his] at h0 ⊢
 exact h0
theorem qpe (he:qb0 ops.toList 0=true) {listed:Array Bool} (hsz:listed.size=ops.size) (hr:Region.ready .any ops listed=[]):∀ i,i<ops.size→listed.getD i false=true:=by
 intro i
 induction i using Nat.strongRecOn with
 | _ i ih=>
  intro hi
  cases hl:listed.getD i false with
  | true=>rfl
  | false=>
   exfalso
   have hmem:i∈Region.ready .any ops listed:=mem_ready.2 ⟨by
    have hil:i<listed.size:=by omega
    simp[Array.getD_eq_getD_getElem?,Array.getElem?_eq_getElem hil] at hl ⊢
    exact hl,ops[i],Array.getElem?_eq_getElem hi,fun e hee hb=>by
     have hlt:=qer he i ops[i] (by simp[hi]) e (by simpa using hee) hb
     exact ih e.on (by omega) (by omega)⟩
   rw[hr] at hmem
   cases hmem
theorem qsw (he:qb0 ops.toList 0=true) {S:List Stp} {s':St} (ho:Own ops.toList S) (hp:Pairs ops.toList S) (hg:GoodS P ops.toList S st s') (Inv:Array Bool→Prop)
  (hInv:∀ (listed:Array Bool) (k:Nat) (b:Stp),listed.size=ops.size→S[k]?=some b→Inv listed→Inv (listed.setIfInBounds b.i true))
  (hmul:∀ (listed:Array Bool) (k:Nat) (b:Stp),Inv listed→S[k]?=some b→b.mu=true→listed.getD b.i false=true)
  (hend:∀ listed:Array Bool,Inv listed→(∀ i,i<ops.size→listed.getD i false=true)→∀ ρ a w,Rel X ρ (cur (DL listed S) 0 (effsS S) st) a w→Q .normal a w)
  (hoth:∀ (fuel:Nat) (U:List Nat) (listed:Array Bool) (i:Nat) (o:Oper),Done ops (fuel+1) U listed→Inv listed→ops[i]?=some o→listed.getD i false=false→(∀ e∈o.after.toList,Region.binds .any e=true→listed.getD e.on false=true)→(∀ (k:Nat) (b:Stp),S[k]?=some b→b.i≠i)→
   ∀ ρ a w,Rel X ρ (cur (DL listed S) 0 (effsS S) st) a w→wpOp P ops Q i (wpAny P .any ops Q fuel (listed.setIfInBounds i true)) a w) :
  ∀ (fuel:Nat) (U:List Nat) (listed:Array Bool),Done ops fuel U listed→Inv listed→∀ ρ a w,Rel X ρ (cur (DL listed S) 0 (effsS S) st) a w→wpAny P .any ops Q fuel listed a w:=by
 intro fuel
 induction fuel with
 | zero=>
  intro U listed d hI ρ a w R
  have hU:U=[]:=List.length_eq_zero_iff.1 d.len
  subst hU
  have hall:∀ i,i<ops.size→listed.getD i false=true:=fun i hi=>(d.un i hi).2 (by simp)
  refine⟨?_,hend listed hI hall ρ a w R⟩
  apply List.eq_nil_iff_forall_not_mem.2
  intro j hj
  obtain⟨o,h1,h2,_⟩:=qf1 d.sz hj
  rw[hall j (Array.getElem?_eq_some_iff.1 h1).1] at h2;cases h2
 | succ fuel ih=>
  intro U listed d hI ρ a w R
  refine⟨fun hr=>hend listed hI (qpe he d.sz hr) ρ a w R,fun i hi=>?_⟩
  obtain⟨o,h1,h2,h3⟩:=qf1 d.sz hi
  rcases Classical.em (∃ (k:Nat) (b:Stp),S[k]?=some b∧b.i=i) with ⟨k,b,hk,rfl⟩|hno
  ·have hbo:b.o=o:=by
    have:=ho.at_ k b hk
    rw[show ops.toList[b.i]?=ops[b.i]? from by simp,h1] at this
    cases this;rfl
   subst hbo
   have hmu:b.mu=false:=by
    cases e:b.mu with
    | false=>rfl
    | true=>rw[hmul listed k b hI hk e] at h2;cases h2
   exact qwy he ho hp hg d.sz d.cl hk hmu h2 h3 R fun ρ' a' w' R'=>ih (U.erase b.i) _ (d.step h1 h2 h3) (hInv listed k b d.sz hk hI) ρ' a' w' R'
  ·exact hoth fuel U listed i o d hI h1 h2 h3 (fun k b hk e=>hno ⟨k,b,hk,e⟩) ρ a w R
theorem qf2 {ops:List Oper} {S:List Stp} {t:Stp} (h:Own ops (S++[t])):Own ops S∧∀ (k:Nat) (b:Stp),S[k]?=some b→b.i≠t.i:=by
 have front:∀ (k:Nat) (b:Stp),S[k]?=some b→(S++[t])[k]?=some b:=fun k b hk=>by rw[List.getElem?_append_left (List.getElem?_eq_some_iff.1 hk).1];exact hk
 refine⟨⟨fun k b hk=>h.at_ k b (front k b hk),fun k l a b hk hl e=>h.inj k l a b (front k a hk) (front l b hl) e⟩,fun k b hk e=>?_⟩
 have:=h.inj k S.length b t (front k b hk) (by rw[List.getElem?_append_right (nlr _)];simp) e
 have:=(List.getElem?_eq_some_iff.1 hk).1
 omega
theorem qh6 {ops:List Oper} {S:List Stp} {t:Stp} (h:Pairs ops (S++[t])):Pairs ops S∧∀ (k:Nat) (b:Stp),S[k]?=some b→qsv ops b t:=by
 have front:∀ (k:Nat) (b:Stp),S[k]?=some b→(S++[t])[k]?=some b:=fun k b hk=>by rw[List.getElem?_append_left (List.getElem?_eq_some_iff.1 hk).1];exact hk
 exact⟨fun k l a b hkl hk hl=>h k l a b hkl (front k a hk) (front l b hl),fun k b hk=>h k S.length b t (List.getElem?_eq_some_iff.1 hk).1 (front k b hk) (by rw[List.getElem?_append_right (nlr _)];simp)⟩
theorem qpf {Kend:St→Prop}:∀ {rest:List (Nat×List Nat)} {S:List Stp} {s:St},PlanP P ops.toList Kend rest S s→Own ops.toList S∧Pairs ops.toList S
 | [],S,s,h=>⟨h.1,h.2.1⟩
 | (m,seg)::rest,S,s,h=>by
  obtain⟨om,hs,_,_,h3,_⟩:=h
  obtain⟨h4,h5⟩:=h3 ⟨m,om,⟨undef,[],hs⟩,(hs,hs),true⟩ rfl rfl rfl
  exact⟨(qf2 h4).1,(qh6 h5).1⟩
theorem qsx (he:qb0 ops.toList 0=true) {Kend:St→Prop} (hq:∀ s ρ a w,Kend s→Rel X ρ s a w→Q .normal a w) :
  ∀ (rest:List (Nat×List Nat)) (S:List Stp) (s:St),PlanP P ops.toList Kend rest S s→Own ops.toList S→Pairs ops.toList S→GoodS P ops.toList S st s→
  ∀ (fuel:Nat) (U:List Nat) (listed:Array Bool),Done ops fuel U listed→(∀ (k:Nat) (t:Stp),S[k]?=some t→t.mu=true→listed.getD t.i false=true)→(∀ x,rest.head? = some x→listed.getD x.1 false=false)→
   ∀ ρ a w,Rel X ρ (cur (DL listed S) 0 (effsS S) st) a w→wpAny P .any ops Q fuel listed a w:=by
 intro rest
 induction rest with
 | nil=>
  intro S s hP ho hp hg fuel U listed d hmu _ ρ a w R
  obtain⟨_,_,hcov,hK⟩:=hP
  refine qsw he ho hp hg (fun listed=>∀ (k:Nat) (t:Stp),S[k]?=some t→t.mu=true→listed.getD t.i false=true) (fun listed k b hsz hk hI k' t ht hm=>?_) (fun listed k b hI hk hm=>hI k b hk hm) (fun listed hI hall ρ a w R=>hq s ρ a w hK ?_) (fun fuel U listed i o d hI h1 h2 h3 hno=>?_) fuel U listed d hmu ρ a w R
  ·have hb:b.i<listed.size:=by
    have:=ho.at_ k b hk
    rw[hsz];simpa using (List.getElem?_eq_some_iff.1 this).1
   rw[get_set hb,hI k' t ht hm];simp
  ·have:cur (DL listed S) 0 (effsS S) st=s:=by
    rw[←qkj (k0:=0) hg]
    refine St.ext' (fun q=>?_) (fun q=>?_)
    ·refine qbm (qfy q) _ 0 st st (fun j e hje _=>?_) rfl
     obtain⟨c,hc,rfl⟩:=qdc hje
     rw[Nat.zero_add,qel hc]
     exact hall _ (by simpa using (List.getElem?_eq_some_iff.1 (ho.at_ j c hc)).1)
    ·refine qbm (qfk q) _ 0 st st (fun j e hje _=>?_) rfl
     obtain⟨c,hc,rfl⟩:=qdc hje
     rw[Nat.zero_add,qel hc]
     exact hall _ (by simpa using (List.getElem?_eq_some_iff.1 (ho.at_ j c hc)).1)
   rw[←this];exact R
  ·obtain⟨k,t,hk,e⟩:=hcov i (by simpa using (Array.getElem?_eq_some_iff.1 h1).1)
   exact absurd e (hno k t hk)
 | cons x rest ih=>
  obtain⟨m,seg⟩:=x
  intro S s hP ho hp hg fuel U listed d hmu hhead ρ a w R
  obtain⟨om,hs,hm,hgd,hown,hcov,hM⟩:=hP
  have hm2:ops[m]?=some om:=by simpa using hm
  have hml:=(Array.getElem?_eq_some_iff.1 hm2).1
  obtain⟨t0,ht0⟩:∃ t0:Stp,t0=⟨m,om,⟨undef,[],hs⟩,(hs,hs),true⟩:=⟨_,rfl⟩
  obtain⟨o1,o2⟩:=hown t0 (by rw[ht0]) (by rw[ht0]) (by rw[ht0])
  have hnm:∀ (k:Nat) (b:Stp),S[k]?=some b→b.i≠m:=fun k b hk e=>(qf2 o1).2 k b hk (by rw[ht0];exact e)
  refine qsw he ho hp hg (fun listed=>(∀ (k:Nat) (t:Stp),S[k]?=some t→t.mu=true→listed.getD t.i false=true)∧listed.getD m false=false) (fun listed k b hsz hk hI=>?_) (fun listed k b hI hk hm=>hI.1 k b hk hm) (fun listed hI hall ρ a w R=>?_) (fun fuel U listed i o d hI h1 h2 h3 hno ρ a w R=>?_) fuel U listed d ⟨hmu,hhead _ rfl⟩ ρ a w R
  ·have hb:b.i<listed.size:=by
    have:=ho.at_ k b hk
    rw[hsz];simpa using (List.getElem?_eq_some_iff.1 this).1
   refine⟨fun k' t ht hm'=>by rw[get_set hb,hI.1 k' t ht hm'];simp,?_⟩
   rw[get_set hb,hI.2]
   have:=hnm k b hk
   simp;omega
  ·have:=hall m hml
   rw[hI.2] at this;cases this
  ·have hil:i<ops.toList.length:=by simpa using (Array.getElem?_eq_some_iff.1 h1).1
   have hol:ops.toList[i]?=some o:=by simpa using h1
   have masked:∀ j,j<ops.toList.length→(∀ (k:Nat) (b:Stp),S[k]?=some b→b.i≠j)→j≠m→listed.getD j false=false:=fun j hj hjS hjm=>by
    rcases hcov j hj with ⟨k,t,hk,e⟩|e|e
    ·exact absurd e (hjS k t hk)
    ·exact absurd e hjm
    ·cases hl:listed.getD j false with
     | false=>rfl
     | true=>
      have hoj:ops.toList[j]?=some ops.toList[j]:=List.getElem?_eq_getElem hj
      have:=qes (D:=fun j=>listed.getD j false) he d.cl j _ m hoj e (d.cl j _ hoj hl)
      rw[hI.2] at this;cases this
   rcases hcov i hil with ⟨k,t,hk,e⟩|rfl|e
   ·exact absurd e (hno k t hk)
   ·have hoo:o=om:=by rw[hm2] at h1;cases h1;rfl
    subst hoo
    have agr:∀ {α:Type} {f:St→α} {W:Eff→Prop},Part f W→(∀ (j:Nat) (c:Stp),S[j]?=some c→indep (footS ops.toList c) (footS ops.toList t0)=true→¬ W ⟨c.o.dst,c.r.v,c.r.ms⟩)→f (cur (DL listed S) 0 (effsS S) st)=f s:=fun hpt hw=>by
     rw[qf0 (n:=S.length) hpt fun j c hc=>⟨fun hj hl=>hw j c hc ?_,fun hj hl=>absurd (List.getElem?_eq_some_iff.1 hc).1 (by omega)⟩,←qkj (k0:=0) hg]
     ·refine qbm hpt _ 0 st st (fun j e hje _=>?_) rfl
      obtain⟨c,hc,rfl⟩:=qdc hje
      have:=(List.getElem?_eq_some_iff.1 hc).1
      rw[Nat.zero_add];simp[this]
     ·rcases(qh6 o2).2 j c hc with h|h
      ·rw[ht0] at h
       have:=qes (D:=fun j=>listed.getD j false) he d.cl i o c.i hol h h3
       rw[this] at hl;cases hl
      ·exact h
    have hw:Region.wanted o (yielded ops a.tmps)=true:=by
     unfold qpd at hgd
     cases hg':o.guard with
     | none=>simp[Region.wanted,hg']
     | some jw=>
      obtain⟨j,want⟩:=jw
      rw[hg'] at hgd
      obtain⟨oj,dj,hj,hdj,hb⟩:=hgd
      have hb2:=(agr (qfy dj) fun j c hc hi hwe=>(qdd hi).1 dj (by
       rw[ht0]
       unfold qdo
       apply List.mem_append_right
       simp only[hg']
       rw[qbb,hj]
       simp[hdj]) hwe).trans hb
      obtain⟨y,hy,hyd⟩:=R.slot dj _ hb2
      have hyb:y=.bool want:=hyd.self.symm
      have hj':ops[j]?=some oj:=by simpa using hj
      have hyl:yielded ops a.tmps j=some want:=by simp[yielded,hj',hdj,hy,hyb]
      simp[Region.wanted,hg',hyl]
    unfold wpOp
    rw[h1]
    simp only
    rw[if_pos hw]
    have hE:=hM (cur (DL listed S) 0 (effsS S) st) (fun x hx u hu=>qpb (fun t ht=>agr (qfy t) fun j c hc hi hwe=>(qdd hi).1 t (by
      rw[ht0]
      unfold qdo
      exact List.mem_append_left _ (List.mem_flatMap.2 ⟨x,hx,ht⟩)) hwe) hu)
     (fun q hq=>agr (qfk q) fun j c hc hi hwe=>((qdd hi).2.2.2.1 q ((qki (k0:=0) hg j c hc).2.2 q hwe)).1 (by rw[ht0];exact hq))
    refine .inl (hE X ρ a w R _ Q fun v ms ρ' x w' hF ha=>?_)
    obtain⟨hms,S2,s2,hmu2,hg2,hP2⟩:=hF
    obtain⟨e1,he1⟩:∃ e1:Stp,e1=⟨i,o,⟨v,ms,hs⟩,(hs,hs),true⟩:=⟨_,rfl⟩
    rw[←he1] at hP2
    obtain⟨w1,w2⟩:=qpf hP2
    have his:i<listed.size:=by rw[d.sz];exact hml
    have inL:∀ (k:Nat) (b:Stp),S[k]?=some b→(S++e1::S2)[k]?=some b:=fun k b hk=>by rw[List.getElem?_append_left (List.getElem?_eq_some_iff.1 hk).1];exact hk
    have inM:(S++e1::S2)[S.length]?=some e1:=by rw[List.getElem?_append_right (nlr _)];simp
    have inR:∀ (k:Nat) (b:Stp),S2[k]?=some b→(S++e1::S2)[S.length+1+k]?=some b:=fun k b hk=>by
     rw[List.getElem?_append_right (by omega),show S.length+1+k-S.length=k+1 from by omega];simpa using hk
    have hg1:GoodS P ops.toList (S++e1::S2) st s2:=qpc hg ⟨⟨fun h=>(by rw[he1] at h;cases h),fun q hq=>(by rw[he1] at hq ⊢;exact hq),fun q hq=>(by rw[he1] at hq ⊢;exact hms q hq)⟩,by rw[he1];exact hg2⟩
    have un2:∀ (k:Nat) (b:Stp),S2[k]?=some b→listed.getD b.i false=false∧b.i≠i:=fun k b hk=>by
     have hne:b.i≠i:=fun e=>by
      have:=w1.inj _ _ b e1 (inR k b hk) inM (by rw[he1];exact e)
      omega
     refine⟨masked b.i ?_ (fun k' c hc e=>?_) hne,hne⟩
     ·exact(List.getElem?_eq_some_iff.1 (w1.at_ _ b (inR k b hk))).1
     ·have:=w1.inj _ _ c b (inL k' c hc) (inR k b hk) e
      have:=(List.getElem?_eq_some_iff.1 hc).1
      omega
    refine ih (S++e1::S2) s2 hP2 w1 w2 hg1 fuel (U.erase i) _ (d.step h1 h2 h3) (fun k t hk hmt=>?_) (fun y hy=>?_) ρ' _ w' ?_
    ·rw[get_set his]
     rcases Nat.lt_trichotomy k S.length with hlt|rfl|hgt
     ·rw[List.getElem?_append_left hlt] at hk
      rw[hI.1 k t hk hmt];simp
     ·rw[inM] at hk;cases hk
      rw[he1];simp
     ·obtain⟨j,rfl⟩:∃ j,k=S.length+1+j:=⟨k-(S.length+1),by omega⟩
      have hj:S2[j]?=some t:=by
       rw[List.getElem?_append_right (by omega),show S.length+1+j-S.length=j+1 from by omega] at hk
       simpa using hk
      rw[hmu2 t (List.mem_of_getElem? hj)] at hmt;cases hmt
    ·cases hr:rest with
     | nil=>rw[hr] at hy;cases hy
     | cons z rest'=>
      obtain⟨m2,seg2⟩:=z
      rw[hr] at hy hP2
      simp only[List.head?_cons,Option.some.injEq] at hy
      subst hy
      obtain⟨om2,hs2,hm2',_,hown2,_⟩:=hP2
      obtain⟨p1,_⟩:=hown2 ⟨m2,om2,⟨undef,[],hs2⟩,(hs2,hs2),true⟩ rfl rfl rfl
      have hne:m2≠i:=fun e=>(qf2 p1).2 _ e1 inM (by rw[he1];exact e.symm)
      rw[get_set his,masked m2 (List.getElem?_eq_some_iff.1 hm2').1 (fun k b hk e=>(qf2 p1).2 _ b (inL k b hk) e) hne]
      simp[hne]
    ·have hcur:cur (DL (listed.setIfInBounds i true) (S++e1::S2)) 0 (effsS (S++e1::S2)) st=(cur (DL listed S) 0 (effsS S) st).after o.dst v ms:=by
      have hsplit:effsS (S++e1::S2)=effsS S++⟨o.dst,v,ms⟩::effsS S2:=by rw[he1];simp[effsS]
      have hlen:(effsS S).length=S.length:=by simp[effsS]
      rw[hsplit,qsu,hlen,Nat.zero_add]
      have hfst:cur (DL (listed.setIfInBounds i true) (S++e1::S2)) 0 (effsS S) st=cur (DL listed S) 0 (effsS S) st:=by
       have key:∀ (j:Nat) (e:Eff),(effsS S)[j]?=some e→DL (listed.setIfInBounds i true) (S++e1::S2) (0+j)=DL listed S (0+j):=fun j e hje=>by
        obtain⟨c,hc,rfl⟩:=qdc hje
        rw[Nat.zero_add,qel (inL j c hc),qel hc,get_set his]
        simp[hno j c hc]
       exact St.ext' (fun q=>qbm (qfy q) _ 0 st st (fun j e hje _=>key j e hje) rfl) (fun q=>qbm (qfk q) _ 0 st st (fun j e hje _=>key j e hje) rfl)
      rw[hfst]
      have hmid:DL (listed.setIfInBounds i true) (S++e1::S2) S.length=true:=by rw[qel inM,get_set his,he1];simp
      simp only[cur,hmid]
      refine qdn _ _ _ fun j hj=>?_
      have hj2:j<S2.length:=by simpa[effsS] using hj
      have hc:S2[j]?=some S2[j]:=List.getElem?_eq_getElem hj2
      rw[qel (inR j _ hc),get_set his,(un2 j _ hc).1]
      simp[(un2 j _ hc).2]
     rw[hcur]
     exact qd5 R ha
   ·have:=qes (D:=fun j=>listed.getD j false) he d.cl i o m hol e h3
    rw[hI.2] at this;cases this
end
noncomputable def appB (ops:List Oper):Bool:=List.rec (motive:=fun _=>Bool) false (fun o _ ih=>match o.op with
 | .call ⟨.builtin .append,_,_⟩=>true
 | _=>ih) ops
noncomputable def callB (ops:List Oper):Bool:=List.rec (motive:=fun _=>Bool) false (fun o _ ih=>match o.op with
 | .call ⟨.value _,_,_⟩=>true
 | _=>ih) ops
def altK (b:Bool) (A B:Prop):Prop:=match b with
 | false=>A
 | true=>N (AltN A B)
theorem qwz {b:Bool} {A B:Prop} (h:altK b A B):A∨B:=by
 cases b with
 | false=>exact .inl h
 | true=>exact N.out h
noncomputable def entB (ops:List Oper):Bool:=List.rec (motive:=fun _=>Bool) false (fun o _ ih=>match o.op with
 | .mapEntry _ _ _=>true
 | _=>ih) ops
def opsK (ops:List Oper):List Nat→(List Oper→Prop)→Prop
 | [],K=>K []
 | i::r,K=>match nthL ops i with
  | some o=>opsK ops r fun os=>K (o::os)
  | none=>False
theorem qpg {ops:List Oper}:∀ {L:List Nat} {K:List Oper→Prop},opsK ops L K→∃ os,os.length=L.length∧(∀ (k i:Nat) (o:Oper),L[k]?=some i→os[k]?=some o→ops[i]?=some o)∧K os
 | [],K,h=>⟨[],rfl,fun k i o h1 _=>by simp at h1,h⟩
 | i::r,K,h=>by
  unfold opsK at h
  rw[qbb] at h
  split at h
  ·rename_i o ho
   obtain⟨os,h1,h2,h3⟩:=qpg h
   refine⟨o::os,by simp[h1],fun k j p hj hp=>?_,h3⟩
   cases k with
   | zero=>simp at hj hp;subst hj hp;exact ho
   | succ k=>exact h2 k j p (by simpa using hj) (by simpa using hp)
  ·exact h.elim
abbrev Foots:=List (Nat×List Nat×List Nat)
def qsy:List Oper→Nat
 | []=>0
 | o::os=>qbj o.op+qsy os
def footI (ops:List Oper) (x:Nat×List Nat×List Nat):Foot:=match nthL ops x.1 with
 | some o=>⟨qdo ops o,o.dst.toList,x.2.1,x.2.2,0⟩
 | none=>⟨[],[],[],[],0⟩
def pairB (ops:List Oper):Foots→Bool
 | []=>true
 | x::r=>r.all (fun y=>Nat.testBit (mkAt ops y.1) x.1||indep (footI ops x) (footI ops y))&&pairB ops r
def qmb:List Nat→Bool
 | []=>true
 | x::r=>r.all (fun y=>!(Nat.beq x y))&&qmb r
def midB (ops:List Oper) (A:Foots) (m:Nat) (hs:List Nat):Bool:=
 pairB ops (A++[(m,hs,hs)])&&(qmb (A.map (·.1)++[m])&&(List.range ops.length).all fun i=>(A.any fun x=>Nat.beq x.1 i)||(Nat.beq i m||Nat.testBit (mkAt ops i) m))
def endB (ops:List Oper) (A:Foots):Bool:=
 pairB ops A&&(qmb (A.map (·.1))&&(List.range ops.length).all fun i=>A.any fun x=>Nat.beq x.1 i)
noncomputable def segK (P:Program) (G:Tys) (ops:List Oper) (L:List Nat) (sl:Nat) (st:St) (A:Foots) (K:Nat→St→Foots→Prop):Prop:=
 opsK ops L fun os=>wpR P G ops os sl st [] fun s acc=>litK (sl+qsy os) fun sl'=>K sl' s (A++List.zip L acc.reverse)
def CallM (P:Program) (g:FuncId) (vs:List Value) (h:Hp) (slot:Nat) (C:List Nat→Prop) (K:List Nat→Value→List (Nat×Chunk)→Prop):Prop:=
 ∃ (hs:List Nat) (R:Value→List (Nat×Chunk)→Prop),C hs∧(∀ h₂:Hp,(∀ q∈hs,h₂[q]?=h[q]?)→CallAll P g vs h₂ R)∧∀ v ms,R v ms→(∀ q∈ms.map (·.1),q∈hs)∧K hs v ms
def qz1 (P:Program) (o:Oper) (st:St) (C:List Nat→Prop) (K:List Nat→Value→List (Nat×Chunk)→Prop):Prop:=
 ∃ q,C q∧qnp P o st q fun v ms=>(∀ i∈ms.map (·.1),i∈q)∧K q v ms
def stepM (P:Program) (G:Tys) (o:Oper) (st:St) (slot:Nat) (C:List Nat→Prop) (K:List Nat→Value→List (Nat×Chunk)→Prop):Prop:=
 match o.op with
 | .call ⟨.builtin .append,⟨[x,y]⟩,⟨[t,t']⟩⟩=>match Nat.beq t t' with
  | true=>evalS x st fun p=>evalS y st fun q=>match q with
   | .slice (some ⟨j,g,some _⟩) m _=>lookT G t fun _ d=>match d with
    | .slice e=>lookT G e fun ei _=>match ei.zero with
     | some z=>match qam z&&flatB z ei.size&&Nat.ble 1 ei.size with
      | true=>getH st.h j fun cj=>match p with
       | .slice none 0 0=>N (Obl (C [j,slot]) (N (App0N cj g m ei.size ei.bytes z slot (K [j,slot]))))
       | .slice (some ⟨k,0,some s⟩) l c=>getH st.h k fun ci=>N (Obl (C [k,j,slot]) (N (AppN ci k s l c cj g m ei.size ei.bytes z slot (K [k,j,slot]))))
       | .iface _ _=>N (qz1 P o st C K)
       | _=>False
      | false=>False
     | none=>False
    | _=>False
   | .iface _ _=>N (qz1 P o st C K)
   | _=>False
  | false=>False
 | .call ⟨.value f,xs,_⟩=>evalS f st fun fv=>match fv with
  | .func (.func g) ⟨us⟩ ⟨cs⟩=>match us.all cap1&&cs.all cap1 with
   | true=>evalL xs.toList st fun vs=>listK (us++vs++cs) fun l=>N (CallM P g l st.h slot C K)
   | false=>False
  | _=>False
 | _=>False
theorem qf3 {α β:Type} {p q:α→β→Prop}:∀ {a:List α} {b:List β},All2 p a b→(∀ x∈a,∀ u,p x u→q x u)→All2 q a b
 | [],[],_,_=>trivial
 | [],_::_,h,_=>h.elim
 | _::_,[],h,_=>h.elim
 | x::a,u::b,h,hm=>⟨hm x (by simp) u h.1,qf3 h.2 fun y hy=>hm y (by simp[hy])⟩
theorem qsz {P:Program} {G:Tys} {o:Oper} {st:St} {slot:Nat} {C:List Nat→Prop} {K:List Nat→Value→List (Nat×Chunk)→Prop} (hG:TysOK P G) (hs:st.h[slot]?=some none) (h:stepM P G o st slot C K):∃ q,C q∧qnp P o st q (fun v ms=>(∀ i∈ms.map (·.1),i∈q)∧K q v ms):=by
 unfold stepM at h
 split at h
 ·rename_i x y t t' ho
  cases hb:Nat.beq t t' with
  | false=>rw[hb] at h;exact h.elim
  | true=>
   rw[hb] at h
   obtain rfl:=Nat.eq_of_beq_eq_true hb
   obtain⟨p,hp,h⟩:=qan h
   obtain⟨q,hq,h⟩:=qan h
   split at h
   ·rename_i j g u m c2
    obtain⟨i,d,h1,h2,h⟩:=qal hG h
    split at h
    ·obtain⟨ei,ed,h3,h4,h⟩:=qal hG h
     split at h
     ·rename_i z hz
      cases hc:qam z&&flatB z ei.size&&Nat.ble 1 ei.size with
      | false=>rw[hc] at h;exact h.elim
      | true=>
       rw[hc] at h
       simp only[Bool.and_eq_true,Nat.ble_eq] at hc
       obtain⟨cj,hj,h⟩:=qba h
       split at h
       ·obtain⟨hC,h⟩:=h.out
        rcases N.out h with ⟨v,hr,hm,h63,hby,hk⟩|⟨rfl,hk⟩
        ·refine⟨_,hC,fun st₂ ha hh=>?_⟩
         exact qfj ho (ha x (by simp[ho,Op.operands,Call.operands]) _ hp) (ha y (by simp[ho,Op.operands,Call.operands]) _ hq) h2 h3 hz hc.1.1 hc.1.2 hc.2 ((hh j (by simp)).trans hj) hr hm h63 hby ((hh slot (by simp)).trans hs) fun cap hcap=>⟨by simp,hk cap hcap⟩
        ·refine⟨_,hC,fun st₂ ha hh=>?_⟩
         exact qeq ho (ha x (by simp[ho,Op.operands,Call.operands]) _ hp) (ha y (by simp[ho,Op.operands,Call.operands]) _ hq) h2 h3 ⟨by simp,hk⟩
       ·rename_i k' s' l' c'
        obtain⟨ci,hi,h⟩:=qba h
        obtain⟨hC,h⟩:=h.out
        obtain⟨v,hr,hf,hln,h63,hby,ha1,hk⟩:=N.out h
        refine⟨_,hC,fun st₂ ha hh=>?_⟩
        exact qjn ho (ha x (by simp[ho,Op.operands,Call.operands]) _ hp) (ha y (by simp[ho,Op.operands,Call.operands]) _ hq) h2 h3 hz hc.1.1 hc.1.2 hc.2 ((hh _ (by simp)).trans hi) hln ((hh j (by simp)).trans hj) hr hf h63 hby ((hh slot (by simp)).trans hs)
         (fun hle=>by obtain⟨d,hw,hK⟩:=ha1 hle;exact⟨d,hw,by simp,hK⟩) (fun hlt cap hcap=>⟨by simp,hk hlt cap hcap⟩)
       ·exact N.out h
       ·exact h.elim
     ·exact h.elim
    ·exact h.elim
   ·exact N.out h
   ·exact h.elim
 ·rename_i f xs ts ho
  obtain⟨v,hv,h⟩:=qan h
  split at h
  ·rename_i g us cs
   cases hb:us.all cap1&&cs.all cap1 with
   | true=>
    rw[hb] at h
    simp only[Bool.and_eq_true] at hb
    obtain⟨vs,hx,h⟩:=qc8 h
    have h:=qdb (K:=fun l=>N (CallM P g l st.h slot C K)) h
    obtain⟨q,R,hC,h1,h2⟩:=h.out
    refine⟨q,hC,fun st₂ ha hh=>?_⟩
    refine qh3 ho (ha f (by simp[ho,Op.operands,Call.operands]) _ hv) hb.1 hb.2 ?_ (h1 st₂.h hh) h2
    exact qf3 hx fun x hx' u hu=>ha x (by simp[ho,Op.operands,Call.operands];exact .inr (by simpa using hx')) _ hu
   | false=>rw[hb] at h;exact h.elim
  ·exact h.elim
 ·exact h.elim
def qs0 (ops:List Oper) (o:Oper) (st:St) (K:Prop):Prop:=match o.guard with
 | none=>K
 | some (j,want)=>match nthL ops j with
  | some oj=>match oj.dst with
   | some d=>match st with
    | ⟨t0,_⟩=>getK t0 d fun g=>match g with
     | .bool b=>N (Obl (b=want) K)
     | _=>False
   | none=>False
  | none=>False
theorem qq7 {ops:List Oper} {o:Oper} {st:St} {K:Prop} (h:qs0 ops o st K):qpd ops o st∧K:=by
 obtain⟨t0,h0⟩:=st
 unfold qs0 at h
 unfold qpd
 cases hg:o.guard with
 | none=>rw[hg] at h;exact⟨trivial,h⟩
 | some jw=>
  obtain⟨j,want⟩:=jw
  rw[hg] at h
  simp only at h ⊢
  rw[qbb] at h
  split at h
  ·rename_i oj hj
   split at h
   ·rename_i d hd
    obtain⟨g,hgv,h⟩:=qcy h
    split at h
    ·rename_i b
     obtain⟨e,h'⟩:=N.out h
     subst e
     exact⟨⟨oj,d,hj,hd,hgv⟩,h'⟩
    ·exact h.elim
   ·exact h.elim
  ·exact h.elim
noncomputable def planK (P:Program) (G:Tys) (ops:List Oper):List (Nat×List Nat)→Nat→St→Foots→(St→Prop)→Prop
 | [],_,st,A,K=>N (Obl (endB ops A=true) (K st))
 | (m,seg)::rest,sl,st,A,K=>match nthL ops m with
  | some om=>qs0 ops om st (match nthL st.h sl with
    | some none=>stepM P G om st sl (fun hs=>midB ops A m hs=true) fun hs v ms=>qcc st om.dst v ms fun st'=>litK (sl+qbj om.op) fun sl'=>
      segK P G ops seg sl' st' (A++[(m,hs,hs)]) fun sl'' st'' A'=>planK P G ops rest sl'' st'' A' K
    | _=>False)
  | none=>False
theorem qs1 {P:Program} {ops:List Oper}:∀ {os:List Oper} {L:List Nat} {rs:List Res} {st s:St},Trace P ops os st rs s→L.length=os.length→(∀ (k i:Nat) (o:Oper),L[k]?=some i→os[k]?=some o→ops[i]?=some o)→
  ∃ S:List Stp,GoodS P ops S st s∧(∀ t∈S,t.mu=false)∧(∀ t∈S,ops[t.i]?=some t.o)∧(S.map fun t=>(t.i,t.f))=List.zip L (feet rs)
 | [],L,rs,st,s,h,hl,hx=>by
  obtain⟨rfl,rfl⟩:=h
  obtain rfl:L=[]:=List.length_eq_zero_iff.1 hl
  exact⟨[],rfl,by simp,by simp,rfl⟩
 | o::os,[],rs,st,s,h,hl,hx=>by simp at hl
 | o::os,i::L,rs,st,s,h,hl,hx=>by
  obtain⟨r,rs',rfl,h1,h2⟩:=h
  obtain⟨S,g1,g2,g3,g4⟩:=qs1 (L:=L) h2 (by simpa using hl) (fun k j p hj hp=>hx (k+1) j p (by simpa using hj) (by simpa using hp))
  refine⟨⟨i,o,r,(r.rh,r.ms.map (·.1)),false⟩::S,⟨⟨fun _=>h1,fun q hq=>hq,fun q hq=>hq⟩,g1⟩,?_,?_,?_⟩
  ·intro t ht
   rcases List.mem_cons.1 ht with rfl|ht
   ·rfl
   ·exact g2 t ht
  ·intro t ht
   rcases List.mem_cons.1 ht with rfl|ht
   ·exact hx 0 i o rfl rfl
   ·exact g3 t ht
  ·simp[feet,g4]
theorem qph {P:Program} {G:Tys} {ops:List Oper} (hG:TysOK P G) {L:List Nat} {sl:Nat} {st:St} {A:Foots} {K:Nat→St→Foots→Prop} (h:segK P G ops L sl st A K) :
  ∃ (S:List Stp) (s:St) (sl':Nat),GoodS P ops S st s∧(∀ t∈S,t.mu=false)∧(∀ t∈S,ops[t.i]?=some t.o)∧K sl' s (A++S.map fun t=>(t.i,t.f)):=by
 obtain⟨os,h1,h2,h3⟩:=qpg h
 obtain⟨rs,s,ht,h4⟩:=qkf hG h3
 have h5:=qbl (K:=fun sl'=>K sl' s (A++List.zip L ((feet rs).reverse++[]).reverse)) h4
 obtain⟨S,g1,g2,g3,g4⟩:=qs1 ht h1.symm h2
 refine⟨S,s,sl+qsy os,g1,g2,g3,?_⟩
 rw[g4]
 simpa using h5
theorem qkk {ops:List Oper}:∀ {S:List Stp},(∀ t∈S,ops[t.i]?=some t.o)→pairB ops (S.map fun t=>(t.i,t.f))=true→Pairs ops S
 | [],_,_=>fun k l a b _ hk=>by simp at hk
 | t::S,ha,h=>by
  simp only[List.map_cons,pairB,Bool.and_eq_true] at h
  have foot:∀ c∈t::S,footI ops (c.i,c.f)=footS ops c:=fun c hc=>by unfold footI footS;rw[qbb,ha c hc]
  intro k l a b hkl hk hl
  cases l with
  | zero=>omega
  | succ l=>
   have hl:S[l]?=some b:=by simpa using hl
   cases k with
   | zero=>
    simp at hk;subst hk
    have:=List.all_eq_true.1 h.1 (b.i,b.f) (List.mem_map.2 ⟨b,List.mem_of_getElem? hl,rfl⟩)
    rw[foot t (by simp),foot b (by simp[List.mem_of_getElem? hl])] at this
    simpa[qsv] using this
   | succ k=>exact qkk (fun c hc=>ha c (by simp[hc])) h.2 k l a b (by omega) (by simpa using hk) hl
theorem qs2 {ops:List Oper}:∀ {S:List Stp},(∀ t∈S,ops[t.i]?=some t.o)→qmb (S.map fun t=>t.i)=true→Own ops S
 | [],_,_=>⟨fun k s h=>by simp at h,fun k l a b hk=>by simp at hk⟩
 | t::S,ha,h=>by
  simp only[List.map_cons,qmb,Bool.and_eq_true] at h
  have ih:=qs2 (fun c hc=>ha c (by simp[hc])) h.2
  have ne:∀ (l:Nat) (b:Stp),S[l]?=some b→t.i≠b.i:=fun l b hl e=>by
   have:=List.all_eq_true.1 h.1 b.i (List.mem_map.2 ⟨b,List.mem_of_getElem? hl,rfl⟩)
   rw[e] at this;simp at this
  refine⟨fun k s hk=>ha s (List.mem_of_getElem? hk),fun k l a b hk hl e=>?_⟩
  cases k with
  | zero=>
   simp at hk;subst hk
   cases l with
   | zero=>rfl
   | succ l=>exact absurd e (ne l b (by simpa using hl))
  | succ k=>
   cases l with
   | zero=>simp at hl;subst hl;exact absurd e.symm (ne k a (by simpa using hk))
   | succ l=>rw[ih.inj k l a b (by simpa using hk) (by simpa using hl) e]
theorem qmc {P:Program} {G:Tys} {ops:List Oper} (hG:TysOK P G) {K:St→Prop}:∀ {rest:List (Nat×List Nat)} {sl:Nat} {st:St} {A:Foots},planK P G ops rest sl st A K→∀ S:List Stp,(S.map fun t=>(t.i,t.f))=A→(∀ t∈S,ops[t.i]?=some t.o)→PlanP P ops K rest S st
 | [],sl,st,A,h,S,hS,ha=>by
  obtain⟨h1,h2⟩:=N.out (show N (Obl (endB ops A=true) (K st)) from h)
  subst hS
  simp only[endB,Bool.and_eq_true,List.map_map] at h1
  refine⟨qs2 ha h1.2.1,qkk ha h1.1,fun i hi=>?_,h2⟩
  have:=List.all_eq_true.1 h1.2.2 i (by simpa using hi)
  obtain⟨x,hx,e⟩:=List.any_eq_true.1 this
  obtain⟨t,ht,rfl⟩:=List.mem_map.1 hx
  obtain⟨k,hk⟩:=List.getElem?_of_mem ht
  exact⟨k,t,hk,by simpa using e⟩
 | (m,seg)::rest,sl,st,A,h,S,hS,ha=>by
  unfold planK at h
  rw[qbb] at h
  split at h
  ·rename_i om hm
   obtain⟨hgd,h⟩:=qq7 h
   ·rw[qbb] at h
    split at h
    ·rename_i hs
     obtain⟨q,hC,hM⟩:=qsz hG hs h
     subst hS
     simp only[midB,Bool.and_eq_true,List.map_map] at hC
     refine⟨om,q,hm,hgd,fun t e1 e2 e3=>?_,fun i hi=>?_,fun st₂ h1 h2=>?_⟩
     ·have ha':∀ c∈S++[t],ops[c.i]?=some c.o:=fun c hc=>by
       rcases List.mem_append.1 hc with hc|hc
       ·exact ha c hc
       ·obtain rfl:=List.mem_singleton.1 hc;rw[e1,e2];exact hm
      refine⟨qs2 ha' ?_,qkk ha' ?_⟩
      ·have:=hC.2.1;simp only[List.map_append,List.map_cons,List.map_nil,e1];exact this
      ·have:=hC.1;simp only[List.map_append,List.map_cons,List.map_nil,e1,e3];exact this
     ·have:=List.all_eq_true.1 hC.2.2 i (by simpa using hi)
      simp only[Bool.or_eq_true] at this
      rcases this with h|h|h
      ·obtain⟨x,hx,e⟩:=List.any_eq_true.1 h
       obtain⟨t,ht,rfl⟩:=List.mem_map.1 hx
       obtain⟨k,hk⟩:=List.getElem?_of_mem ht
       exact .inl ⟨k,t,hk,by simpa using e⟩
      ·exact .inr (.inl (by simpa using h))
      ·exact .inr (.inr h)
     ·intro X ρ a w R next Q hn
      refine hM st₂ h1 h2 X ρ a w R next Q fun v ms ρ' x w' hF ha'=>hn v ms ρ' x w' ⟨hF.1,?_⟩ ha'
      have hk:=qbl (K:=fun sl'=>segK P G ops seg sl' (st.after om.dst v ms) _ _) (qc5 hF.2)
      obtain⟨S2,s2,sl2,g1,g2,g3,g4⟩:=qph hG hk
      refine⟨S2,s2,g2,g1,qmc hG g4 _ (by simp) fun t ht=>?_⟩
      rcases List.mem_append.1 ht with ht|ht
      ·exact ha t ht
      ·rcases List.mem_cons.1 ht with rfl|ht
       ·exact hm
       ·exact g3 t ht
    ·exact h.elim
  ·exact h.elim
def PlanN (P:Program) (G:Tys) (ops:List Oper) (K:List Nat→List (Nat×List Nat)→Prop):Prop:=∃ L rest,qb0 ops 0=true∧K L rest
theorem N.plan {P:Program} {G:Tys} {ops:List Oper} {K:List Nat→List (Nat×List Nat)→Prop} (L:List Nat) (rest:List (Nat×List Nat)) (he:qb0 ops 0=Bool.true) (k:K L rest):N (PlanN P G ops K):=N.mk ⟨L,rest,he,k⟩
noncomputable def planA (P:Program) (G:Tys) (ops:List Oper) (sl:Nat) (st:St) (K:St→Prop):Prop:=
 N (PlanN P G ops fun L rest=>segK P G ops L sl st [] fun sl' st' A=>planK P G ops rest sl' st' A K)
theorem qmd {P:Program} {G:Tys} {ops:Array Oper} {Q:Exit→Act→World→Prop} {X:Ctx} {st:St} (hG:TysOK P G) {sl:Nat} {K:St→Prop} (h:planA P G ops.toList sl st K) (hq:∀ s ρ a w,K s→Rel X ρ s a w→Q .normal a w)
  {ρ:Nat→Nat×Nat} {a:Act} {w:World} (R:Rel X ρ st a w):wpAny P .any ops Q ops.size (Array.replicate ops.size false) a w:=by
 obtain⟨L,rest,he,h1⟩:=N.out h
 obtain⟨S,s,sl',g1,g2,g3,g4⟩:=qph hG h1
 have hP:=qmc hG g4 S (by simp) g3
 obtain⟨o1,o2⟩:=qpf hP
 have h0:∀ j,(Array.replicate ops.size false).getD j false=false:=fun j=>by
  simp only[Array.getD_eq_getD_getElem?,Array.getElem?_replicate]
  split<;>rfl
 refine qsx he hq rest S s hP o1 o2 g1 ops.size (List.range ops.size) _ ⟨by simp,List.nodup_range,by simp,fun i hi=>?_,fun i hi=>by simpa using hi,fun j o _ h=>by rw[h0] at h;cases h⟩ (fun k t hk hm=>?_) (fun x _=>h0 _) ρ a w ?_
 ·rw[h0];simp[hi]
 ·rw[g2 t (List.mem_of_getElem? hk)] at hm;cases hm
 ·rw[qdn _ 0 st fun i _=>?_]
  ·exact R
  ·unfold DL
   split
   ·exact h0 _
   ·rfl
def qpi:Nat→(Hp→Prop)→Prop
 | 0,K=>K []
 | n+1,K=>qpi n fun r=>K (none::r)
def appK:Hp→Nat→(Hp→Prop)→Prop
 | [],n,K=>qpi n K
 | x::r,n,K=>appK r n fun r'=>K (x::r')
def trimK:Hp→(Hp→Prop)→Prop
 | [],K=>K []
 | some c::r,K=>trimK r fun r'=>K (some c::r')
 | none::r,K=>trimK r fun r'=>match r' with
  | []=>K []
  | x::q=>K (none::x::q)
def qz2:List Oper→Nat
 | []=>1
 | o::os=>qbj o.op+qz2 os
def SameH (h h':Hp):Prop:=∀ (i:Nat) (c:Chunk),h'[i]?=some (some c)↔h[i]?=some (some c)
theorem qjp:∀ {n:Nat} {K:Hp→Prop},qpi n K→∃ h',SameH [] h'∧K h'
 | 0,K,h=>⟨[],fun _ _=>Iff.rfl,h⟩
 | n+1,K,h=>by
  obtain⟨h',hs,hk⟩:=qjp (n:=n) h
  refine⟨_,fun i c=>?_,hk⟩
  cases i with
  | zero=>simp
  | succ i=>simpa using hs i c
theorem qpj:∀ {h:Hp} {n:Nat} {K:Hp→Prop},appK h n K→∃ h',SameH h h'∧K h'
 | [],n,K,h=>qjp h
 | x::r,n,K,h=>by
  obtain⟨h',hs,hk⟩:=qpj (h:=r) (n:=n) h
  refine⟨_,fun i c=>?_,hk⟩
  cases i with
  | zero=>simp
  | succ i=>simpa using hs i c
theorem qde:∀ {h:Hp} {K:Hp→Prop},trimK h K→∃ h',SameH h h'∧K h'
 | [],K,h=>⟨[],fun _ _=>Iff.rfl,h⟩
 | some x::r,K,h=>by
  obtain⟨h',hs,hk⟩:=qde (h:=r) h
  refine⟨_,fun i c=>?_,hk⟩
  cases i with
  | zero=>simp
  | succ i=>simpa using hs i c
 | none::r,K,h=>by
  obtain⟨h',hs,hk⟩:=qde (h:=r) h
  split at hk
  ·refine⟨[],fun i c=>?_,hk⟩
   cases i with
   | zero=>simp
   | succ i=>simpa using hs i c
  ·refine⟨_,fun i c=>?_,hk⟩
   cases i with
   | zero=>simp
   | succ i=>simpa using hs i c
theorem SameH.fil {h h':Hp} (s:SameH h h') (i:Nat):Fil h' i↔Fil h i:=⟨fun⟨c,hc⟩=>⟨c,(s i c).1 hc⟩,fun⟨c,hc⟩=>⟨c,(s i c).2 hc⟩⟩
theorem HOK.same {X:Ctx} {ρ:Nat→Nat×Nat} {h h':Hp} {w:World} (H:HOK X ρ h w) (s:SameH h h'):HOK X ρ h' w:=by
 refine⟨H.evo,fun i hi=>⟨(s.fil i).2 (H.base i hi).1,(H.base i hi).2⟩,fun i c hi=>H.lt i c ((s i c).1 hi),fun i c hi j hj=>?_,fun i c hi=>H.own i c ((s i c).1 hi),fun i c j d hi ho hj=>H.sep i c j d ((s i c).1 hi) ho ((s j d).1 hj),?_⟩
 ·obtain⟨x,hx,hd⟩:=H.cell i c ((s i c).1 hi) j hj
  exact⟨x,hx,hd.more (AgreeOn.refl _ _) fun k hk=>(s.fil k).2 hk⟩
 ·obtain⟨S,E⟩:=H.ext
  exact E.less fun i c hi=>⟨rfl,c,(s i c).1 hi,nlr _,.inr rfl⟩
theorem Rel.same {X:Ctx} {ρ:Nat→Nat×Nat} {st:St} {h':Hp} {a:Act} {w:World} (R:Rel X ρ st a w) (s:SameH st.h h'):Rel X ρ ⟨st.t,h'⟩ a w:=by
 refine⟨R.defers,R.size,fun i v hi=>?_,R.heap.same s⟩
 obtain⟨x,hx,hd⟩:=R.slot i v hi
 exact⟨x,hx,hd.more (AgreeOn.refl _ _) fun k hk=>(s.fil k).2 hk⟩
def falses:List Oper→List Bool
 | []=>[]
 | _::r=>false::falses r
def allB:List Bool→Bool
 | []=>true
 | b::r=>b&&allB r
def mayB (listed:List Bool) (es:List Edge):Bool:=match es with
 | []=>true
 | e::r=>(!Region.binds .any e||(match nthL listed e.on with
  | some b=>b
  | none=>false))&&mayB listed r
def markK:List Bool→Nat→(List Bool→Prop)→Prop
 | [],_,K=>K []
 | _::r,0,K=>K (true::r)
 | b::r,n+1,K=>markK r n fun r'=>K (b::r')
def eachX (listed:List Bool) (F:Nat→Oper→Prop):List Oper→List Bool→Nat→Prop
 | o::os,b::bs,k=>match !b&&mayB listed o.after.toList with
  | true=>N (litK k (fun k=>F k o)∧eachX listed F os bs (k+1))
  | false=>eachX listed F os bs (k+1)
 | _,_,_=>N True
def wpX (P:Program) (G:Tys) (ops:List Oper):Nat→List Bool→Nat→St→(St→Prop)→Prop
 | 0,listed,_,st,K=>match allB listed with
  | true=>K st
  | false=>False
 | fuel+1,listed,sl,st,K=>match allB listed with
  | true=>K st
  | false=>eachX listed (fun k o=>match st with
   | ⟨t0,h0⟩=>match nthL h0 sl with
    | some none=>match o.guard with
     | none=>stepS P G o ⟨t0,h0⟩ sl fun v ms _=>qcc ⟨t0,h0⟩ o.dst v ms fun st'=>litK (sl+qbj o.op) fun sl'=>markK listed k fun listed'=>wpX P G ops fuel listed' sl' st' K
     | some _=>False
    | _=>False) ops listed 0
theorem qpk:∀ {l:List Bool},allB l=true→∀ i,i<l.length→l[i]?=some true
 | [],_,i,hi=>by simp at hi
 | b::r,h,i,hi=>by
  have h:(b&&allB r)=true:=h
  simp only[Bool.and_eq_true] at h
  cases i with
  | zero=>simp[h.1]
  | succ i=>
   show r[i]?=some true
   exact qpk (l:=r) h.2 i (by simp only[List.length_cons] at hi;omega)
theorem qs3:∀ {l:List Bool},allB l=false→∃ i:Nat,l[i]?=some false
 | [],h=>by cases h
 | b::r,h=>by
  cases b with
  | false=>exact⟨0,rfl⟩
  | true=>
   have h:(true&&allB r)=false:=h
   obtain⟨i,hi⟩:=qs3 (l:=r) (by simpa using h)
   exact⟨i+1,by simpa using hi⟩
theorem qme:∀ {l:List Bool} {n:Nat} {K:List Bool→Prop},markK l n K→K (l.set n true)
 | [],n,K,h=>h
 | b::r,0,K,h=>h
 | b::r,n+1,K,h=>qme (l:=r) (n:=n) h
theorem qs4 {listed:List Bool}:∀ {es:List Edge},(∀ e∈es,Region.binds .any e=true→listed[e.on]?=some true)→mayB listed es=true
 | [],_=>rfl
 | e::r,h=>by
  have h1:=qs4 (es:=r) fun x hx=>h x (List.mem_cons_of_mem _ hx)
  show((!Region.binds .any e||_)&&mayB listed r)=true
  rw[h1,Bool.and_true]
  cases hb:Region.binds .any e with
  | false=>rfl
  | true=>rw[qbb,h e (List.mem_cons_self ..) hb];rfl
theorem qmf {listed:List Bool} {F:Nat→Oper→Prop}:∀ {os:List Oper} {bs:List Bool} {k:Nat},eachX listed F os bs k→∀ (j:Nat) (o:Oper),os[j]?=some o→bs[j]?=some false→mayB listed o.after.toList=true→F (k+j) o
 | [],_,_,_,j,o,hj,_,_=>by simp at hj
 | o::os,[],_,_,j,_,_,hb,_=>by simp at hb
 | o::os,b::bs,k,h,j,o',hj,hb,hm=>by
  unfold eachX at h
  cases j with
  | zero=>
   simp only[List.getElem?_cons_zero,Option.some.injEq] at hj hb
   subst hj hb
   rw[show(!false&&mayB listed o.after.toList)=true by rw[hm];rfl] at h
   exact qbl (K:=fun k=>F k o) h.out.1
  | succ j=>
   have h':eachX listed F os bs (k+1):=by
    split at h
    ·exact h.out.2
    ·exact h
   have:=qmf h' j o' (by simpa using hj) (by simpa using hb) hm
   rw[show k+1+j=k+(j+1) by omega] at this
   exact this
theorem qgu:∀ {l:List Oper},(falses l).length=l.length
 | []=>rfl
 | _::r=>by show(falses r).length+1=_;rw[qgu];rfl
theorem qjq:∀ {l:List Oper} {i:Nat},i<l.length→(falses l)[i]?=some false
 | [],i,h=>by simp at h
 | _::r,0,_=>rfl
 | _::r,i+1,h=>by
  show(falses r)[i]?=some false
  exact qjq (l:=r) (i:=i) (by simp only[List.length_cons] at h;omega)
theorem q1d {P:Program} {G:Tys} {ops:Array Oper} {Q:Exit→Act→World→Prop} {X:Ctx} (hG:TysOK P G) (he:qb0 ops.toList 0=true) {K:St→Prop} (hq:∀ s ρ a w,K s→Rel X ρ s a w→Q .normal a w) :
  ∀ (fuel:Nat) (listed:List Bool) (sl:Nat) (st:St),wpX P G ops.toList fuel listed sl st K→listed.length=ops.size→∀ ρ a w,Rel X ρ st a w→wpAny P .any ops Q fuel listed.toArray a w:=by
 have full:∀ {listed:List Bool},allB listed=true→listed.length=ops.size→Region.ready .any ops listed.toArray=[]:=fun {listed} h hl=>by
  apply List.eq_nil_iff_forall_not_mem.2
  intro j hj
  obtain⟨o,h1,h2,_⟩:=qf1 (listed:=listed.toArray) (by simpa using hl) hj
  have hlt:=(Array.getElem?_eq_some_iff.1 h1).1
  have:=qpk h j (by omega)
  simp[Array.getD_eq_getD_getElem?,this] at h2
 have open_:∀ {listed:List Bool},allB listed=false→listed.length=ops.size→Region.ready .any ops listed.toArray≠[]:=fun {listed} h hl hr=>by
  obtain⟨i,hi⟩:=qs3 h
  have hlt:=(List.getElem?_eq_some_iff.1 hi).1
  have:=qpe he (listed:=listed.toArray) (by simpa using hl) hr i (by omega)
  simp[Array.getD_eq_getD_getElem?,hi] at this
 intro fuel
 induction fuel with
 | zero=>
  intro listed sl st h hl ρ a w R
  unfold wpX at h
  split at h
  ·rename_i hb;exact⟨full hb hl,hq _ _ _ _ h R⟩
  ·exact h.elim
 | succ fuel ih=>
  intro listed sl st h hl ρ a w R
  unfold wpX at h
  split at h
  ·rename_i hb
   refine⟨fun _=>hq _ _ _ _ h R,fun i hi=>?_⟩
   rw[full hb hl] at hi;cases hi
  ·rename_i hb
   refine⟨fun hr=>absurd hr (open_ hb hl),fun i hi=>?_⟩
   obtain⟨o,h1,h2,h3⟩:=qf1 (listed:=listed.toArray) (by simpa using hl) hi
   have hlt:=(Array.getElem?_eq_some_iff.1 h1).1
   have hfi:listed[i]?=some false:=by
    have hx:listed[i]?=some listed[i]:=List.getElem?_eq_getElem (by omega)
    simp only[Array.getD_eq_getD_getElem?,List.getElem?_toArray,hx,Option.getD_some] at h2
    rw[hx,h2]
   have hF:=qmf h i o (by simpa using h1) hfi (qs4 fun e hee hbe=>by
    have:=h3 e hee hbe
    simp only[Array.getD_eq_getD_getElem?,List.getElem?_toArray] at this
    cases hx:listed[e.on]? with
    | none=>rw[hx] at this;cases this
    | some b=>rw[hx] at this;simp only[Option.getD_some] at this;rw[this])
   rw[Nat.zero_add] at hF
   obtain⟨t0,h0⟩:=st
   simp only at hF
   rw[qbb] at hF
   split at hF
   ·rename_i hs
    split at hF
    ·rename_i hg
     obtain⟨v,ms,rh,hok,hk⟩:=qfx hG hs hF
     have hk:=qme (qbl (K:=fun sl'=>markK listed i fun listed'=>wpX P G ops.toList fuel listed' sl' _ K) (qc5 hk))
     unfold wpOp
     rw[h1]
     have hw:Region.wanted o (yielded ops a.tmps)=true:=by
      unfold Region.wanted;rw[hg]
     simp only
     rw[if_pos hw]
     refine .inl (hok.here X ρ a w R _ _ fun ρ' x w' ha=>?_)
     have hset:listed.toArray.setIfInBounds i true=(listed.set i true).toArray:=by simp
     rw[hset]
     exact ih _ _ _ hk (by simpa using hl) ρ' _ _ (qd5 R ha)
    ·exact hF.elim
   ·exact hF.elim
def OrdN (P:Program) (G:Tys) (ops:List Oper) (sl:Nat) (st:St) (K:St→Prop):Prop:=
 qb0 ops 0=true∧∃ s0:St,wpX P G ops ops.length (falses ops) sl st (fun s=>match s with
  | ⟨t,h1⟩=>trimK h1 fun h'=>N ((⟨t,h'⟩:St)=s0))∧K s0
noncomputable def regK (P:Program) (G:Tys) (ops:Array Oper) (draw:Bool) (st:St) (K:St→Prop):Prop:=
 match st with
 | ⟨t0,h0⟩=>appK h0 (qz2 ops.toList) fun h=>litK h0.length fun sl=>match draw with
  | false=>wpQ P G ops.toList ops.toList sl ⟨t0,h⟩ fun s=>match s with
   | ⟨t,h1⟩=>trimK h1 fun h'=>K ⟨t,h'⟩
  | true=>match appB ops.toList with
   | false=>match entB ops.toList with
    | false=>altK (callB ops.toList) (wpR P G ops.toList ops.toList sl ⟨t0,h⟩ [] fun s acc=>match s with
      | ⟨t,h1⟩=>trimK h1 fun h'=>N (Obl (ql8 ops.toList acc.reverse=true∧qb0 ops.toList 0=true) (K ⟨t,h'⟩)))
     (planA P G ops.toList sl ⟨t0,h⟩ fun s=>match s with
      | ⟨t,h1⟩=>trimK h1 fun h'=>K ⟨t,h'⟩)
    | true=>N (OrdN P G ops.toList sl ⟨t0,h⟩ K)
   | true=>planA P G ops.toList sl ⟨t0,h⟩ fun s=>match s with
    | ⟨t,h1⟩=>trimK h1 fun h'=>K ⟨t,h'⟩
section
variable {P:Program} {G:Tys}
theorem q1e {ops:Array Oper} {draw:Bool} {st:St} {K:St→Prop} {id:Nat} {X:Ctx} {Q:Exit→Act→World→Prop} (hG:TysOK P G) (hm:P.follows .mixedOrders=true) (h:regK P G ops draw st K) (hq:∀ s ρ a w,K s→Rel X ρ s a w→Q .normal a w) {ρ:Nat→Nat×Nat} {a:Act} {w:World} (R:Rel X ρ st a w) :
  (Code.region id ops draw).wp P Q a w:=by
 obtain⟨t0,h0⟩:=st
 obtain⟨h1,hs1,h⟩:=qpj h
 have R1:=R.same hs1
 cases draw with
 | false=>
  have h:=qbl (K:=fun sl=>wpQ P G ops.toList ops.toList sl ⟨t0,h1⟩ _) h
  refine wp_region ?_
  rw[List.range_eq_range']
  refine qsr (X:=X) hG (fun s ρ a w hk R'=>?_) ops.toList _ 0 _ h (fun i _=>by simp) ρ a w R1
  obtain⟨t2,h3⟩:=s
  obtain⟨h2,hs2,hk⟩:=qde hk
  exact hq _ ρ a w hk (R'.same hs2)
 | true=>
  have h:=qbl (K:=fun sl=>match appB ops.toList with
   | false=>match entB ops.toList with
    | false=>altK (callB ops.toList) (wpR P G ops.toList ops.toList sl ⟨t0,h1⟩ [] _) (planA P G ops.toList sl ⟨t0,h1⟩ _)
    | true=>N (OrdN P G ops.toList sl ⟨t0,h1⟩ K)
   | true=>planA P G ops.toList sl ⟨t0,h1⟩ _) h
  split at h
  ·split at h
   ·rcases qwz h with h|h
    ·obtain⟨rs,s,ht,h⟩:=qkf hG h
     obtain⟨t2,h3⟩:=s
     obtain⟨h2,hs2,h⟩:=qde h
     obtain⟨⟨hc,he⟩,h⟩:=h.out
     refine wp_region_any hm ?_
     have hc':ql8 ops.toList (feet rs)=true:=by simpa using hc
     refine qss (X:=X) (st':=⟨t2,h3⟩) (ρ:=ρ) ht hc' he (fun ρ a w R'=>hq _ ρ a w h (R'.same hs2)) ?_
     exact⟨R1.defers,R1.size,R1.slot,R1.heap.drew⟩
    ·refine wp_region_any hm ?_
     refine qmd (X:=X) (ρ:=ρ) hG h (fun s ρ a w hk R'=>?_) ⟨R1.defers,R1.size,R1.slot,R1.heap.drew⟩
     obtain⟨t2,h3⟩:=s
     obtain⟨h2,hs2,hk⟩:=qde hk
     exact hq _ ρ a w hk (R'.same hs2)
   ·obtain⟨he,s0,h,k0⟩:=h.out
    refine wp_region_any hm ?_
    have:=q1d (X:=X) (ops:=ops) hG he (Q:=Q) (K:=fun s=>match s with
     | ⟨t,h1⟩=>trimK h1 fun h'=>N ((⟨t,h'⟩:St)=s0)) (fun s ρ a w hk R'=>by
      obtain⟨t2,h3⟩:=s
      obtain⟨h2,hs2,hk⟩:=qde hk
      have hk:=hk.out
      subst hk
      exact hq _ ρ a w k0 (R'.same hs2)) _ _ _ _ h (by rw[qgu];simp) ρ a _ ⟨R1.defers,R1.size,R1.slot,R1.heap.drew⟩
    have hfa:(falses ops.toList).toArray=Array.replicate ops.size false:=by
     apply Array.ext_getElem?
     intro i
     rw[Array.getElem?_replicate,List.getElem?_toArray]
     split
     ·rename_i hi;exact qjq (by simpa using hi)
     ·rename_i hi;exact List.getElem?_eq_none (by rw[qgu];simpa using hi)
    rw[hfa] at this
    simpa using this
  ·refine wp_region_any hm ?_
   refine qmd (X:=X) (ρ:=ρ) hG h (fun s ρ a w hk R'=>?_) ⟨R1.defers,R1.size,R1.slot,R1.heap.drew⟩
   obtain⟨t2,h3⟩:=s
   obtain⟨h2,hs2,hk⟩:=qde hk
   exact hq _ ρ a w hk (R'.same hs2)
def Scoped (F:Nat→Prop) (v:Value):Prop:=∀ ρ ρ',AgreeOn F ρ ρ'→den ρ' v=den ρ v
def qs5 (F:Nat→Prop) (v:Value):Prop:=∀ ρ ρ',AgreeOn F ρ ρ'→den1 ρ' v=den1 ρ v
structure Wk (n0:Nat) (st s:St):Prop where
 len:s.t.length=st.t.length
 slot:∀ (i:Nat) (v:Value),s.t[i]?=some (some v)→st.t[i]?=some (some v)
 chunk:∀ (i:Nat) (c:Chunk),s.h[i]?=some (some c)→∃ d,st.h[i]?=some (some d)∧(c.own=true→d.own=true)∧c.n≤d.n∧(∀ j,j<c.n→c.f j=d.f j)∧(c.x=Ext.none∨c.x=d.x)
 base:∀ i,i<n0→Fil st.h i→Fil s.h i
 scope:(∀ i,Fil st.h i→Fil s.h i)∨((∀ (i:Nat) (v:Value),s.t[i]?=some (some v)→Scoped (Fil s.h) v)∧∀ (i:Nat) (c:Chunk),s.h[i]?=some (some c)→∀ j,j<c.n→qs5 (Fil s.h) (c.f j))
theorem Wk.refl (n0:Nat) (st:St):Wk n0 st st:=⟨rfl,fun _ _ h=>h,fun i c h=>⟨c,h,id,nlr _,fun _ _=>rfl,.inr rfl⟩,fun _ _ h=>h,.inl fun _ h=>h⟩
theorem Wk.rel {X:Ctx} {ρ:Nat→Nat×Nat} {st s:St} {a:Act} {w:World} (h:Wk X.n0 st s) (R:Rel X ρ st a w):Rel X ρ s a w:=by
 have fil:∀ i,Fil s.h i→Fil st.h i:=fun i ⟨c,hc⟩=>by obtain⟨d,hd,_⟩:=h.chunk i c hc;exact⟨d,hd⟩
 refine⟨R.defers,R.size.trans h.len.symm,fun i v hi=>?_,R.heap.evo,fun i hi=>⟨h.base i hi (R.heap.base i hi).1,(R.heap.base i hi).2⟩,fun i c hi=>?_,fun i c hi j hj=>?_,fun i c hi ho j hj=>?_,fun i c j d hi ho hj hne=>?_,?_⟩
 ·obtain⟨x,hx,hd⟩:=R.slot i v (h.slot i v hi)
  refine⟨x,hx,?_⟩
  rcases h.scope with hs|⟨hs,_⟩
  ·exact hd.more (AgreeOn.refl _ _) hs
  ·exact fun r hr=>(hs i v hi ρ r hr).trans hd.self
 ·obtain⟨d,hd,_⟩:=h.chunk i c hi
  exact R.heap.lt i d hd
 ·obtain⟨d,hd,_,hn,hf,_⟩:=h.chunk i c hi
  obtain⟨x,hx,hxd⟩:=R.heap.cell i d hd j (Nat.lt_of_lt_of_le hj hn)
  refine⟨x,hx,?_⟩
  rcases h.scope with hs|⟨_,hs⟩
  ·rw[hf j hj];exact hxd.more (AgreeOn.refl _ _) hs
  ·exact fun r hr=>(hs i c hi j hj ρ r hr).trans (by rw[hf j hj];exact hxd.self)
 ·obtain⟨d,hd,hod,hn,hf,_⟩:=h.chunk i c hi
  exact R.heap.own i d hd (hod ho) j (Nat.lt_of_lt_of_le hj hn)
 ·obtain⟨c',hc',hoc,_⟩:=h.chunk i c hi
  obtain⟨d',hd',_⟩:=h.chunk j d hj
  exact R.heap.sep i c' j d' hc' (hoc ho) hd' hne
 ·obtain⟨S,E⟩:=R.heap.ext
  exact E.less fun i c hi=>by
   obtain⟨d,hd,_,hn,_,hx⟩:=h.chunk i c hi
   exact⟨rfl,d,hd,hn,hx⟩
def Wkg (n0:Nat) (st s:St):Prop:=∀ (X:Ctx) (ρ:Nat→Nat×Nat) (a:Act) (w:World),X.n0=n0→Rel X ρ st a w→∃ ρ',Rel X ρ' s a w
theorem Wk.g {n0:Nat} {st s:St} (h:Wk n0 st s):Wkg n0 st s:=fun X ρ a w hn R=>⟨ρ,by subst hn;exact h.rel R⟩
def thenQ (K:St→Prop) (Q:Exit→St→Prop):Exit→St→Prop
 | .normal,st=>K st
 | e,st=>Q e st
def qz3 (id:Nat) (Q:Exit→St→Prop):Exit→St→Prop
 | .exit i,st=>match Nat.beq i id with
  | true=>Q .normal st
  | false=>Q (.exit i) st
 | e,st=>Q e st
def Lift (X:Ctx) (Q:Exit→St→Prop):Exit→Act→World→Prop:=fun e a w=>∃ ρ s,Rel X ρ s a w∧Q e s
def Runs0 (P:Program) (n0:Nat) (c:Code) (Q:Exit→St→Prop) (st:St):Prop:=∀ X:Ctx,X.n0=n0→∀ ρ a w,Rel X ρ st a w→c.wp P (Lift X Q) a w
def q3u (Q:Exit→St→Prop):Exit→St→Prop
 | .goto _,_=>False
 | e,st=>Q e st
def qz4 (P:Program) (n0:Nat) (c:Code) (Q:Exit→St→Prop):Exit→St→Prop
 | .goto l,st=>match findLabel c l with
  | some r=>N (Runs0 P n0 r (q3u Q) st)
  | none=>False
 | e,st=>Q e st
theorem qkl {P:Program} {Q:Exit→Act→World→Prop} {a:Act} {w:World} {c:Code} (h:c.wp P (fun e a w=>match e with
  | .goto l=>∃ r,findLabel c l=some r∧r.wp P (Exit.noGoto Q) a w
  | e=>Q e a w) a w):(Code.scope c).wp P Q a w:=by
 intro b k cs
 obtain⟨e,a₁,w₁,hq,harr⟩:=h b (.inScope c::k) cs
 cases e with
 | normal=>exact⟨.normal,a₁,w₁,hq,.head step_scope (Steps.trans harr (.one step_inScope))⟩
 | exit id=>exact⟨.exit id,a₁,w₁,hq,fun k' hk=>.head step_scope (harr k' (by simp[exitTo,hk]))⟩
 | goto l=>
  obtain⟨r,hf,hr⟩:=hq
  have hg:gotoIn l (.inScope c::k)=some (.code r :: .inScope c::k):=by simp[gotoIn,hf]
  obtain⟨e₂,a₂,w₂,hq₂,harr₂⟩:=hr b (.inScope c::k) cs
  have h0:=Steps.trans (Steps.one step_scope) (harr _ hg)
  cases e₂ with
  | normal=>exact⟨.normal,a₂,w₂,hq₂,Steps.trans h0 (Steps.trans harr₂ (.one step_inScope))⟩
  | exit id=>exact⟨.exit id,a₂,w₂,hq₂,fun k' hk=>Steps.trans h0 (harr₂ k' (by simp[exitTo,hk]))⟩
  | goto l=>exact hq₂.elim
  | ret=>exact⟨_,a₂,w₂,hq₂,.of_steps h0 harr₂⟩
  | panic ch=>exact⟨_,a₂,w₂,hq₂,.of_steps h0 harr₂⟩
  | outgrown=>exact⟨_,a₂,w₂,hq₂,.of_steps h0 harr₂⟩
 | ret=>exact⟨_,a₁,w₁,hq,.of_steps (.one step_scope) harr⟩
 | panic ch=>exact⟨_,a₁,w₁,hq,.of_steps (.one step_scope) harr⟩
 | outgrown=>exact⟨_,a₁,w₁,hq,.of_steps (.one step_scope) harr⟩
def LoopN (P:Program) (G:Tys) (n0:Nat) (c:Code) (B:(Exit→St→Prop)→St→Prop) (Q:Exit→St→Prop) (st:St):Prop:=
 ∃ (α:Type) (mk:α→St) (inv:α→Prop) (μ:α→Nat) (nx:α→St→Prop),(∀ x s,nx x s→∃ y,inv y∧Wkg n0 s (mk y)∧μ y<μ x)∧(∃ x,inv x∧Wkg n0 st (mk x))∧∀ x,inv x→B (thenQ (nx x) Q) (mk x)
abbrev CodeT:=(Exit→St→Prop)→St→Prop
def wpSeq (A B:CodeT):CodeT:=fun Q st=>A (thenQ (B Q) Q) st
def qs6 (c:Operand) (A B:CodeT):CodeT:=fun Q st=>
 match st with
 | ⟨t0,h0⟩=>match c with
  | .tmp t=>getK t0 t fun g=>match g with
   | .bool b=>N (Fork b (setK t0 t (.bool true) fun l=>A Q ⟨l,h0⟩) (setK t0 t (.bool false) fun l=>B Q ⟨l,h0⟩))
   | _=>False
  | .const (.bool true)=>A Q ⟨t0,h0⟩
  | .const (.bool false)=>B Q ⟨t0,h0⟩
  | _=>False
def q1f (id:Nat) (A:CodeT):CodeT:=fun Q st=>A (qz3 id Q) st
def q3v (P:Program) (G:Tys) (n0:Nat) (c:Code) (A:CodeT):CodeT:=fun Q st=>N (LoopN P G n0 c A Q st)
def q1g (P:Program) (n0:Nat) (c:Code) (A:CodeT):CodeT:=fun Q st=>A (qz4 P n0 c Q) st
noncomputable def wpC (P:Program) (G:Tys) (n0:Nat) (c:Code):CodeT:=
 Code.rec (motive:=fun _=>CodeT) (fun Q st=>Q .normal st) (fun _ ops draw Q st=>regK P G ops draw st (Q .normal)) (fun _ _ A B=>wpSeq A B) (fun c _ _ A B=>qs6 c A B) (fun id _ A=>q1f id A) (fun c A=>q3v P G n0 c A)
  (fun _ _ _ _ _ _ _ _=>False) (fun id Q st=>Q (.exit id) st) (fun c A=>q1g P n0 c A) (fun _ Q st=>Q .normal st) (fun l Q st=>Q (.goto l) st) (fun Q st=>Q .ret st) (fun _ _ _=>False) c
theorem qs7 (hG:TysOK P G) (hm:P.follows .mixedOrders=true) (X:Ctx):∀ (c:Code) (Q:Exit→St→Prop) (st:St),wpC P G X.n0 c Q st→∀ ρ a w,Rel X ρ st a w→c.wp P (Lift X Q) a w:=by
 intro c
 induction c with
 | skip=>exact fun Q st h ρ a w R=>wp_skip ⟨ρ,st,R,h⟩
 | label l=>exact fun Q st h ρ a w R=>wp_label ⟨ρ,st,R,h⟩
 | region id ops draw=>exact fun Q st h ρ a w R=>q1e (X:=X) hG hm h (fun s ρ a w hk R'=>⟨ρ,s,R',hk⟩) R
 | seq x y ihx ihy=>
  intro Q st h ρ a w R
  refine wp_seq (wp_mono (ihx _ _ h ρ a w R) ?_)
  rintro e a' w' ⟨ρ',s,R',hq⟩
  cases e with
  | normal=>exact ihy Q s hq ρ' a' w' R'
  | _=>exact⟨ρ',s,R',hq⟩
 | cond c x y ihx ihy=>
  intro Q st h ρ a w R
  obtain⟨t0,h0⟩:=st
  cases c with
  | tmp t=>
   have h:qs6 (.tmp t) (wpC P G X.n0 x) (wpC P G X.n0 y) Q ⟨t0,h0⟩:=h
   unfold qs6 at h
   simp only at h
   obtain⟨g,hg,h⟩:=qcy (l:=t0) (n:=t) h
   split at h
   ·rename_i b
    obtain⟨z,hz,hzd⟩:=R.slot t _ hg
    have hzb:z=.bool b:=hzd.self.symm
    have he:a.eval (.tmp t)=.bool b:=by simp[Act.eval,Array.getD_eq_getD_getElem?,hz,hzb]
    have h:=h.out
    refine wp_cond_split he (fun e=>?_) (fun e=>?_)
    ·subst e
     have h:=qcz (K:=fun l=>wpC P G X.n0 x Q ⟨l,h0⟩) (h.1 rfl)
     rw[qe3 hg] at h
     exact ihx Q ⟨t0,h0⟩ h ρ a w R
    ·subst e
     have h:=qcz (K:=fun l=>wpC P G X.n0 y Q ⟨l,h0⟩) (h.2 rfl)
     rw[qe3 hg] at h
     exact ihy Q ⟨t0,h0⟩ h ρ a w R
   ·exact h.elim
  | const v=>
   cases v with
   | bool b=>
    cases b with
    | true=>exact wp_cond_true rfl (ihx Q ⟨t0,h0⟩ h ρ a w R)
    | false=>exact wp_cond_false rfl (ihy Q ⟨t0,h0⟩ h ρ a w R)
   | _=>exact h.elim
  | _=>exact h.elim
 | block id c ih=>
  intro Q st h ρ a w R
  refine wp_block (wp_mono (ih _ _ h ρ a w R) ?_)
  rintro e a' w' ⟨ρ',s,R',hq⟩
  cases e with
  | exit i=>
   simp only[qz3] at hq
   simp only[Exit.inBlock]
   cases hb:Nat.beq i id with
   | true=>
    rw[hb] at hq
    have:=Nat.eq_of_beq_eq_true hb
    rw[if_pos this]
    exact⟨ρ',s,R',hq⟩
   | false=>
    rw[hb] at hq
    have:i≠id:=fun e=>by subst e;rw[Nat.beq_refl] at hb;cases hb
    rw[if_neg this]
    exact⟨ρ',s,R',hq⟩
  | _=>exact⟨ρ',s,R',hq⟩
 | loop c ih=>
  intro Q st h ρ a w R
  obtain⟨α,mk,inv,μ,nx,hnx,⟨x0,hx0,hw0⟩,hr⟩:=N.out h
  intro b k cs
  have key:∀ n x ρ a w,μ x=n→inv x→Rel X ρ (mk x) a w→
    ∃ e a' w',Lift X Q e a' w'∧Arrives P (lone (b.at a (.code c :: .inLoop c::k)) cs w) b k cs e a' w':=by
   intro n
   induction n using Nat.strongRecOn with
   | _ n ihn=>
    intro x ρ a w hn hx R
    obtain⟨e,a₁,w₁,⟨ρ₁,s,R₁,hq⟩,harr⟩:=ih _ _ (hr x hx) ρ a w R b (.inLoop c::k) cs
    cases e with
    | normal=>
     obtain⟨y,hy,hwk,hlt⟩:=hnx _ _ hq
     obtain⟨ρ₂,R₂⟩:=hwk X ρ₁ a₁ w₁ rfl R₁
     obtain⟨e₂,a₂,w₂,hq₂,harr₂⟩:=ihn (μ y) (hn▸hlt) y ρ₂ a₁ w₁ rfl hy R₂
     exact⟨e₂,a₂,w₂,hq₂,.of_steps (Steps.trans harr (.one step_inLoop)) harr₂⟩
    | exit id=>exact⟨_,a₁,w₁,⟨ρ₁,s,R₁,hq⟩,.pass (x:=.inLoop c) rfl (fun _ _=>.inl (by simp)) harr⟩
    | goto l=>exact⟨_,a₁,w₁,⟨ρ₁,s,R₁,hq⟩,.pass (x:=.inLoop c) rfl (fun _ _=>.inl (by simp)) harr⟩
    | ret=>exact⟨_,a₁,w₁,⟨ρ₁,s,R₁,hq⟩,.pass (x:=.inLoop c) rfl (fun _ _=>.inl (by simp)) harr⟩
    | panic ch=>exact⟨_,a₁,w₁,⟨ρ₁,s,R₁,hq⟩,.pass (x:=.inLoop c) rfl (fun _ _=>.inl (by simp)) harr⟩
    | outgrown=>exact⟨_,a₁,w₁,⟨ρ₁,s,R₁,hq⟩,.pass (x:=.inLoop c) rfl (fun _ _=>.inl (by simp)) harr⟩
  obtain⟨ρ₀,R₀⟩:=hw0 X ρ a w rfl R
  obtain⟨e,a',w',hq,harr⟩:=key _ x0 ρ₀ a w rfl hx0 R₀
  exact⟨e,a',w',hq,.of_steps (.one step_loop) harr⟩
 | exit id=>exact fun Q st h ρ a w R=>wp_exit ⟨ρ,st,R,h⟩
 | scope c ih=>
  intro Q st h ρ a w R
  refine qkl (wp_mono (ih _ _ h ρ a w R) ?_)
  rintro e a' w' ⟨ρ',s,R',hq⟩
  cases e with
  | goto l=>
   simp only[qz4] at hq
   split at hq
   ·rename_i r hr
    refine⟨r,hr,wp_mono (N.out hq X rfl ρ' a' w' R') ?_⟩
    rintro e a2 w2 ⟨ρ2,s2,R2,hq2⟩
    cases e with
    | goto l=>exact hq2.elim
    | _=>exact⟨ρ2,s2,R2,hq2⟩
   ·exact hq.elim
  | _=>exact⟨ρ',s,R',hq⟩
 | goto l=>exact fun Q st h ρ a w R=>wp_goto ⟨ρ,st,R,h⟩
 | ret=>exact fun Q st h ρ a w R=>wp_ret ⟨ρ,st,R,h⟩
 | _=>exact fun Q st h=>h.elim
theorem N.goto {n0:Nat} {c:Code} {Q:Exit→St→Prop} {st:St} (hG:TysOK P G) (hm:P.follows .mixedOrders=true) (h:wpC P G n0 c Q st):N (Runs0 P n0 c Q st):=N.mk fun X hX ρ a w R=>by
 subst hX;exact qs7 hG hm X c Q st h ρ a w R
end
open Go Go.RowKit
abbrev ResT:=St→(List Value→Prop)→Prop
def resK1 (G:Tys) (r:ResultVar) (ih:ResT):ResT:=fun st K=>
 match st with
 | ⟨t0,h0⟩=>match r with
  | .tmp t=>getK t0 t fun v=>ih ⟨t0,h0⟩ fun vs=>K (v::vs)
  | .cell t ty=>getK t0 t fun p=>match p with
   | .pointer (some ⟨i,f,some s⟩)=>getH h0 i fun c=>lookT G ty fun ti d=>loadK c f s (qcq d) ti.size fun v=>ih ⟨t0,h0⟩ fun vs=>K (v::vs)
   | _=>False
noncomputable def resK (G:Tys) (rs:List ResultVar):ResT:=List.rec (motive:=fun _=>ResT) (fun _ K=>K []) (fun r _ ih=>resK1 G r ih) rs
def tup2 (v:Value):Bool:=
 match v with
 | .tuple _=>false
 | _=>true
noncomputable def retK (P:Program) (G:Tys) (rs:List ResultVar) (st:St) (K:Value→Prop):Prop:=
 resK G rs st fun vs=>match vs with
  | [v]=>K v
  | vs=>match vs.all tup2 with
   | true=>K (.tuple ⟨vs⟩)
   | false=>False
section
variable {P:Program} {G:Tys}
theorem qnq {X:Ctx} {ρ:Nat→Nat×Nat} {st:St} {a:Act} {w:World} {t:TypeId} {i f s:Nat} {c:Chunk} {ti:TypeInfo} {d:TypeDesc} {v x:Value} (R:Rel X ρ st a w) (hx:Den (Fil st.h) ρ (.pointer (some ⟨i,f,some s⟩)) x) (hi:st.h[i]?=some (some c))
  (h1:P.info? t=some ti) (h2:P.underlying t=some d) (hr:Reads c f (qcq d) ti.size v):∃ y,(do loadVar t (←asAddr x):Sem Value).run P w=.ok y w∧Den (Fil st.h) ρ v y:=by
 have hx':x=.pointer (some ⟨(ρ i).1,(ρ i).2+f,none⟩):=hx.self.symm
 cases hd:qcq d with
 | false=>
  rw[hd] at hr
  obtain⟨hl,hv,hf⟩:=hr
  obtain⟨y,hy,hyd⟩:=R.heap.cell i c hi f hl
  refine⟨y,?_,by rw[hf] at hyd;exact Den.of_one hyd hv⟩
  simp only[hx',asAddr,loadVar,Sem.run_bind,Sem.run_pure,Result.andThen_ok,qb9 h2,hd,Bool.false_eq_true,if_false,run_load,hy]
 | true=>
  rw[hd] at hr
  obtain⟨hl,cs,rfl,hn,hf⟩:=hr
  have hcell:∀ j,(hj:j<cs.toList.length)→∃ y,w.cell? ⟨(ρ i).1,(ρ i).2+(f+j),none⟩=some y∧Den1 (Fil st.h) ρ cs.toList[j] y:=fun j hj=>by
   obtain⟨y,hy,hyd⟩:=R.heap.cell i c hi (f+j) (by omega)
   have e:=hf j (by omega)
   rw[List.getD_eq_getElem?_getD,List.getElem?_eq_getElem hj] at e
   simp only[Option.getD_some] at e
   rw[e] at hyd
   exact⟨y,hy,hyd⟩
  have hcells:∀ j v,(cs.toList.map (den1 ρ))[j]?=some v→w.cell? ((⟨(ρ i).1,(ρ i).2+f,none⟩:Addr).add j)=some v:=fun j v hv=>by
   have hj:j<cs.toList.length:=by have:=(List.getElem?_eq_some_iff.1 hv).1;simpa using this
   rw[List.getElem?_map,List.getElem?_eq_getElem hj] at hv
   obtain⟨y,hy,hyd⟩:=hcell j hj
   rw[qb4,Nat.add_assoc,hy,←hyd.self]
   exact hv
  have hlen:ti.size=(cs.toList.map (den1 ρ)).length:=by rw[List.length_map,hn]
  refine⟨.agg (cs.map (den1 ρ)),?_,fun r hr=>?_⟩
  ·simp only[hx',asAddr,loadVar,Sem.run_bind,Sem.run_pure,Result.andThen_ok,qb9 h2,hd,if_true,run_sizeOf h1]
   rw[hlen,run_loadCells_list _ _ _ hcells]
   simp only[Result.andThen_ok,Result.ok.injEq,Value.agg.injEq,and_true]
   apply Array.toList_inj.1
   simp
  ·simp only[den,den2,Value.agg.injEq]
   apply Array.toList_inj.1
   rw[Array.toList_map,Array.toList_map]
   apply List.map_congr_left
   intro u hu
   obtain⟨j,hj,he⟩:=List.getElem_of_mem hu
   obtain⟨y,hy,hyd⟩:=hcell j hj
   rw[he] at hyd
   rw[hyd r hr,hyd.self]
def resF (a:Act) (r:ResultVar):Sem Value:=
 match r with
 | .tmp t=>pure (a.tmps.getD t undef)
 | .cell p t=>do loadVar t (←asAddr (a.tmps.getD p undef))
theorem qnr (hG:TysOK P G) {t0:List (Option Value)} {h0:Hp}:∀ {rs:List ResultVar} {K:List Value→Prop},resK G rs ⟨t0,h0⟩ K→∃ vs,K vs∧∀ X ρ a w,Rel X ρ ⟨t0,h0⟩ a w→∃ xs,(rs.mapM (resF a):Sem (List Value)).run P w=.ok xs w∧All2 (Den (Fil h0) ρ) vs xs
 | [],K,h=>⟨[],h,fun X ρ a w R=>⟨[],rfl,trivial⟩⟩
 | .tmp t::r,K,h=>by
  obtain⟨v,hv,h⟩:=qcy (l:=t0) (n:=t) h
  obtain⟨vs,hk,hr⟩:=qnr hG h
  refine⟨_,hk,fun X ρ a w R=>?_⟩
  obtain⟨xs,hx,hd⟩:=hr X ρ a w R
  obtain⟨y,hy,hyd⟩:=R.slot t v hv
  refine⟨y::xs,?_,hyd,hd⟩
  have hy':a.tmps.getD t undef=y:=by rw[Array.getD_eq_getD_getElem?,hy];rfl
  rw[List.mapM_cons,show resF a (.tmp t)=pure (a.tmps.getD t undef) from rfl,hy',Sem.run_bind,Sem.run_pure]
  simp only[Result.andThen_ok,Sem.run_bind,hx,Sem.run_pure]
 | .cell t ty::r,K,h=>by
  obtain⟨p,hp,h⟩:=qcy (l:=t0) (n:=t) h
  split at h
  ·obtain⟨c,hc,h⟩:=qba h
   obtain⟨ti,d,h1,h2,h⟩:=qal hG h
   obtain⟨v,hv,h⟩:=qlx h
   obtain⟨vs,hk,hr⟩:=qnr hG h
   refine⟨_,hk,fun X ρ a w R=>?_⟩
   obtain⟨xs,hx,hd⟩:=hr X ρ a w R
   obtain⟨z,hz,hzd⟩:=R.slot t _ hp
   obtain⟨y,hy,hyd⟩:=qnq (P:=P) R hzd hc h1 h2 hv
   refine⟨y::xs,?_,hyd,hd⟩
   have hz':a.tmps.getD t undef=z:=by rw[Array.getD_eq_getD_getElem?,hz];rfl
   rw[List.mapM_cons,show resF a (.cell t ty)=(do loadVar ty (←asAddr (a.tmps.getD t undef)):Sem Value) from rfl,hz',Sem.run_bind,hy]
   simp only[Result.andThen_ok,Sem.run_bind,hx,Sem.run_pure]
  ·exact h.elim
theorem qs8 (hG:TysOK P G) {st:St} {fn:Func} {K:Value→Prop} (h:retK P G fn.results.toList st K):∃ v,K v∧∀ X ρ a w,Rel X ρ st a w→∃ x,(results fn a.tmps).run P w=.ok x w∧Den (Fil st.h) ρ v x:=by
 obtain⟨t0,h0⟩:=st
 obtain⟨vs,hk,hr⟩:=qnr hG h
 have key:∀ X ρ a w,Rel X ρ ⟨t0,h0⟩ a w→∃ xs:List Value,(results fn a.tmps).run P w=.ok (match xs with
   | [x]=>x
   | xs=>.tuple ⟨xs⟩) w∧All2 (Den (Fil h0) ρ) vs xs:=fun X ρ a w R=>by
  obtain⟨xs,hx,hd⟩:=hr X ρ a w R
  refine⟨xs,?_,hd⟩
  have ef:results fn a.tmps=(do
    let vs ←fn.results.mapM (resF a)
    pure (if h:vs.size=1 then vs[0] else .tuple vs)):=rfl
  rw[ef,Array.mapM_eq_mapM_toList,Sem.run_bind,Sem.run_map,hx]
  simp only[Result.andThen_ok,Sem.run_pure]
  match xs with
  | []=>rfl
  | [x]=>rfl
  | x::y::r=>simp
 split at hk
 ·rename_i v
  refine⟨v,hk,fun X ρ a w R=>?_⟩
  obtain⟨xs,hx,hd⟩:=key X ρ a w R
  match xs,hd with
  | [x],hd=>exact⟨x,hx,hd.1⟩
  | [],hd=>exact hd.elim
  | _::_::_,hd=>exact hd.2.elim
 ·rename_i hne
  cases hb:vs.all tup2 with
  | false=>rw[hb] at hk;exact hk.elim
  | true=>
   rw[hb] at hk
   refine⟨_,hk,fun X ρ a w R=>?_⟩
   obtain⟨xs,hx,hd⟩:=key X ρ a w R
   refine⟨.tuple ⟨xs⟩,?_,?_⟩
   ·rw[hx]
    match xs,vs,hd,hne with
    | [x],[v],_,hne=>exact absurd rfl (hne v)
    | [x],[],hd,_=>exact hd.elim
    | [x],_::_::_,hd,_=>exact hd.2.elim
    | [],_,_,_=>rfl
    | _::_::_,_,_,_=>rfl
   ·intro r hr
    have:∀ (vs xs:List Value),vs.all tup2=true→All2 (Den (Fil h0) ρ) vs xs→vs.map (den2 r)=xs:=by
     intro vs
     induction vs with
     | nil=>intro xs _ h;cases xs with
      | nil=>rfl
      | cons _ _=>exact h.elim
     | cons v vs ih=>
      intro xs hb h
      cases xs with
      | nil=>exact h.elim
      | cons x xs=>
       simp only[List.all_cons,Bool.and_eq_true] at hb
       rw[List.map_cons,ih xs hb.2 h.2]
       congr 1
       rw[←h.1 r hr]
       cases v<;>first|rfl|(simp[tup2] at hb)
    simp only[den,Value.tuple.injEq]
    apply Array.toList_inj.1
    rw[Array.toList_map]
    exact this vs xs hb hd
noncomputable def bodyQ (P:Program) (G:Tys) (fn:Func) (R:Value→St→Prop):Exit→St→Prop
 | .normal,st=>retK P G fn.results.toList st fun v=>R v st
 | .ret,st=>retK P G fn.results.toList st fun v=>R v st
 | _,_=>False
def restK:Nat→(List (Option Value)→Prop)→Prop
 | 0,K=>K []
 | n+1,K=>restK n fun t=>K (none::t)
def initK:List Value→Nat→(List (Option Value)→Prop)→Prop
 | [],n,K=>restK n K
 | v::vs,n,K=>initK vs (n-1) fun t=>K (some v::t)
def initT:List Value→Nat→List (Option Value)
 | [],n=>List.replicate n none
 | v::vs,n=>some v::initT vs (n-1)
theorem qmg:∀ {n:Nat} {K:List (Option Value)→Prop},restK n K→K (List.replicate n none)
 | 0,K,h=>h
 | n+1,K,h=>qmg (n:=n) (K:=fun t=>K (none::t)) h
theorem qmh:∀ {vs:List Value} {n:Nat} {K:List (Option Value)→Prop},initK vs n K→K (initT vs n)
 | [],n,K,h=>qmg h
 | v::vs,n,K,h=>qmh (vs:=vs) (n:=n-1) (K:=fun t=>K (some v::t)) h
theorem qmi:∀ (vs:List Value) (n:Nat),(initT vs n).length=vs.length+(n-vs.length)
 | [],n=>by simp[initT]
 | v::vs,n=>by simp[initT,qmi vs (n-1)];omega
theorem qmj:∀ (vs:List Value) (n i:Nat) (v:Value),(initT vs n)[i]?=some (some v)→vs[i]?=some v
 | [],n,i,v,h=>by simp[initT,List.getElem?_replicate] at h
 | u::vs,n,0,v,h=>by simpa[initT] using h
 | u::vs,n,i+1,v,h=>by simpa using qmj vs (n-1) i v (by simpa[initT] using h)
theorem qpl {α β:Type} {p:α→β→Prop}:∀ {a:List α} {b:List β},All2 p a b→a.length=b.length
 | [],[],_=>rfl
 | [],_::_,h=>h.elim
 | _::_,[],h=>h.elim
 | _::a,_::b,h=>by simp[qpl h.2]
theorem qpm {α β:Type} {p:α→β→Prop}:∀ {a:List α} {b:List β},All2 p a b→∀ (i:Nat) (x:α),a[i]?=some x→∃ y,b[i]?=some y∧p x y
 | [],[],_,i,x,hx=>by simp at hx
 | [],_::_,h,_,_,_=>h.elim
 | _::_,[],h,_,_,_=>h.elim
 | u::a,v::b,h,0,x,hx=>⟨v,rfl,by simp at hx;subst hx;exact h.1⟩
 | u::a,v::b,h,i+1,x,hx=>by simpa using qpm h.2 i x (by simpa using hx)
theorem qe4 {f:FuncId} {fn:Func} {c:Code} {args:Array Value} {w:World} {X:Ctx} {ρ:Nat→Nat×Nat} {h:Hp} {vs:List Value} {R:Value→St→Prop} (hG:TysOK P G) (hm:P.follows .mixedOrders=true) (hf:P.funcs[f]?=some fn) (hb:fn.body=some c)
  (H:HOK X ρ h w) (hx:All2 (Den (Fil h) ρ) vs args.toList) (hwp:initK vs fn.ntmps fun t=>wpC P G X.n0 c (bodyQ P G fn R) ⟨t,h⟩) :
  Calls P f args w fun e w'=>∃ ρ' v st x,e=.returned x∧HOK X ρ' st.h w'∧Den (Fil st.h) ρ' v x∧R v st:=by
 have hwp:=qmh hwp
 refine calls_of_wp hf hb ?_
 have hlen:=qpl hx
 have R0:Rel X ρ ⟨initT vs fn.ntmps,h⟩ { tmps:=args++Array.replicate (fn.ntmps-args.size) undef,defers:=[] } w:=by
  refine⟨rfl,?_,fun i v hi=>?_,H⟩
  ·simp[qmi,hlen]
  ·have hv:=qmj vs fn.ntmps i v hi
   obtain⟨y,hy,hd⟩:=qpm hx i v hv
   refine⟨y,?_,hd⟩
   have hi':i<args.size:=by have:=(List.getElem?_eq_some_iff.1 hy).1;simpa using this
   rw[Array.getElem?_append_left hi']
   simpa using hy
 refine wp_mono (qs7 hG hm X c _ _ hwp ρ _ w R0) ?_
 rintro e a' w' ⟨ρ',s,R',hq⟩
 cases e with
 | normal=>
  obtain⟨v,hk,hr⟩:=qs8 hG hq
  obtain⟨x,hx,hd⟩:=hr X ρ' a' w' R'
  exact⟨R'.defers,x,hx,ρ',v,s,x,rfl,R'.heap,hd,hk⟩
 | ret=>
  obtain⟨v,hk,hr⟩:=qs8 hG hq
  obtain⟨x,hx,hd⟩:=hr X ρ' a' w' R'
  exact⟨R'.defers,x,hx,ρ',v,s,x,rfl,R'.heap,hd,hk⟩
 | _=>exact hq.elim
def qap (v:Value):Bool:=
 match v with
 | .tuple vs=>vs.toList.all qam
 | v=>qam v
theorem qbg {v:Value} (h:qap v=true) (ρ:Nat→Nat×Nat):den ρ v=v:=by
 cases v with
 | tuple vs=>
  simp only[qap,List.all_eq_true] at h
  simp only[den,Value.tuple.injEq]
  apply Array.toList_inj.1
  rw[Array.toList_map]
  exact(List.map_congr_left fun x hx=>qe0 (h x hx) ρ).trans (List.map_id _)
 | _=>(simp only[qap] at h;exact qa0 h ρ)
theorem qs9 {F:Nat→Prop} {ρ:Nat→Nat×Nat}:∀ {vs:List Value},vs.all qam=true→All2 (Den F ρ) vs vs
 | [],_=>trivial
 | v::vs,h=>by
  simp only[List.all_cons,Bool.and_eq_true] at h
  exact⟨Den.plain h.1,qs9 h.2⟩
theorem qe5 {F:Nat→Prop} {ρ:Nat→Nat×Nat}:∀ {vs xs:List Value},vs.all qam=true→All2 (Den F ρ) vs xs→xs=vs
 | [],[],_,_=>rfl
 | [],_::_,_,h=>h.elim
 | _::_,[],_,h=>h.elim
 | v::vs,x::xs,hp,h=>by
  simp only[List.all_cons,Bool.and_eq_true] at hp
  rw[qe5 hp.2 h.2,←h.1.self,qa0 hp.1]
theorem qaf {f:FuncId} {fn:Func} {c:Code} {vs:List Value} {V:Value} (w:World) (hG:TysOK P G) (hm:P.follows .mixedOrders=true) (hf:P.funcs[f]?=some fn) (hb:fn.body=some c) (hp:vs.all qam=true) (hV:qap V=true)
  (hwp:initK vs fn.ntmps fun t=>wpC P G 0 c (bodyQ P G fn fun v _=>N (v=V)) ⟨t,[]⟩):Calls P f ⟨vs⟩ w fun e w'=>e=.returned V∧Below w.heap.size w w':=by
 have H:HOK ⟨w,fun _=>False,0,fun _=>(0,0)⟩ (fun _=>(0,0)) [] w:=⟨Evo.refl _ _,fun i hi=>absurd hi (by simp),fun i c hi=>by simp at hi,fun i c hi=>by simp at hi,fun i c hi=>by simp at hi,fun i c j d hi=>by simp at hi,ExtOK.nil fun i c hi=>by simp at hi⟩
 refine(qe4 (X:=⟨w,fun _=>False,0,fun _=>(0,0)⟩) hG hm hf hb H (qs9 hp) hwp).mono ?_
 rintro e w' ⟨ρ',v,st,x,rfl,H',hd,hv⟩
 have hv:=hv.out
 subst hv
 refine⟨?_,H'.evo.below⟩
 rw[←hd.self,qbg hV]
end
def TysAll (P:Program):Tys→Prop
 | []=>True
 | r::rs=>(P.info? r.1=some r.2.1∧P.underlying r.1=some r.2.2)∧TysAll P rs
theorem TysAll.ok {P:Program}:∀ {G:Tys},TysAll P G→TysOK P G
 | [],_=>fun r hr=>by cases hr
 | q::rs,h=>fun r hr=>by
  rcases List.mem_cons.1 hr with rfl|hr
  ·exact h.1
  ·exact TysAll.ok h.2 r hr
theorem N.forkT {A B:Prop} (h:A):N (Fork true A B):=N.mk ⟨fun _=>h,fun e=>(by cases e)⟩
theorem N.forkF {A B:Prop} (h:B):N (Fork false A B):=N.mk ⟨fun e=>(by cases e),fun _=>h⟩
theorem N.fork {b:Bool} {A B:Prop} (h:b=true→A) (k:b=false→B):N (Fork b A B):=N.mk ⟨h,k⟩
theorem N.forkYes {b:Bool} {A B:Prop} (hb:b=true) (h:A):N (Fork b A B):=N.mk ⟨fun _=>h,fun e=>by rw[hb] at e;cases e⟩
theorem N.forkNo {b:Bool} {A B:Prop} (hb:b=false) (h:B):N (Fork b A B):=N.mk ⟨fun e=>(by rw[hb] at e;cases e),fun _=>h⟩
theorem N.eq {a b:Value} (h:a=b):N (a=b):=N.mk h
theorem N.obl {p A:Prop} (h:p) (k:A):N (Obl p A):=N.mk ⟨h,k⟩
section
variable {P:Program} {G:Tys}
theorem N.call {q:Bool} {g:FuncId} {vs:List Value} {h:Hp} {slot:Nat} {K:Value→List (Nat×Chunk)→List Nat→Prop} {v:Value} {ms:List (Nat×Chunk)} {rh:List Nat} (hc:qad P g vs h v ms rh) (k:K v ms rh):N (CallN q P g vs h slot K):=N.mk (.inl ⟨v,ms,rh,hc,k⟩)
theorem N.callAll {g:FuncId} {vs:List Value} {h:Hp} {slot:Nat} {K:Value→List (Nat×Chunk)→List Nat→Prop} {R:Value→List (Nat×Chunk)→Prop} (hc:CallAll P g vs h R) (k:∀ v ms,R v ms→K v ms []):N (CallN true P g vs h slot K):=N.mk (.inr ⟨rfl,R,hc,k⟩)
theorem qai {g:FuncId} {vs:List Value} {h:Hp} {v:Value} (hp:vs.all qam=true) (hv:qap v=true) (hr:∀ w,(callFunc g ⟨vs⟩).run P w=.ok (.enter g ⟨vs⟩) w) (hc:∀ w,Calls P g ⟨vs⟩ w fun e w'=>e=.returned v∧Below w.heap.size w w'):qad P g vs h v [] []:=
 fun h₂ _ _ X ρ w xs H hx=>by
  obtain rfl:=qe5 hp hx
  refine .inr ⟨hr w,(hc w).mono ?_⟩
  rintro e w' ⟨rfl,hb⟩
  exact⟨v,rfl,ρ,AgreeOn.refl _ _,H.frame hb,fun r _=>qbg hv r⟩
theorem qpn {g:FuncId} {vs:List Value} {h:Hp} {v:Value} (hp:vs.all qam=true) (hv:qap v=true) (hr:∀ w,(callFunc g ⟨vs⟩).run P w=.ok (.value v) w):qad P g vs h v [] []:=
 fun h₂ _ _ X ρ w xs H hx=>by
  obtain rfl:=qe5 hp hx
  exact .inl ⟨v,w,hr w,ρ,AgreeOn.refl _ _,H,fun r _=>qbg hv r⟩
theorem N.load {c:Chunk} {f n:Nat} {agg:Bool} {K:Value→Prop} (v:Value) (h:Reads c f agg n v) (k:K v):N (LoadN c f agg n K):=N.mk ⟨v,h,k⟩
theorem N.store {c:Chunk} {f n:Nat} {v:Value} {K:Chunk→Prop} (d:Chunk) (h:Writes c f n v d) (k:K d):N (qzy c f n v K):=N.mk ⟨d,h,k⟩
theorem N.idx {a:Int} {n:Nat} {K:Nat→Nat→Prop} (j s:Nat) (ha:a=(j:Nat)) (hj:j<n) (k:K j s):N (IdxN a n K):=N.mk ⟨j,s,ha,hj,k⟩
theorem N.bin {op:BinOp} {t:TypeId} {x y:Operand} {a b:Value} {K:Value→Prop} (v:Value) (h:BinIs P op t x y a b v) (k:K v):N (BinN P op t x y a b K):=N.mk ⟨v,h,k⟩
end
def powS (d:Nat):Nat:=match Nat.ble d 255 with
 | true=>2^d
 | false=>Nat.mul (2^255) (2^(d-255))
def maskO:List Oper→Nat
 | []=>0
 | o::os=>match o.dst with
  | some d=>Nat.lor (powS d) (maskO os)
  | none=>maskO os
noncomputable def maskC (c:Code):Nat:=
 Code.rec (motive:=fun _=>Nat) 0 (fun _ ops _=>maskO ops.toList) (fun _ _ a b=>Nat.lor a b) (fun _ _ _ a b=>Nat.lor a b) (fun _ _ a=>a) (fun _ a=>a) (fun _ _ _ _ a b=>Nat.lor a b) (fun _=>0) (fun _ a=>a) (fun _=>0) (fun _=>0) 0 (fun _=>0) c
def findN:List (Nat×Value)→Nat→Option Value
 | [],_=>none
 | (i,v)::r,k=>match Nat.beq i k with
  | true=>some v
  | false=>findN r k
def updT (m:Nat) (sets:List (Nat×Value)):List (Option Value)→Nat→List (Option Value)
 | [],_=>[]
 | x::r,k=>(match findN sets k with
  | some v=>some v
  | none=>match Nat.testBit m k with
   | true=>none
   | false=>x)::updT m sets r (k+1)
def updK (m:Nat) (sets:List (Nat×Value)):List (Option Value)→Nat→(List (Option Value)→Prop)→Prop
 | [],_,K=>K []
 | x::r,k,K=>match findN sets k with
  | some v=>updK m sets r (k+1) fun l=>K (some v::l)
  | none=>match Nat.testBit m k with
   | true=>updK m sets r (k+1) fun l=>K (none::l)
   | false=>updK m sets r (k+1) fun l=>K (x::l)
theorem updK_iff {m:Nat} {sets:List (Nat×Value)}:∀ {t:List (Option Value)} {k:Nat} {K:List (Option Value)→Prop},updK m sets t k K↔K (updT m sets t k)
 | [],k,K=>Iff.rfl
 | x::r,k,K=>by
  simp only[updK,updT]
  cases findN sets k with
  | some v=>exact updK_iff
  | none=>
   cases Nat.testBit m k with
   | true=>exact updK_iff
   | false=>exact updK_iff
def ChunkLe (c' c:Chunk):Prop:=(c'.own=true→c.own=true)∧c'.n≤c.n∧(∀ j,j<c'.n→c'.f j=c.f j)∧(c'.x=Ext.none∨c'.x=c.x)
theorem ChunkLe.mk {c' c:Chunk} (h1:c'.own=true→c.own=true) (h2:c'.n≤c.n) (h3:∀ j,j<c'.n→c'.f j=c.f j) (h4:c'.x=Ext.none:=by rfl):ChunkLe c' c:=⟨h1,h2,h3,.inl h4⟩
theorem ChunkLe.of {o:Bool} {n:Nat} {p q:List (Nat×Nat×Value)} (h:p=q):ChunkLe ⟨o,n,p⟩ ⟨o,n,q⟩:=by subst h;exact⟨id,nlr _,fun _ _=>rfl,.inl rfl⟩
theorem ChunkLe.refl (c:Chunk):ChunkLe c c:=⟨id,nlr _,fun _ _=>rfl,.inr rfl⟩
def filB (h:Hp) (i:Nat):Bool:=
 match nthL h i with
 | some (some _)=>true
 | _=>false
theorem filB_iff {h:Hp} {i:Nat}:filB h i=true↔Fil h i:=by
 unfold filB Fil
 rw[qbb]
 cases h[i]? with
 | none=>simp
 | some c=>cases c<;>simp
def Safe1 (h:Hp) (v:Value):Prop:=
 match v with
 | .pointer (some ⟨i,_,some _⟩)=>filB h i=true
 | .slice (some ⟨i,_,some _⟩) _ _=>filB h i=true
 | .map (some i)=>filB h i=true
 | .func _ _ _=>False
 | _=>True
def Safe (h:Hp) (v:Value):Prop:=
 match v with
 | .agg cs=>∀ x∈cs.toList,Safe1 h x
 | .tuple _=>False
 | v=>Safe1 h v
theorem Safe1.inScope {h:Hp} {v:Value} (hs:Safe1 h v):qs5 (Fil h) v:=fun ρ ρ' ha=>by
 cases v with
 | pointer a=>cases a with
  | none=>rfl
  | some a=>
   obtain⟨i,o,s⟩:=a
   cases s with
   | none=>rfl
   | some s=>have:=ha i (filB_iff.1 hs);simp[den1,den0,denA,this]
 | slice a l c=>cases a with
  | none=>rfl
  | some a=>
   obtain⟨i,o,s⟩:=a
   cases s with
   | none=>rfl
   | some s=>have:=ha i (filB_iff.1 hs);simp[den1,den0,denA,this]
 | func f x y=>exact hs.elim
 | map a=>cases a with
  | none=>rfl
  | some i=>have:=ha i (filB_iff.1 hs);simp[den1,den0,this]
 | iface t v=>exact qj9 _ _ _ _
 | _=>rfl
theorem Safe.inScope {h:Hp} {v:Value} (hs:Safe h v):Scoped (Fil h) v:=fun ρ ρ' ha=>by
 cases v with
 | agg cs=>
  simp only[den,den2,Value.agg.injEq]
  apply Array.toList_inj.1
  rw[Array.toList_map,Array.toList_map]
  exact List.map_congr_left fun x hx=>(hs x hx).inScope ρ ρ' ha
 | tuple vs=>exact hs.elim
 | _=>(simp only[Safe] at hs;exact Safe1.inScope hs ρ ρ' ha)
def dropB:Hp→Hp→Bool
 | some _::a,some _::b=>dropB a b
 | none::a,_::b=>dropB a b
 | some _::_,none::_=>true
 | some _::_,[]=>true
 | none::a,[]=>dropB a []
 | [],_=>false
theorem qet:∀ {a b:Hp},dropB a b=false→∀ i,Fil a i→Fil b i
 | some _::a,some d::b,h,0,_=>⟨d,rfl⟩
 | some _::a,some d::b,h,i+1,hf=>by obtain⟨c,hc⟩:=qet (a:=a) (b:=b) h i (by obtain⟨c,hc⟩:=hf;exact⟨c,by simpa using hc⟩);exact⟨c,by simpa using hc⟩
 | none::a,_::b,h,0,hf=>by obtain⟨c,hc⟩:=hf;simp at hc
 | none::a,_::b,h,i+1,hf=>by
  obtain⟨c,hc⟩:=qet (a:=a) (b:=b) (by cases ‹Option Chunk›<;>exact h) i (by obtain⟨c,hc⟩:=hf;exact⟨c,by simpa using hc⟩)
  exact⟨c,by simpa using hc⟩
 | some _::_,none::_,h,_,_=>by simp[dropB] at h
 | some _::_,[],h,_,_=>by simp[dropB] at h
 | none::a,[],h,0,hf=>by obtain⟨c,hc⟩:=hf;simp at hc
 | none::a,[],h,i+1,hf=>by
  obtain⟨c,hc⟩:=qet (a:=a) (b:=[]) h i (by obtain⟨c,hc⟩:=hf;exact⟨c,by simpa using hc⟩)
  simp at hc
 | [],_,_,i,hf=>by obtain⟨c,hc⟩:=hf;simp at hc
def wkT (h':Hp) (drop:Bool):List (Option Value)→List (Option Value)→Prop→Prop
 | [],[],A=>A
 | _::a,none::b,A=>wkT h' drop a b A
 | some u::a,some v::b,A=>N (Obl (u=v) (match drop with
  | false=>wkT h' drop a b A
  | true=>N (Obl (Safe h' v) (wkT h' drop a b A))))
 | _,_,_=>False
def wkH (h':Hp) (drop:Bool):Hp→Hp→Prop→Prop
 | [],[],A=>A
 | _::a,[],A=>wkH h' drop a [] A
 | _::a,none::b,A=>wkH h' drop a b A
 | some c::a,some c'::b,A=>N (Obl (ChunkLe c' c) (match drop with
  | false=>wkH h' drop a b A
  | true=>N (Obl (∀ j,j<c'.n→Safe1 h' (c'.f j)) (wkH h' drop a b A))))
 | _,_,_=>False
def wkK (n0:Nat) (st s:St) (A:Prop):Prop:=
 match st,s with
 | ⟨t,h⟩,⟨t',h'⟩=>match dropB (h.take n0) h' with
  | true=>False
  | false=>match dropB h h' with
   | d=>wkT h' d t t' (wkH h' d h h' A)
theorem qns {h':Hp} {drop:Bool}:∀ {t t':List (Option Value)} {A:Prop},wkT h' drop t t' A→
  t'.length=t.length∧(∀ (i:Nat) (v:Value),t'[i]?=some (some v)→t[i]?=some (some v))∧(drop=true→∀ (i:Nat) (v:Value),t'[i]?=some (some v)→Safe h' v)∧A
 | [],[],A,h=>⟨rfl,fun i v hi=>by simp at hi,fun _ i v hi=>by simp at hi,h⟩
 | x::a,none::b,A,h=>by
  have h:wkT h' drop a b A:=by cases x<;>exact h
  obtain⟨h1,h2,h3,h4⟩:=qns h
  refine⟨by simp[h1],fun i v hi=>?_,fun hd i v hi=>?_,h4⟩
  ·cases i with
   | zero=>simp at hi
   | succ i=>simpa using h2 i v (by simpa using hi)
  ·cases i with
   | zero=>simp at hi
   | succ i=>exact h3 hd i v (by simpa using hi)
 | some u::a,some v::b,A,h=>by
  obtain⟨e,h⟩:=N.out h
  subst e
  have hh:(drop=true→Safe h' u)∧wkT h' drop a b A:=by
   cases drop with
   | false=>exact⟨fun e=>(by cases e),h⟩
   | true=>obtain⟨hs,h⟩:=N.out h;exact⟨fun _=>hs,h⟩
  obtain⟨h1,h2,h3,h4⟩:=qns hh.2
  refine⟨by simp[h1],fun i v hi=>?_,fun hd i v hi=>?_,h4⟩
  ·cases i with
   | zero=>exact hi
   | succ i=>simpa using h2 i v (by simpa using hi)
  ·cases i with
   | zero=>simp at hi;subst hi;exact hh.1 hd
   | succ i=>exact h3 hd i v (by simpa using hi)
 | none::a,some v::b,A,h=>h.elim
 | [],_::_,A,h=>h.elim
 | _::_,[],A,h=>by cases ‹Option Value›<;>exact h.elim
theorem qkm {h':Hp} {drop:Bool}:∀ {a b:Hp} {A:Prop},wkH h' drop a b A→
  (∀ (i:Nat) (c:Chunk),b[i]?=some (some c)→∃ d,a[i]?=some (some d)∧ChunkLe c d)∧(drop=true→∀ (i:Nat) (c:Chunk),b[i]?=some (some c)→∀ j,j<c.n→Safe1 h' (c.f j))∧A
 | [],[],A,h=>⟨fun i v hi=>by simp at hi,fun _ i v hi=>by simp at hi,h⟩
 | x::a,[],A,h=>by
  have h:wkH h' drop a [] A:=by cases x<;>exact h
  obtain⟨_,_,h3⟩:=qkm h
  exact⟨fun i v hi=>by simp at hi,fun _ i v hi=>by simp at hi,h3⟩
 | x::a,none::b,A,h=>by
  have h:wkH h' drop a b A:=by cases x<;>exact h
  obtain⟨h1,h2,h3⟩:=qkm h
  refine⟨fun i v hi=>?_,fun hd i v hi=>?_,h3⟩
  ·cases i with
   | zero=>simp at hi
   | succ i=>simpa using h1 i v (by simpa using hi)
  ·cases i with
   | zero=>simp at hi
   | succ i=>exact h2 hd i v (by simpa using hi)
 | some c::a,some c'::b,A,h=>by
  obtain⟨e,h⟩:=N.out h
  have hh:(drop=true→∀ j,j<c'.n→Safe1 h' (c'.f j))∧wkH h' drop a b A:=by
   cases drop with
   | false=>exact⟨fun e=>(by cases e),h⟩
   | true=>obtain⟨hs,h⟩:=N.out h;exact⟨fun _=>hs,h⟩
  obtain⟨h1,h2,h3⟩:=qkm hh.2
  refine⟨fun i v hi=>?_,fun hd i v hi=>?_,h3⟩
  ·cases i with
   | zero=>simp at hi;subst hi;exact⟨c,rfl,e⟩
   | succ i=>simpa using h1 i v (by simpa using hi)
  ·cases i with
   | zero=>simp at hi;subst hi;exact hh.1 hd
   | succ i=>exact h2 hd i v (by simpa using hi)
 | none::a,some c'::b,A,h=>h.elim
 | [],none::b,A,h=>h.elim
 | [],some _::b,A,h=>h.elim
theorem qta {n0:Nat} {st s:St} {A:Prop} (h:wkK n0 st s A):Wk n0 st s∧A:=by
 obtain⟨t,hh⟩:=st
 obtain⟨t',h'⟩:=s
 simp only[wkK] at h
 cases hb:dropB (hh.take n0) h' with
 | true=>rw[hb] at h;exact h.elim
 | false=>
  rw[hb] at h
  simp only at h
  obtain⟨a1,a2,a3,h⟩:=qns h
  obtain⟨b1,b2,h⟩:=qkm h
  refine⟨⟨a1,a2,fun i c hi=>?_,fun i hi hf=>?_,?_⟩,h⟩
  ·obtain⟨d,hd,h1,h2,h3⟩:=b1 i c hi
   exact⟨d,hd,h1,h2,h3⟩
  ·refine qet hb i ?_
   obtain⟨c,hc⟩:=hf
   exact⟨c,by rw[List.getElem?_take,if_pos hi];exact hc⟩
  ·cases hd:dropB hh h' with
   | false=>exact .inl (qet hd)
   | true=>
    refine .inr ⟨fun i v hi=>(a3 hd i v hi).inScope,fun i c hi j hj=>(b2 hd i c hi j hj).inScope⟩
def NextN {α:Type} (p:α→Prop) (K:α→Prop):Prop:=∃ y,p y∧K y
theorem N.next {α:Type} {p:α→Prop} {K:α→Prop} (y:α) (hp:p y) (k:K y):N (NextN p K):=N.mk ⟨y,hp,k⟩
theorem N.true:N True:=N.mk trivial
section
variable {P:Program} {G:Tys}
theorem setM_iff {K:Hp→Prop}:∀ {ms:List (Nat×Chunk)} {h:Hp},setM h ms K↔K (modH h ms):=by
 have one:∀ {l:Hp} {n:Nat} {v:Chunk} {K:Hp→Prop},setK l n v K↔K (l.set n (some v)):=by
  intro l
  induction l with
  | nil=>intro n v K;exact Iff.rfl
  | cons x r ih=>intro n v K;cases n with
   | zero=>exact Iff.rfl
   | succ n=>exact ih (K:=fun r'=>K (x::r'))
 intro ms
 induction ms with
 | nil=>intro h;exact Iff.rfl
 | cons m ms ih=>intro h;exact one.trans ih
theorem N.loop {n0:Nat} {c:Code} {A:(Exit→St→Prop)→St→Prop} {Q:Exit→St→Prop} {t:List (Option Value)} {h:Hp} {α:Type} (inv:α→Prop) (μ:α→Nat) (sets:α→List (Nat×Value)) (hs:α→List (Nat×Chunk)) (x0:α) (h0:inv x0)
  (hw:updK (maskC c) (sets x0) t 0 fun t'=>setM h (hs x0) fun h'=>wkK n0 ⟨t,h⟩ ⟨t',h'⟩ (N True))
  (hr:∀ x,inv x→updK (maskC c) (sets x) t 0 fun t'=>setM h (hs x) fun h'=>A (thenQ (fun s=>N (NextN (fun y=>inv y∧μ y<μ x) fun y=>updK (maskC c) (sets y) t 0 fun t''=>setM h (hs y) fun h''=>wkK n0 s ⟨t'',h''⟩ (N True))) Q) ⟨t',h'⟩):N (LoopN P G n0 c A Q ⟨t,h⟩):=by
 refine N.mk ⟨α,fun x=>⟨updT (maskC c) (sets x) t 0,modH h (hs x)⟩,inv,μ,fun x s=>N (NextN (fun y=>inv y∧μ y<μ x) fun y=>updK (maskC c) (sets y) t 0 fun t''=>setM h (hs y) fun h''=>wkK n0 s ⟨t'',h''⟩ (N True)),fun x s hq=>?_,⟨x0,h0,(qta (setM_iff.1 (updK_iff.1 hw))).1.g⟩,fun x hx=>setM_iff.1 (updK_iff.1 (hr x hx))⟩
 obtain⟨y,⟨hy,hlt⟩,hk⟩:=N.out hq
 exact⟨y,hy,(qta (setM_iff.1 (updK_iff.1 hk))).1.g,hlt⟩
end
open Go Go.RowKit
theorem Evo.into {M M':Addr→Prop} {a b c:World} (h:Evo M a b) (k:Evo M' b c) (hs:∀ p,M' ⟨p,0,some 0⟩→a.heap.size≤p∨M ⟨p,0,some 0⟩) (hm:∀ p j,M' ⟨p,j,none⟩→a.heap.size≤p∨M ⟨p,j,none⟩):Evo M a c:=
 ⟨k.os.trans h.os,k.tape.trans h.tape,k.output.trans h.output,Nat.le_trans h.size k.size,fun i hi=>(h.block i hi).trans (by
  rcases k.block i (Nat.lt_of_lt_of_le hi h.size) with e|e|⟨cs,ty,fz,cs',e1,e2,hs',hc⟩
  ·exact .inl e
  ·rcases hs i e with h1|h1
   ·omega
   ·exact .inr (.inl h1)
  ·refine .inr (.inr ⟨cs,ty,fz,cs',e1,e2,hs',fun j hj=>hc j fun hj'=>?_⟩)
   rcases hm i j hj' with h1|h1
   ·omega
   ·exact hj h1)⟩
theorem Evo.same {M:Addr→Prop} {w w':World} (k:Evo M w w') {b:Nat} (hb:b<w.heap.size) (hs:¬ M ⟨b,0,some 0⟩) (hm:∀ j,¬ M ⟨b,j,none⟩):w'.heap[b]?=w.heap[b]?:=by
 rcases k.block b hb with e|e|⟨cs,ty,fz,cs',e1,e2,hs',hc⟩
 ·exact e.symm
 ·exact absurd e hs
 ·rw[e1,e2]
  have:cs'=cs:=Array.ext_getElem? fun j=>hc j (hm j)
  rw[this]
theorem Den1.plain {F:Nat→Prop} {ρ:Nat→Nat×Nat} {v:Value} (hv:qa3 v=true):Den1 F ρ v v:=fun r _=>qa9 hv r
def ixK:List (Nat×Nat)→Nat→Option Nat
 | [],_=>none
 | (k,i)::r,n=>match Nat.beq k n with
  | true=>some i
  | false=>ixK r n
theorem qdw:∀ {ix:List (Nat×Nat)} {k i:Nat},ixK ix k=some i→(k,i)∈ix
 | [],_,_,h=>by cases h
 | (a,b)::r,k,i,h=>by
  simp only[ixK] at h
  cases e:Nat.beq a k with
  | true=>
   rw[e] at h
   have:=Nat.eq_of_beq_eq_true e
   simp only[Option.some.injEq] at h
   subst this h;simp
  | false=>rw[e] at h;exact List.mem_cons_of_mem _ (qdw h)
inductive Re1 (ix:List (Nat×Nat)):Value→Value→Prop
 | plain {v:Value} (h:qa3 v=true):Re1 ix v v
 | ptr {i k f s s':Nat} (h:ixK ix k=some i):Re1 ix (.pointer (some ⟨i,f,some s⟩)) (.pointer (some ⟨k,f,some s'⟩))
 | slice {i k f s s' l c:Nat} (h:ixK ix k=some i):Re1 ix (.slice (some ⟨i,f,some s⟩) l c) (.slice (some ⟨k,f,some s'⟩) l c)
 | map {i k:Nat} (h:ixK ix k=some i):Re1 ix (.map (some i)) (.map (some k))
 | quo {t:TypeId} {v:Value}:Re1 ix (.iface t v) (.iface t v)
 | any {v v':Value} (h:∀ r r',den1 r v=den1 r' v'):Re1 ix v v'
inductive Re2 (ix:List (Nat×Nat)):Value→Value→Prop
 | plain {v:Value} (h:qam v=true):Re2 ix v v
 | ptr {i k f s s':Nat} (h:ixK ix k=some i):Re2 ix (.pointer (some ⟨i,f,some s⟩)) (.pointer (some ⟨k,f,some s'⟩))
 | slice {i k f s s' l c:Nat} (h:ixK ix k=some i):Re2 ix (.slice (some ⟨i,f,some s⟩) l c) (.slice (some ⟨k,f,some s'⟩) l c)
 | map {i k:Nat} (h:ixK ix k=some i):Re2 ix (.map (some i)) (.map (some k))
 | quo {t:TypeId} {v:Value}:Re2 ix (.iface t v) (.iface t v)
 | agg {l l':List Value} (h:All2 (Re1 ix) l l'):Re2 ix (.agg ⟨l⟩) (.agg ⟨l'⟩)
 | any {v v':Value} (h2:∀ r r',Sx.den2 r v=Sx.den2 r' v') (h:∀ r r',Sx.den r v=Sx.den r' v'):Re2 ix v v'
inductive Re (ix:List (Nat×Nat)):Value→Value→Prop
 | plain {v:Value} (h:qap v=true):Re ix v v
 | one {v v':Value} (h:Re2 ix v v'):Re ix v v'
 | tuple {l l':List Value} (h:All2 (Re2 ix) l l'):Re ix (.tuple ⟨l⟩) (.tuple ⟨l'⟩)
theorem Re1.den {ix:List (Nat×Nat)} {v v':Value} {r r':Nat→Nat×Nat} (h:Re1 ix v v') (hr:∀ k i,(k,i)∈ix→r i=r' k):den1 r v=den1 r' v':=by
 cases h with
 | plain h=>rw[qa9 h,qa9 h]
 | ptr h=>simp only[den1,den0,denA,hr _ _ (qdw h)]
 | slice h=>simp only[den1,den0,denA,hr _ _ (qdw h)]
 | map h=>simp only[den1,den0,hr _ _ (qdw h)]
 | quo=>exact qj9 _ _ _ _
 | any h=>exact h _ _
theorem qmk {ix:List (Nat×Nat)} {r r':Nat→Nat×Nat} (hr:∀ k i,(k,i)∈ix→r i=r' k):∀ {l l':List Value},All2 (Re1 ix) l l'→l.map (den1 r)=l'.map (den1 r')
 | [],[],_=>rfl
 | [],_::_,h=>h.elim
 | _::_,[],h=>h.elim
 | _::_,_::_,h=>by rw[List.map_cons,List.map_cons,h.1.den hr,qmk hr h.2]
theorem Re2.den2 {ix:List (Nat×Nat)} {v v':Value} {r r':Nat→Nat×Nat} (h:Re2 ix v v') (hr:∀ k i,(k,i)∈ix→r i=r' k):Sx.den2 r v=Sx.den2 r' v':=by
 cases h with
 | plain h=>rw[qe0 h,qe0 h]
 | ptr h=>simp only[Sx.den2,den1,den0,denA,hr _ _ (qdw h)]
 | slice h=>simp only[Sx.den2,den1,den0,denA,hr _ _ (qdw h)]
 | map h=>simp only[Sx.den2,den1,den0,hr _ _ (qdw h)]
 | quo=>exact qj9 _ _ _ _
 | agg h=>
  simp only[Sx.den2,Value.agg.injEq]
  apply Array.toList_inj.1
  rw[Array.toList_map,Array.toList_map]
  exact qmk hr h
 | any h2 _=>exact h2 _ _
theorem qml {ix:List (Nat×Nat)} {r r':Nat→Nat×Nat} (hr:∀ k i,(k,i)∈ix→r i=r' k):∀ {l l':List Value},All2 (Re2 ix) l l'→l.map (den2 r)=l'.map (den2 r')
 | [],[],_=>rfl
 | [],_::_,h=>h.elim
 | _::_,[],h=>h.elim
 | _::_,_::_,h=>by rw[List.map_cons,List.map_cons,h.1.den2 hr,qml hr h.2]
theorem Re2.den {ix:List (Nat×Nat)} {v v':Value} {r r':Nat→Nat×Nat} (h:Re2 ix v v') (hr:∀ k i,(k,i)∈ix→r i=r' k):Sx.den r v=Sx.den r' v':=by
 have e:=h.den2 hr
 cases h with
 | plain h=>rw[qa0 h,qa0 h]
 | ptr h=>exact e
 | slice h=>exact e
 | map h=>exact e
 | quo=>exact e
 | agg h=>exact e
 | any _ h=>exact h _ _
theorem Re.den {ix:List (Nat×Nat)} {v v':Value} {r r':Nat→Nat×Nat} (h:Re ix v v') (hr:∀ k i,(k,i)∈ix→r i=r' k):Sx.den r v=Sx.den r' v':=by
 cases h with
 | plain h=>rw[qbg h,qbg h]
 | one h=>exact h.den hr
 | tuple h=>
  simp only[Sx.den,Value.tuple.injEq]
  apply Array.toList_inj.1
  rw[Array.toList_map,Array.toList_map]
  exact qml hr h
structure Piece where
 i:Nat
 c:Chunk
 e:Chunk
 d:Chunk
structure Fresh where
 i:Nat
 k:Nat
 d:Chunk
def partH:List Piece→Hp
 | []=>[]
 | s::r=>some s.e::partH r
def partX:List Piece→Nat→List (Nat×Nat)
 | [],_=>[]
 | s::r,k=>(k,s.i)::partX r (k+1)
def partM:List Piece→List (Nat×Chunk)
 | []=>[]
 | s::r=>match s.e.own with
  | true=>(s.i,s.d)::partM r
  | false=>partM r
def partR:List Piece→List Nat
 | []=>[]
 | s::r=>match s.e.own with
  | true=>partR r
  | false=>s.i::partR r
def madeX:List Fresh→List (Nat×Nat)
 | []=>[]
 | n::r=>(n.k,n.i)::madeX r
def madeM:List Fresh→List (Nat×Chunk)
 | []=>[]
 | n::r=>(n.i,n.d)::madeM r
theorem qh7:∀ {ss:List Piece} {k:Nat},(partH ss)[k]?=(ss[k]?).map fun s=>some s.e
 | [],k=>by simp[partH]
 | s::r,0=>rfl
 | s::r,k+1=>by simpa[partH] using qh7 (ss:=r) (k:=k)
theorem partX_mem:∀ {ss:List Piece} {k0 k i:Nat},(k,i)∈partX ss k0↔∃ l s,ss[l]?=some s∧k=k0+l∧i=s.i
 | [],k0,k,i=>by simp[partX]
 | s::r,k0,k,i=>by
  simp only[partX,List.mem_cons,Prod.mk.injEq,partX_mem (ss:=r)]
  constructor
  ·rintro(⟨rfl,rfl⟩|⟨l,t,h,rfl,rfl⟩)
   ·exact⟨0,s,rfl,rfl,rfl⟩
   ·exact⟨l+1,t,h,by omega,rfl⟩
  ·rintro⟨l,t,h,rfl,rfl⟩
   cases l with
   | zero=>simp at h;subst h;exact .inl ⟨rfl,rfl⟩
   | succ l=>exact .inr ⟨l,t,by simpa using h,by omega,rfl⟩
theorem partM_mem:∀ {ss:List Piece} {m:Nat×Chunk},m∈partM ss↔∃ s∈ss,s.e.own=true∧m=(s.i,s.d)
 | [],m=>by simp[partM]
 | s::r,m=>by
  simp only[partM]
  cases e:s.e.own with
  | true=>
       simp only[List.mem_cons,partM_mem (ss:=r)];constructor
       ·rintro(rfl|⟨t,ht,h1,h2⟩)
        ·exact⟨s,.inl rfl,e,rfl⟩
        ·exact⟨t,.inr ht,h1,h2⟩
       ·rintro⟨t,rfl|ht,h1,h2⟩
        ·exact .inl h2
        ·exact .inr ⟨t,ht,h1,h2⟩
  | false=>
        simp only[List.mem_cons,partM_mem (ss:=r)];constructor
        ·rintro⟨t,ht,h1,h2⟩;exact⟨t,.inr ht,h1,h2⟩
        ·rintro⟨t,rfl|ht,h1,h2⟩
         ·rw[e] at h1;cases h1
         ·exact⟨t,ht,h1,h2⟩
theorem qh8:∀ {ss:List Piece} {i:Nat},(∃ s∈ss,s.e.own=false∧i=s.i)→i∈partR ss
 | [],i,h=>by simp at h
 | s::r,i,⟨t,ht,h1,h2⟩=>by
  simp only[partR]
  rcases List.mem_cons.1 ht with rfl|ht
  ·rw[h1];simp[h2]
  ·have:=qh8 (ss:=r) ⟨t,ht,h1,h2⟩
   cases s.e.own with
   | true=>exact this
   | false=>exact List.mem_cons_of_mem _ this
theorem madeX_mem:∀ {ns:List Fresh} {k i:Nat},(k,i)∈madeX ns↔∃ n∈ns,k=n.k∧i=n.i
 | [],k,i=>by simp[madeX]
 | n::r,k,i=>by simp[madeX,madeX_mem (ns:=r)]
theorem madeM_mem:∀ {ns:List Fresh} {m:Nat×Chunk},m∈madeM ns↔∃ n∈ns,m=(n.i,n.d)
 | [],m=>by simp[madeM]
 | n::r,m=>by simp[madeM,madeM_mem (ns:=r)]
theorem qf4:∀ {ms:List (Nat×Chunk)} {h:Hp},(modH h ms).length=h.length
 | [],h=>rfl
 | (i,c)::ms,h=>by simp[modH,qf4 (ms:=ms)]
theorem qkn:∀ {ms:List (Nat×Chunk)} {h:Hp} {k:Nat} {e:Chunk},(modH h ms)[k]?=some (some e)→(∃ m∈ms,m.1=k∧m.2=e)∨((∀ m∈ms,m.1≠k)∧h[k]?=some (some e))
 | [],h,k,e,hk=>.inr ⟨by simp,hk⟩
 | (i,c)::ms,h,k,e,hk=>by
  rcases qkn (ms:=ms) hk with ⟨m,hm,h1,h2⟩|⟨h1,h2⟩
  ·exact .inl ⟨m,List.mem_cons_of_mem _ hm,h1,h2⟩
  ·by_cases ek:i=k
   ·subst ek
    have hl:i<h.length:=by have:=(List.getElem?_eq_some_iff.1 h2).1;simpa using this
    rw[List.getElem?_set_self hl] at h2
    exact .inl ⟨(i,c),by simp,rfl,by simpa using h2⟩
   ·rw[List.getElem?_set_ne ek] at h2
    refine .inr ⟨fun m hm=>?_,h2⟩
    rcases List.mem_cons.1 hm with rfl|hm
    ·exact ek
    ·exact h1 m hm
theorem qpo:∀ {ms:List (Nat×Chunk)} {h:Hp} {m:Nat×Chunk},m∈ms→m.1<h.length→Fil (modH h ms) m.1
 | (i,c)::ms,h,m,hm,hl=>by
  rcases List.mem_cons.1 hm with rfl|hm
  ·exact Fil.mod (ms:=ms) ⟨c,by rw[List.getElem?_set_self hl]⟩
  ·exact qpo (ms:=ms) hm (by simpa using hl)
def PartsIn (h:Hp):List Piece→Prop
 | []=>True
 | s::r=>h[s.i]?=some (some s.c)∧PartsIn h r
def qb2 (ix:List (Nat×Nat)) (c e:Chunk):Prop:=∀ j,j<e.n→Re1 ix (c.f j) (e.f j)
def PartsRe (ix:List (Nat×Nat)):List Piece→Prop
 | []=>True
 | s::r=>((s.e.own=true→s.c.own=true∧s.d.n≤s.c.n)∧s.e.n≤s.c.n∧qb2 ix s.c s.e)∧PartsRe ix r
def Apart:List Piece→Prop
 | []=>True
 | s::r=>(∀ t∈r,(s.e.own=true∨t.e.own=true)→s.i≠t.i)∧Apart r
def MadeIn (h:Hp):List Fresh→Prop
 | []=>True
 | n::r=>(h[n.i]?=some none∧(n.d.own,n.d.x)=(true,Ext.none)∧0<n.d.n∧∀ m∈r,n.i≠m.i∧n.k≠m.k)∧MadeIn h r
theorem PartsIn.at {h:Hp}:∀ {ss:List Piece},PartsIn h ss→∀ s∈ss,h[s.i]?=some (some s.c)
 | t::r,hp,s,hs=>by
  rcases List.mem_cons.1 hs with rfl|hs
  ·exact hp.1
  ·exact hp.2.at s hs
theorem PartsRe.at {ix:List (Nat×Nat)}:∀ {ss:List Piece},PartsRe ix ss→∀ s∈ss,(s.e.own=true→s.c.own=true∧s.d.n≤s.c.n)∧s.e.n≤s.c.n∧qb2 ix s.c s.e
 | t::r,hp,s,hs=>by
  rcases List.mem_cons.1 hs with rfl|hs
  ·exact hp.1
  ·exact hp.2.at s hs
theorem Apart.at:∀ {ss:List Piece},Apart ss→∀ (k l:Nat) (s t:Piece),ss[k]?=some s→ss[l]?=some t→k≠l→s.e.own=true→s.i≠t.i
 | a::r,hp,0,0,s,t,hk,hl,hne,ho=>absurd rfl hne
 | a::r,hp,0,l+1,s,t,hk,hl,hne,ho=>by
  simp at hk;subst hk
  exact hp.1 t (List.mem_of_getElem? (by simpa using hl)) (.inl ho)
 | a::r,hp,k+1,0,s,t,hk,hl,hne,ho=>by
  simp at hl;subst hl
  exact fun e=>hp.1 s (List.mem_of_getElem? (by simpa using hk)) (.inr ho) e.symm
 | a::r,hp,k+1,l+1,s,t,hk,hl,hne,ho=>hp.2.at k l s t (by simpa using hk) (by simpa using hl) (by omega) ho
theorem MadeIn.at {h:Hp}:∀ {ns:List Fresh},MadeIn h ns→∀ n∈ns,h[n.i]?=some none∧n.d.own=true∧0<n.d.n∧n.d.x=Ext.none
 | t::r,hp,s,hs=>by
  rcases List.mem_cons.1 hs with rfl|hs
  ·exact⟨hp.1.1,(Prod.mk.inj hp.1.2.1).1,hp.1.2.2.1,(Prod.mk.inj hp.1.2.1).2⟩
  ·exact hp.2.at s hs
theorem MadeIn.ne {h:Hp}:∀ {ns:List Fresh},MadeIn h ns→∀ n∈ns,∀ m∈ns,(n.i=m.i∨n.k=m.k)→n=m
 | t::r,hp,n,hn,m,hm,he=>by
  rcases List.mem_cons.1 hn with h1|h1<;>rcases List.mem_cons.1 hm with h2|h2
  ·rw[h1,h2]
  ·have:=hp.1.2.2.2 m h2;rw[h1] at he;omega
  ·have:=hp.1.2.2.2 n h1;rw[h2] at he;omega
  ·exact hp.2.ne n h1 m h2 he
theorem qz5 {ix:List (Nat×Nat)} {o:Bool} {n m:Nat} {ps:List (Nat×Nat×Value)} (hp:∀ j,j<n→qa3 (qa5 ps j)=true) :
  ((⟨false,n,ps⟩:Chunk).own=true→(⟨o,n,ps⟩:Chunk).own=true∧m≤(⟨o,n,ps⟩:Chunk).n)∧(⟨false,n,ps⟩:Chunk).n≤(⟨o,n,ps⟩:Chunk).n∧qb2 ix ⟨o,n,ps⟩ ⟨false,n,ps⟩:=
 ⟨fun h=>(by cases h),nlr _,fun j hj=>.plain (hp j hj)⟩
theorem qaw {n:Nat} {l:List Value} (hl:l.length=n) (h:qam (.agg ⟨l⟩)=true):∀ j,j<n→qa3 (qa5 [(0,n,.agg ⟨l⟩)] j)=true:=fun j hj=>by
 rw[qao,if_pos (by omega)]
 simp only[cellIn,Nat.sub_zero,List.getD_eq_getElem?_getD]
 rw[List.getElem?_eq_getElem (by omega)]
 simp only[qam,List.all_eq_true] at h
 exact h _ (List.getElem_mem _)
def PostC (ix:List (Nat×Nat)) (h:Hp) (k:Nat) (d:Chunk):Prop:=∃ c,h[k]?=some (some c)∧(d.own=true→c.own=true)∧d.n≤c.n∧∀ j,j<d.n→Re1 ix (d.f j) (c.f j)
def PostS (ix:List (Nat×Nat)) (h:Hp):List Piece→Nat→Prop
 | [],_=>True
 | s::r,k=>match s.e.own with
  | true=>PostC ix h k s.d∧PostS ix h r (k+1)
  | false=>PostS ix h r (k+1)
def PostN (ix:List (Nat×Nat)) (h:Hp) (n0:Nat):List Fresh→Prop
 | []=>True
 | n::r=>(n0≤n.k∧PostC ix h n.k n.d)∧PostN ix h n0 r
theorem PostS.at {ix:List (Nat×Nat)} {h:Hp}:∀ {ss:List Piece} {k0:Nat},PostS ix h ss k0→∀ (l:Nat) (s:Piece),ss[l]?=some s→s.e.own=true→PostC ix h (k0+l) s.d
 | a::r,k0,hp,0,s,hl,ho=>by
  simp at hl;subst hl
  simp only[PostS] at hp
  rw[ho] at hp
  exact hp.1
 | a::r,k0,hp,l+1,s,hl,ho=>by
  simp only[PostS] at hp
  have:PostS ix h r (k0+1):=by
   cases e:a.e.own with
   | true=>rw[e] at hp;exact hp.2
   | false=>rw[e] at hp;exact hp
  rw[show k0+(l+1)=k0+1+l from by omega]
  exact this.at l s (by simpa using hl) ho
theorem PostN.at {ix:List (Nat×Nat)} {h:Hp} {n0:Nat}:∀ {ns:List Fresh},PostN ix h n0 ns→∀ n∈ns,n0≤n.k∧PostC ix h n.k n.d
 | t::r,hp,s,hs=>by
  rcases List.mem_cons.1 hs with rfl|hs
  ·exact hp.1
  ·exact hp.2.at s hs
section
variable {P:Program} {G:Tys}
def subσ (ss:List Piece) (k:Nat):Nat:=match ss[k]? with
 | some s=>s.i
 | none=>0
def subM (ρ:Nat→Nat×Nat) (S:Nat→Nat→Prop) (ss:List Piece):Addr→Prop:=fun a=>
 (a.spot=none∧∃ s∈ss,s.e.own=true∧a.block=(ρ s.i).1∧(ρ s.i).2≤a.off∧a.off<(ρ s.i).2+s.c.n)∨∃ s∈ss,s.e.own=true∧S s.i a.block
theorem qko {ρ:Nat→Nat×Nat} {S:Nat→Nat→Prop} {ss:List Piece} {b:Nat} (h:subM ρ S ss ⟨b,0,some 0⟩):∃ s∈ss,s.e.own=true∧S s.i b:=by
 rcases h with ⟨h,_⟩|h
 ·cases h
 ·exact h
def qtb (s:Piece):Prop:=s.e.x=Ext.none∨(s.e.own=true∧s.e.x=s.c.x)
theorem qh9 {h₂:Hp} {vs:List Value} (ss:List Piece) (vs':List Value)
  (hI:∀ s∈ss,h₂[s.i]?=some (some s.c)) (hre:PartsRe (partX ss 0) ss) (hap:Apart ss) (hex:∀ s∈ss,qtb s) (hvs:All2 (Re2 (partX ss 0)) vs vs')
  {X:Ctx} {ρ:Nat→Nat×Nat} {w:World} {xs:List Value} {S:Nat→Nat→Prop} (H:HOK X ρ h₂ w) (E:ExtOK X ρ h₂ w S) (hx:All2 (Den (Fil h₂) ρ) vs xs) :
  HOK ⟨w,subM ρ S ss,ss.length,fun k=>ρ (subσ ss k)⟩ (fun k=>ρ (subσ ss k)) (partH ss) w∧All2 (Den (Fil (partH ss)) (fun k=>ρ (subσ ss k))) vs' xs:=by
 let σ:Nat→Nat:=subσ ss
 have hσ:∀ k s,ss[k]?=some s→σ k=s.i:=fun k s hk=>by show(match ss[k]? with|some s=>s.i|none=>0)=s.i;rw[hk]
 let M':Addr→Prop:=subM ρ S ss
 have hix0:∀ k i,(k,i)∈partX ss 0→i=σ k∧k<ss.length:=fun k i hki=>by
  obtain⟨l,s,hl,rfl,rfl⟩:=partX_mem.1 hki
  rw[Nat.zero_add]
  exact⟨(hσ l s hl).symm,(List.getElem?_eq_some_iff.1 hl).1⟩
 have filH:∀ k s,ss[k]?=some s→Fil (partH ss) k:=fun k s hk=>⟨s.e,by rw[qh7,hk];rfl⟩
 have getP:∀ k c,(partH ss)[k]?=some (some c)→∃ s:Piece,ss[k]?=some s∧s.e=c:=fun k c hk=>by
  rw[qh7] at hk
  cases e:ss[k]? with
  | none=>rw[e] at hk;cases hk
  | some s=>rw[e] at hk;exact⟨s,e,by simpa using hk⟩
 have H0:HOK ⟨w,M',ss.length,fun k=>ρ (σ k)⟩ (fun k=>ρ (σ k)) (partH ss) w:=by
  refine⟨Evo.refl _ _,fun k hk=>?_,fun k c hk=>?_,fun k c hk j hj=>?_,fun k c hk ho j hj=>?_,fun k c l e hk ho hl hne=>?_,?_⟩
  ·have hk:k<ss.length:=hk
   exact⟨filH k ss[k] (by simp[hk]),rfl⟩
  ·obtain⟨s,hs,rfl⟩:=getP k c hk
   show(ρ (σ k)).1<_
   rw[hσ k s hs]
   exact H.lt _ _ (hI s (List.mem_of_getElem? hs))
  ·obtain⟨s,hs,rfl⟩:=getP k c hk
   have hmem:=List.mem_of_getElem? hs
   obtain⟨_,hn,hcr⟩:=hre.at s hmem
   obtain⟨x,hx,hdx⟩:=H.cell _ _ (hI s hmem) j (Nat.lt_of_lt_of_le hj hn)
   show ∃ x,w.cell? ⟨(ρ (σ k)).1,(ρ (σ k)).2+j,none⟩=some x∧_
   rw[hσ k s hs]
   refine⟨x,hx,fun r hrr=>?_⟩
   have:=(hcr j hj).den (r:=ρ) (r':=r) (fun k i hki=>by
    obtain⟨rfl,hlt⟩:=hix0 k i hki
    exact(hrr k (filH k ss[k] (by simp[hlt]))).symm)
   rw[←this]
   exact hdx.self
  ·obtain⟨s,hs,rfl⟩:=getP k c hk
   have hmem:=List.mem_of_getElem? hs
   obtain⟨ho1,hn,hcr⟩:=hre.at s hmem
   have hj':=Nat.lt_of_lt_of_le hj hn
   show w.frozen? ⟨(ρ (σ k)).1,(ρ (σ k)).2+j,none⟩=false∧(_≤(ρ (σ k)).1∨M' ⟨(ρ (σ k)).1,(ρ (σ k)).2+j,none⟩)
   rw[hσ k s hs]
   exact⟨(H.own _ _ (hI s hmem) (ho1 ho).1 j hj').1,.inr (.inl ⟨rfl,s,hmem,ho,rfl,Nat.le_add_right _ _,Nat.add_lt_add_left hj' _⟩)⟩
  ·obtain⟨s,hs,rfl⟩:=getP k c hk
   obtain⟨t,ht,rfl⟩:=getP l e hl
   have hmem:=List.mem_of_getElem? hs
   show(ρ (σ k)).1≠(ρ (σ l)).1
   rw[hσ k s hs,hσ l t ht]
   exact H.sep _ _ _ _ (hI s hmem) ((hre.at s hmem).1 ho).1 (hI t (List.mem_of_getElem? ht)) (hap.at k l s t hs ht hne ho)
  ·refine⟨fun k b=>∃ s,ss[k]?=some s∧s.e.x≠Ext.none∧S s.i b,fun k c hk=>?_,fun k c b hk hS=>?_,fun k c b l d hk hS hl hne=>?_⟩
   ·obtain⟨s,hs,rfl⟩:=getP k c hk
    show s.e.x.inv (ρ (σ k)) _ w
    rw[hσ k s hs]
    rcases hex s (List.mem_of_getElem? hs) with e|⟨_,e⟩
    ·rw[e]
     rintro b ⟨t,ht,h1,_⟩
     rw[hs] at ht
     obtain rfl:s=t:=by simpa using ht
     exact h1 e
    ·by_cases en:s.e.x=Ext.none
     ·rw[en]
      rintro b ⟨t,ht,h1,_⟩
      rw[hs] at ht
      obtain rfl:s=t:=by simpa using ht
      exact h1 en
     ·have:(fun b=>∃ t,ss[k]?=some t∧t.e.x≠Ext.none∧S t.i b)=S s.i:=by
       funext b
       refine propext ⟨?_,fun h=>⟨s,hs,en,h⟩⟩
       rintro⟨t,ht,_,h⟩
       rw[hs] at ht
       obtain rfl:s=t:=by simpa using ht
       exact h
      rw[this,e]
      exact E.inv _ _ (hI s (List.mem_of_getElem? hs))
   ·obtain⟨s,hs,rfl⟩:=getP k c hk
    obtain⟨t,ht,hx1,hb⟩:=hS
    rw[hs] at ht
    obtain rfl:s=t:=by simpa using ht
    have hmem:=List.mem_of_getElem? hs
    obtain⟨h1,h2,h3⟩:=E.mine _ _ b (hI s hmem) hb
    have ho:s.e.own=true:=by
     rcases hex s hmem with e|⟨e,_⟩
     ·exact absurd e hx1
     ·exact e
    exact⟨by have:=(hre.at s hmem).2.1;show s.e.n=0∨b≠(ρ (σ k)).1;rw[hσ k s hs];omega,h2,.inr ⟨.inr ⟨s,hmem,ho,hb⟩,fun j=>.inr ⟨s,hmem,ho,hb⟩⟩⟩
   ·obtain⟨s,hs,rfl⟩:=getP k c hk
    obtain⟨u,hu,rfl⟩:=getP l d hl
    obtain⟨t,ht,hx1,hb⟩:=hS
    rw[hs] at ht
    obtain rfl:s=t:=by simpa using ht
    have hmem:=List.mem_of_getElem? hs
    have ho:s.e.own=true:=by
     rcases hex s hmem with e|⟨e,_⟩
     ·exact absurd e hx1
     ·exact e
    have hne':u.i≠s.i:=fun e=>hap.at k l s u hs hu (fun e=>hne e.symm) ho e.symm
    obtain⟨h1,h2⟩:=E.apart _ _ b _ _ (hI s hmem) hb (hI u (List.mem_of_getElem? hu)) hne'
    refine⟨by show(ρ (σ l)).1≠b;rw[hσ l u hu];exact h1,?_⟩
    rintro⟨t,ht,_,hb'⟩
    rw[hu] at ht
    obtain rfl:u=t:=by simpa using ht
    exact h2 hb'
 have hargs:∀ (aas bs ys:List Value),All2 (Re2 (partX ss 0)) aas bs→All2 (Den (Fil h₂) ρ) aas ys→All2 (Den (Fil (partH ss)) (fun k=>ρ (σ k))) bs ys:=by
  intro aas
  induction aas with
  | nil=>intro bs ys h1 h2;cases bs with
   | nil=>cases ys with
    | nil=>exact trivial
    | cons _ _=>exact h2.elim
   | cons _ _=>exact h1.elim
  | cons a aas ih=>
   intro bs ys h1 h2
   cases bs with
   | nil=>exact h1.elim
   | cons b bs=>cases ys with
    | nil=>exact h2.elim
    | cons y ys=>
     refine⟨fun r hrr=>?_,ih bs ys h1.2 h2.2⟩
     have:=h1.1.den (r:=ρ) (r':=r) (fun k i hki=>by
      obtain⟨rfl,hlt⟩:=hix0 k i hki
      exact(hrr k (filH k ss[k] (by simp[hlt]))).symm)
     rw[←this]
     exact h2.1.self
 exact⟨H0,hargs _ _ _ hvs hx⟩
theorem qtc {g:FuncId} {fn:Func} {cd:Code} {h₂:Hp} {vs:List Value} (ss:List Piece) (vs':List Value) {R:Value→St→Prop}
  (hG:TysOK P G) (hm:P.follows .mixedOrders=true) (hf:P.funcs[g]?=some fn) (hb:fn.body=some cd)
  (hI:∀ s∈ss,h₂[s.i]?=some (some s.c)) (hre:PartsRe (partX ss 0) ss) (hap:Apart ss) (hex:∀ s∈ss,qtb s) (hvs:All2 (Re2 (partX ss 0)) vs vs')
  (hwp:initK vs' fn.ntmps fun t=>wpC P G ss.length cd (bodyQ P G fn R) ⟨t,partH ss⟩)
  {X:Ctx} {ρ:Nat→Nat×Nat} {w:World} {xs:List Value} {S:Nat→Nat→Prop} (H:HOK X ρ h₂ w) (E:ExtOK X ρ h₂ w S) (hx:All2 (Den (Fil h₂) ρ) vs xs) :
  Calls P g ⟨xs⟩ w fun e w'=>∃ ρ1 v st x,e=.returned x∧HOK ⟨w,subM ρ S ss,ss.length,fun k=>ρ (subσ ss k)⟩ ρ1 st.h w'∧Den (Fil st.h) ρ1 v x∧R v st:=by
 obtain⟨H0,hargs⟩:=qh9 ss vs' hI hre hap hex hvs H E hx
 exact qe4 (X:=⟨w,subM ρ S ss,ss.length,fun k=>ρ (subσ ss k)⟩) (args:=⟨xs⟩) hG hm hf hb H0 hargs hwp
def Selfish (x:Ext):Prop:=∀ p S w,x.inv p S w→S p.1
open Classical in
theorem qho {h₂ hE:Hp} {V:Value} (ss:List Piece) (ns:List Fresh)
  (hI:∀ s∈ss,h₂[s.i]?=some (some s.c)) (hNw:∀ n∈ns,h₂[n.i]?=some none) (hre:PartsRe (partX ss 0) ss) (hap:Apart ss) (hmi:∀ n∈ns,n.d.own=true∧(0<n.d.n∨Selfish n.d.x)) (hne:∀ n∈ns,∀ m∈ns,(n.i=m.i∨n.k=m.k)→n=m)
  {X:Ctx} {ρ:Nat→Nat×Nat} {w w':World} {ρ1:Nat→Nat×Nat} {v x:Value} {S:Nat→Nat→Prop} (H:HOK X ρ h₂ w) (E:ExtOK X ρ h₂ w S)
  (H1:HOK ⟨w,subM ρ S ss,ss.length,fun k=>ρ (subσ ss k)⟩ ρ1 hE w') (hdx:Den (Fil hE) ρ1 v x)
  (hV:Re (partX ss 0++madeX ns) V v) (hS:PostS (partX ss 0++madeX ns) hE ss 0) (hN:PostN (partX ss 0++madeX ns) hE ss.length ns)
  (hSx:∀ (l:Nat) (s:Piece),ss[l]?=some s→s.e.own=true→s.d.x=Ext.none∨∃ c,hE[l]?=some (some c)∧s.d.x=c.x) (hNx:∀ n∈ns,n.d.x=Ext.none∨∃ c,hE[n.k]?=some (some c)∧n.d.x=c.x) :
  ∃ ρ',AgreeOn (Fil h₂) ρ ρ'∧HOK X ρ' (modH h₂ (partM ss++madeM ns)) w'∧Den (Fil (modH h₂ (partM ss++madeM ns))) ρ' V x:=by
 let σ:Nat→Nat:=subσ ss
 have hσ:∀ k s,ss[k]?=some s→σ k=s.i:=fun k s hk=>by show(match ss[k]? with|some s=>s.i|none=>0)=s.i;rw[hk]
 let M':Addr→Prop:=subM ρ S ss
 have hsz:w.heap.size≤w'.heap.size:=H1.evo.size
 obtain⟨S1,E1⟩:=H1.ext
 have hbase:∀ k s,ss[k]?=some s→Fil hE k∧ρ1 k=ρ s.i:=fun k s hk=>by
  obtain⟨h1,h2⟩:=H1.base k (List.getElem?_eq_some_iff.1 hk).1
  exact⟨h1,h2.trans (by show ρ (σ k)=_;rw[hσ k s hk])⟩
 have may:∀ b,May ⟨w,M',ss.length,fun k=>ρ (σ k)⟩ b→w.heap.size≤b∨∃ s∈ss,s.e.own=true∧S s.i b:=fun b hb=>by
  rcases hb with hb|⟨hb,_⟩
  ·exact .inl hb
  ·exact .inr (qko hb)
 have mayX:∀ b,(w.heap.size≤b∨∃ s∈ss,s.e.own=true∧S s.i b)→May X b:=fun b hb=>by
  rcases hb with hb|⟨s,hs,_,hb⟩
  ·exact .inl (Nat.le_trans H.evo.size hb)
  ·exact(E.mine _ _ b (hI s hs) hb).2.2
 have hnew:∀ n∈ns,w.heap.size≤(ρ1 n.k).1∨∃ s∈ss,s.e.own=true∧S s.i (ρ1 n.k).1:=fun n hn=>by
  obtain⟨hk,c,hc,ho,hle,_⟩:=hN.at n hn
  obtain⟨hdo,hpos⟩:=hmi n hn
  rcases hpos with hpos|hself
  ·rcases(H1.own n.k c hc (ho hdo) 0 (Nat.lt_of_lt_of_le hpos hle)).2 with h|h|h
   ·exact .inl h
   ·obtain⟨_,s,hs,hso,hbl,_⟩:=h
    obtain⟨l,hl,hlt⟩:=List.getElem_of_mem hs
    have hl':ss[l]?=some s:=by rw[List.getElem?_eq_getElem hl,hlt]
    obtain⟨⟨d,hd⟩,hρ⟩:=hbase l s hl'
    have:=H1.sep n.k c l d hc (ho hdo) hd (by omega)
    rw[hρ] at this
    exact absurd hbl this
   ·exact .inr h
  ·rcases hNx n hn with e|⟨c',hc',e⟩
   ·have:=hself (0,0) (fun _=>False) w (by rw[e];exact fun _ h=>h)
    exact this.elim
   ·have:=hself _ _ _ (by rw[e];exact E1.inv _ _ hc')
    exact may _ (E1.mine _ _ _ hc' this).2.2
 let ρ':Nat→Nat×Nat:=fun j=>if hj:∃ n∈ns,n.i=j then ρ1 (Classical.choose hj).k else ρ j
 have ρnew:∀ n∈ns,ρ' n.i=ρ1 n.k:=fun n hn=>by
  have hj:∃ m∈ns,m.i=n.i:=⟨n,hn,rfl⟩
  have hc:=Classical.choose_spec hj
  have:Classical.choose hj=n:=hne _ hc.1 _ hn (.inl hc.2)
  show(if hj:∃ m∈ns,m.i=n.i then ρ1 (Classical.choose hj).k else ρ n.i)=_
  rw[dif_pos hj,this]
 have ρold:∀ j,Fil h₂ j→ρ' j=ρ j:=fun j ⟨c,hc⟩=>by
  have:¬ ∃ n∈ns,n.i=j:=fun⟨n,hn,he⟩=>by
   have:=hNw n hn
   rw[he,hc] at this
   simp at this
  show(if hj:∃ m∈ns,m.i=j then ρ1 (Classical.choose hj).k else ρ j)=_
  rw[dif_neg this]
 have filS:∀ s∈ss,Fil h₂ s.i:=fun s hs=>⟨_,hI s hs⟩
 let ms:List (Nat×Chunk):=partM ss++madeM ns
 have fil:∀ k,Fil h₂ k→Fil (modH h₂ ms) k:=fun k hk=>hk.mod
 have filN:∀ n∈ns,Fil (modH h₂ ms) n.i:=fun n hn=>
  qpo (m:=(n.i,n.d)) (List.mem_append_right _ (madeM_mem.2 ⟨n,hn,rfl⟩)) (List.getElem?_eq_some_iff.1 (hNw n hn)).1
 have hix:∀ k i,(k,i)∈partX ss 0++madeX ns→Fil (modH h₂ ms) i∧ρ' i=ρ1 k:=fun k i hki=>by
  rcases List.mem_append.1 hki with hki|hki
  ·obtain⟨l,s,hl,rfl,rfl⟩:=partX_mem.1 hki
   have hmem:=List.mem_of_getElem? hl
   rw[Nat.zero_add]
   exact⟨fil _ (filS s hmem),(ρold _ (filS s hmem)).trans (hbase l s hl).2.symm⟩
  ·obtain⟨n,hn,rfl,rfl⟩:=madeX_mem.1 hki
   exact⟨filN n hn,ρnew n hn⟩
 have hden:∀ r,AgreeOn (Fil (modH h₂ ms)) ρ' r→∀ k i,(k,i)∈partX ss 0++madeX ns→r i=ρ1 k:=fun r hrr k i hki=>by
  obtain⟨h1,h2⟩:=hix k i hki
  exact(hrr i h1).trans h2
 have get:∀ k e,(modH h₂ ms)[k]?=some (some e)→(∃ (l:Nat) (s:Piece),ss[l]?=some s∧s.e.own=true∧s.i=k∧s.d=e)∨(∃ n∈ns,n.i=k∧n.d=e)∨((∀ s∈ss,s.e.own=true→s.i≠k)∧h₂[k]?=some (some e)):=fun k e hk=>by
  rcases qkn hk with ⟨m,hm,h1,h2⟩|⟨h1,h2⟩
  ·rcases List.mem_append.1 hm with hm|hm
   ·obtain⟨s,hs,ho,rfl⟩:=partM_mem.1 hm
    obtain⟨l,hl,hlt⟩:=List.getElem_of_mem hs
    exact .inl ⟨l,s,by rw[List.getElem?_eq_getElem hl,hlt],ho,h1,h2⟩
   ·obtain⟨n,hn,rfl⟩:=madeM_mem.1 hm
    exact .inr (.inl ⟨n,hn,h1,h2⟩)
  ·exact .inr (.inr ⟨fun s hs ho=>h1 _ (List.mem_append_left _ (partM_mem.2 ⟨s,hs,ho,rfl⟩)),h2⟩)
 let Inn:Nat→Nat→Prop:=fun k l=>(∃ s,ss[l]?=some s∧s.e.own=true∧s.i=k)∨∃ n∈ns,n.i=k∧n.k=l
 have innU:∀ k l l',Inn k l→Inn k l'→l=l':=fun k l l' h1 h2=>by
  rcases h1 with ⟨s,hs,ho,rfl⟩|⟨n,hn,rfl,rfl⟩<;>rcases h2 with ⟨t,ht,ho',e⟩|⟨m,hm,e,rfl⟩
  ·exact Classical.byContradiction fun hll=>hap.at l l' s t hs ht hll ho e.symm
  ·have h1:=hNw m hm
   rw[e,hI s (List.mem_of_getElem? hs)] at h1
   simp at h1
  ·have h1:=hNw n hn
   rw[←e,hI t (List.mem_of_getElem? ht)] at h1
   simp at h1
  ·rw[hne n hn m hm (.inl e.symm)]
 have innV:∀ k k' l,Inn k l→Inn k' l→k=k':=fun k k' l h1 h2=>by
  rcases h1 with ⟨s,hs,ho,rfl⟩|⟨n,hn,rfl,rfl⟩<;>rcases h2 with ⟨t,ht,ho',e⟩|⟨m,hm,e,e'⟩
  ·rw[hs] at ht
   obtain rfl:s=t:=by simpa using ht
   exact e
  ·have:=(hN.at m hm).1
   have:=(List.getElem?_eq_some_iff.1 hs).1
   omega
  ·have:=(hN.at n hn).1
   have:=(List.getElem?_eq_some_iff.1 ht).1
   omega
  ·rw[hne n hn m hm (.inr e'.symm)];exact e
 have inn:∀ k e,(modH h₂ ms)[k]?=some (some e)→(∃ l c,Inn k l∧hE[l]?=some (some c)∧ρ' k=ρ1 l∧(e.own=true→c.own=true)∧e.n≤c.n∧(∀ j,j<e.n→Re1 (partX ss 0++madeX ns) (e.f j) (c.f j))∧(e.x=Ext.none∨e.x=c.x))∨((∀ l,¬ Inn k l)∧(∀ s∈ss,s.e.own=true→s.i≠k)∧h₂[k]?=some (some e)∧ρ' k=ρ k):=fun k e hk=>by
  rcases get k e hk with ⟨l,s,hl,ho,rfl,rfl⟩|⟨n,hn,rfl,rfl⟩|⟨hnn,hk⟩
  ·have hmem:=List.mem_of_getElem? hl
   obtain⟨c,hc,hoc,hle,hR⟩:=hS.at l s hl ho
   rw[Nat.zero_add] at hc
   refine .inl ⟨l,c,.inl ⟨s,hl,ho,rfl⟩,hc,?_,hoc,hle,hR,?_⟩
   ·rw[ρold _ (filS s hmem),(hbase l s hl).2]
   ·rcases hSx l s hl ho with e|⟨c',hc',e⟩
    ·exact .inl e
    ·rw[hc] at hc'
     obtain rfl:c=c':=by simpa using hc'
     exact .inr e
  ·obtain⟨_,c,hc,hoc,hle,hR⟩:=hN.at n hn
   refine .inl ⟨n.k,c,.inr ⟨n,hn,rfl,rfl⟩,hc,ρnew n hn,hoc,hle,hR,?_⟩
   rcases hNx n hn with e|⟨c',hc',e⟩
   ·exact .inl e
   ·rw[hc] at hc'
    obtain rfl:c=c':=by simpa using hc'
    exact .inr e
  ·refine .inr ⟨fun l hl=>?_,hnn,hk,ρold k ⟨e,hk⟩⟩
   rcases hl with ⟨s,hs,ho,rfl⟩|⟨n,hn,rfl,rfl⟩
   ·exact hnn s (List.mem_of_getElem? hs) ho rfl
   ·rw[hNw n hn] at hk
    simp at hk
 have innIn:∀ k l,Inn k l→∀ b,(b=(ρ1 l).1∨∃ c,hE[l]?=some (some c)∧S1 l b)→w.heap.size≤b∨(∃ s∈ss,s.e.own=true∧S s.i b)∨∃ s∈ss,s.e.own=true∧b=(ρ s.i).1:=fun k l hl b hb=>by
  rcases hb with rfl|⟨c,hc,hb⟩
  ·rcases hl with ⟨s,hs,ho,rfl⟩|⟨n,hn,rfl,rfl⟩
   ·exact .inr (.inr ⟨s,List.mem_of_getElem? hs,ho,by rw[(hbase l s hs).2]⟩)
   ·rcases hnew n hn with h|h
    ·exact .inl h
    ·exact .inr (.inl h)
  ·rcases may b (E1.mine l c b hc hb).2.2 with h|h
   ·exact .inl h
   ·exact .inr (.inl h)
 have out:∀ b,b<w.heap.size→(∀ s∈ss,s.e.own=true→b≠(ρ s.i).1∧¬ S s.i b)→w'.heap[b]?=w.heap[b]?:=fun b hb hn=>
  H1.evo.same hb (fun hm=>by obtain⟨s,hs,ho,h⟩:=qko hm;exact(hn s hs ho).2 h) fun j hm=>by
   rcases hm with ⟨_,s,hs,hso,hbl,_⟩|⟨s,hs,ho,h⟩
   ·exact(hn s hs hso).1 hbl
   ·exact(hn s hs ho).2 h
 have apartO:∀ k e,(∀ s∈ss,s.e.own=true→s.i≠k)→h₂[k]?=some (some e)→∀ s∈ss,s.e.own=true→(ρ k).1≠(ρ s.i).1∧¬ S s.i (ρ k).1:=fun k e hnn hk s hs ho=>by
  refine⟨fun e'=>H.sep _ _ _ _ (hI s hs) ((hre.at s hs).1 ho).1 hk (hnn s hs ho) e'.symm,fun hb=>?_⟩
  exact(E.apart _ _ _ _ _ (hI s hs) hb hk (fun e=>hnn s hs ho e.symm)).1 rfl
 have apartS:∀ k e b,(∀ s∈ss,s.e.own=true→s.i≠k)→h₂[k]?=some (some e)→S k b→∀ s∈ss,s.e.own=true→b≠(ρ s.i).1∧¬ S s.i b:=fun k e b hnn hk hb s hs ho=>by
  obtain⟨h1,h2⟩:=E.apart _ _ b _ _ hk hb (hI s hs) (hnn s hs ho)
  exact⟨fun e=>h1 e.symm,h2⟩
 have same:∀ k c',h₂[k]?=some (some c')→(∀ s∈ss,s.e.own=true→s.i≠k)→w'.heap[(ρ k).1]?=w.heap[(ρ k).1]?:=fun k c' hk hnn=>
  out _ (H.lt _ _ hk) (apartO k c' hnn hk)
 refine⟨ρ',fun k hk=>ρold k hk,?_,?_⟩
 ·show HOK X ρ' (modH h₂ ms) w'
  refine⟨H.evo.into H1.evo (fun p hp=>?_) fun p j hj=>?_,fun k hk=>⟨fil k (H.base k hk).1,(ρold k (H.base k hk).1).trans (H.base k hk).2⟩,fun k e hk=>?_,fun k e hk j hj=>?_,fun k e hk hoe j hj=>?_,fun k e l f' hk hoe hlf hnel=>?_,?_⟩
  ·obtain⟨s,hs,ho,h⟩:=qko hp
   rcases(E.mine _ _ _ (hI s hs) h).2.2 with h|h
   ·exact .inl h
   ·exact .inr h.1
  ·rcases hj with ⟨_,s,hs,hso,hbl,h1,h2⟩|⟨s,hs,ho,h⟩
   ·have hbl:p=(ρ s.i).1:=hbl
    have h1:(ρ s.i).2≤j:=h1
    have h2:j<(ρ s.i).2+s.c.n:=h2
    have:=(H.own _ _ (hI s hs) ((hre.at s hs).1 hso).1 (j-(ρ s.i).2) (by omega)).2
    rw[show(ρ s.i).2+(j-(ρ s.i).2)=j from by omega,←hbl] at this
    exact this
   ·rcases(E.mine _ _ _ (hI s hs) h).2.2 with h|h
    ·exact .inl h
    ·exact .inr (h.2 j)
  ·rcases inn k e hk with ⟨l,c,_,hc,hρ,_⟩|⟨_,_,hk,hρ⟩
   ·rw[hρ];exact H1.lt _ _ hc
   ·rw[hρ];exact Nat.lt_of_lt_of_le (H.lt _ _ hk) hsz
  ·rcases inn k e hk with ⟨l,c,_,hc,hρ,_,hle,hR,_⟩|⟨_,hnn,hk,hρ⟩
   ·obtain⟨y,hy,hdy⟩:=H1.cell l c hc j (Nat.lt_of_lt_of_le hj hle)
    rw[hρ]
    exact⟨y,hy,fun r hrr=>((hR j hj).den (hden r hrr)).trans hdy.self⟩
   ·obtain⟨y,hy,hdy⟩:=H.cell _ _ hk j hj
    rw[hρ]
    refine⟨y,?_,hdy.more (fun i hi=>ρold i hi) fil⟩
    have:=same k e hk hnn
    rw[←hy]
    unfold World.cell?
    simp only[this]
  ·rcases get k e hk with ⟨l,s,hl,ho,rfl,rfl⟩|⟨n,hn,rfl,rfl⟩|⟨hnn,hk⟩
   ·have hmem:=List.mem_of_getElem? hl
    obtain⟨c,hc,hoc,hle,hR⟩:=hS.at l s hl ho
    rw[Nat.zero_add] at hc
    have h1:=(H1.own l c hc (hoc hoe) j (Nat.lt_of_lt_of_le hj hle)).1
    rw[(hbase l s hl).2] at h1
    rw[ρold _ (filS s hmem)]
    obtain⟨hco,hdn⟩:=(hre.at s hmem).1 ho
    exact⟨h1,(H.own _ _ (hI s hmem) hco j (Nat.lt_of_lt_of_le hj hdn)).2⟩
   ·obtain⟨_,c,hc,hoc,hle,_⟩:=hN.at n hn
    rw[ρnew n hn]
    refine⟨(H1.own n.k c hc (hoc hoe) j (Nat.lt_of_lt_of_le hj hle)).1,?_⟩
    rcases mayX _ (hnew n hn) with h|h
    ·exact .inl h
    ·exact .inr (h.2 _)
   ·obtain⟨hy,hdy⟩:=H.own _ _ hk hoe j hj
    rw[ρold k ⟨e,hk⟩]
    refine⟨?_,hdy⟩
    have:=same k e hk hnn
    rw[←hy]
    unfold World.frozen?
    simp only[this]
  ·rcases inn k e hk with ⟨i1,c,hi1,hc,hρ,hoc,_⟩|⟨hin,hnn,hk,hρ⟩<;>rcases inn l f' hlf with ⟨i2,c',hi2,hc',hρ2,_⟩|⟨hin2,hnn2,hlf,hρ2⟩
   ·rw[hρ,hρ2]
    exact H1.sep _ _ _ _ hc (hoc hoe) hc' fun ei=>hnel (innV _ _ i1 hi1 (by rw[ei];exact hi2))
   ·rw[hρ,hρ2]
    have h1:=H.lt _ _ hlf
    have h2:=apartO l f' hnn2 hlf
    rcases innIn _ _ hi1 _ (.inl rfl) with h|⟨s,hs,ho,h⟩|⟨s,hs,ho,h⟩
    ·omega
    ·exact fun e=>(h2 s hs ho).2 (e▸h)
    ·exact fun e=>(h2 s hs ho).1 (e▸h)
   ·rw[hρ,hρ2]
    have h1:=H.lt _ _ hk
    have h2:=apartO k e hnn hk
    rcases innIn _ _ hi2 _ (.inl rfl) with h|⟨s,hs,ho,h⟩|⟨s,hs,ho,h⟩
    ·omega
    ·exact fun e=>(h2 s hs ho).2 (e.symm▸h)
    ·exact fun e=>(h2 s hs ho).1 (e.trans h)
   ·rw[hρ,hρ2]
    exact H.sep _ _ _ _ hk hoe hlf hnel
  ·refine⟨fun k b=>∃ e,(modH h₂ ms)[k]?=some (some e)∧e.x≠Ext.none∧((∃ l,Inn k l∧S1 l b)∨((∀ l,¬ Inn k l)∧S k b)),fun k e hk=>?_,fun k e b hk hS'=>?_,fun k e b l d hk hS' hl hnel=>?_⟩
   ·by_cases en:e.x=Ext.none
    ·rw[en]
     rintro b ⟨e',he',h1,_⟩
     rw[hk] at he'
     obtain rfl:e=e':=by simpa using he'
     exact h1 en
    ·rcases inn k e hk with ⟨l,c,hil,hc,hρ,_,_,_,hx⟩|⟨hin,hnn,hk2,hρ⟩
     ·have:(fun b=>∃ e,(modH h₂ ms)[k]?=some (some e)∧e.x≠Ext.none∧((∃ l,Inn k l∧S1 l b)∨((∀ l,¬ Inn k l)∧S k b)))=S1 l:=by
       funext b
       refine propext ⟨?_,fun h=>⟨e,hk,en,.inl ⟨l,hil,h⟩⟩⟩
       rintro⟨e',_,_,⟨l',hl',h⟩|⟨h,_⟩⟩
       ·rw[innU k l l' hil hl'];exact h
       ·exact absurd hil (h l)
      rw[this,hρ]
      rcases hx with hx|hx
      ·exact absurd hx en
      ·rw[hx];exact E1.inv l c hc
     ·have:(fun b=>∃ e,(modH h₂ ms)[k]?=some (some e)∧e.x≠Ext.none∧((∃ l,Inn k l∧S1 l b)∨((∀ l,¬ Inn k l)∧S k b)))=S k:=by
       funext b
       refine propext ⟨?_,fun h=>⟨e,hk,en,.inr ⟨hin,h⟩⟩⟩
       rintro⟨e',_,_,⟨l',hl',h⟩|⟨_,h⟩⟩
       ·exact absurd hl' (hin l')
       ·exact h
      rw[this,hρ]
      exact e.x.keep (E.inv k e hk2) fun b hb=>out b (E.mine k e b hk2 hb).2.1 (apartS k e b hnn hk2 hb)
   ·obtain⟨e',he',_,hS'⟩:=hS'
    rcases inn k e hk with ⟨l,c,hil,hc,hρ,_,hle,_,hx⟩|⟨hin,hnn,hk2,hρ⟩
    ·rcases hS' with ⟨l',hl',hb⟩|⟨h,_⟩
     ·obtain rfl:=innU k l l' hil hl'
      obtain⟨h1,h2,h3⟩:=E1.mine l c b hc hb
      exact⟨by rw[hρ];omega,h2,mayX b (may b h3)⟩
     ·exact absurd hil (h l)
    ·rcases hS' with ⟨l',hl',hb⟩|⟨_,hb⟩
     ·exact absurd hl' (hin l')
     ·obtain⟨h1,h2,h3⟩:=E.mine k e b hk2 hb
      exact⟨by rw[hρ];exact h1,Nat.lt_of_lt_of_le h2 hsz,h3⟩
   ·obtain⟨e',he',_,hS'⟩:=hS'
    have key:(ρ' l).1≠b∧¬ ((∃ l',Inn l l'∧S1 l' b)∨((∀ l',¬ Inn l l')∧S l b)):=by
     rcases inn k e hk with ⟨i1,c,hi1,hc,hρ,_⟩|⟨hin,hnn,hk2,hρ⟩<;>rcases inn l d hl with ⟨i2,c',hi2,hc',hρ2,_⟩|⟨hin2,hnn2,hl2,hρ2⟩
     ·rcases hS' with ⟨l',hl',hb⟩|⟨h,_⟩
      ·obtain rfl:=innU k i1 l' hi1 hl'
       obtain⟨h1,h2⟩:=E1.apart i1 c b i2 c' hc hb hc' fun ei=>hnel (innV _ _ i2 hi2 (by rw[ei];exact hi1))
       refine⟨by rw[hρ2];exact h1,?_⟩
       rintro(⟨l'',hl'',hb'⟩|⟨h,_⟩)
       ·obtain rfl:=innU l i2 l'' hi2 hl''
        exact h2 hb'
       ·exact h i2 hi2
      ·exact absurd hi1 (h i1)
     ·rcases hS' with ⟨l',hl',hb⟩|⟨h,_⟩
      ·obtain rfl:=innU k i1 l' hi1 hl'
       have hb1:=may b (E1.mine i1 c b hc hb).2.2
       refine⟨?_,?_⟩
       ·rw[hρ2]
        rcases hb1 with h|⟨s,hs,ho,h⟩
        ·have:=H.lt _ _ hl2;omega
        ·exact fun e=>(apartO l d hnn2 hl2 s hs ho).2 (e▸h)
       ·rintro(⟨l'',hl'',hb'⟩|⟨_,hb'⟩)
        ·exact hin2 l'' hl''
        ·rcases hb1 with h|⟨s,hs,ho,h⟩
         ·have:=(E.mine l d b hl2 hb').2.1;omega
         ·exact(apartS l d b hnn2 hl2 hb' s hs ho).2 h
      ·exact absurd hi1 (h i1)
     ·rcases hS' with ⟨l',hl',hb⟩|⟨_,hb⟩
      ·exact absurd hl' (hin l')
      ·have hlt:=(E.mine k e b hk2 hb).2.1
       have hap2:=apartS k e b hnn hk2 hb
       refine⟨?_,?_⟩
       ·rw[hρ2]
        intro e3
        rcases innIn _ _ hi2 b (.inl e3.symm) with h|⟨s,hs,ho,h⟩|⟨s,hs,ho,h⟩
        ·omega
        ·exact(hap2 s hs ho).2 h
        ·exact(hap2 s hs ho).1 h
       ·rintro(⟨l'',hl'',hb'⟩|⟨h,_⟩)
        ·obtain rfl:=innU l i2 l'' hi2 hl''
         rcases innIn _ _ hi2 b (.inr ⟨c',hc',hb'⟩) with h|⟨s,hs,ho,h⟩|⟨s,hs,ho,h⟩
         ·omega
         ·exact(hap2 s hs ho).2 h
         ·exact(hap2 s hs ho).1 h
        ·exact h i2 hi2
     ·rcases hS' with ⟨l',hl',hb⟩|⟨_,hb⟩
      ·exact absurd hl' (hin l')
      ·obtain⟨h1,h2⟩:=E.apart k e b l d hk2 hb hl2 hnel
       refine⟨by rw[hρ2];exact h1,?_⟩
       rintro(⟨l'',hl'',_⟩|⟨_,hb'⟩)
       ·exact hin2 l'' hl''
       ·exact h2 hb'
    exact⟨key.1,fun⟨_,_,_,h⟩=>key.2 h⟩
 ·intro r hrr
  rw[hV.den (hden r hrr)]
  exact hdx.self
def PartsN:List Piece→Prop
 | []=>True
 | s::r=>(s.e.x=Ext.none∧s.d.x=Ext.none)∧PartsN r
theorem PartsN.at:∀ {ss:List Piece},PartsN ss→∀ s∈ss,s.e.x=Ext.none∧s.d.x=Ext.none
 | t::r,hp,s,hs=>by
  rcases List.mem_cons.1 hs with rfl|hs
  ·exact hp.1
  ·exact PartsN.at hp.2 s hs
theorem qar {g:FuncId} {fn:Func} {cd:Code} {h:Hp} {vs:List Value} {V:Value} (ss:List Piece) (ns:List Fresh) (vs':List Value)
  (hG:TysOK P G) (hm:P.follows .mixedOrders=true) (hf:P.funcs[g]?=some fn) (hb:fn.body=some cd) (hr:∀ xs w,(callFunc g xs).run P w=.ok (.enter g xs) w)
  (hin:PartsIn h ss) (hre:PartsRe (partX ss 0) ss) (hap:Apart ss) (hmi:MadeIn h ns) (hvs:All2 (Re2 (partX ss 0)) vs vs')
  (hwp:initK vs' fn.ntmps fun t=>wpC P G ss.length cd (bodyQ P G fn fun v st=>N (Obl (Re (partX ss 0++madeX ns) V v) (N (Obl (PostS (partX ss 0++madeX ns) st.h ss 0) (N (Obl (PostN (partX ss 0++madeX ns) st.h ss.length ns) (N True))))))) ⟨t,partH ss⟩)
  (hex:PartsN ss:=by(first|exact True.intro|exact⟨⟨rfl,rfl⟩,True.intro⟩|exact⟨⟨rfl,rfl⟩,⟨rfl,rfl⟩,True.intro⟩|exact⟨⟨rfl,rfl⟩,⟨rfl,rfl⟩,⟨rfl,rfl⟩,True.intro⟩|exact⟨⟨rfl,rfl⟩,⟨rfl,rfl⟩,⟨rfl,rfl⟩,⟨rfl,rfl⟩,True.intro⟩|exact⟨⟨rfl,rfl⟩,⟨rfl,rfl⟩,⟨rfl,rfl⟩,⟨rfl,rfl⟩,⟨rfl,rfl⟩,True.intro⟩|exact⟨⟨rfl,rfl⟩,⟨rfl,rfl⟩,⟨rfl,rfl⟩,⟨rfl,rfl⟩,⟨rfl,rfl⟩,⟨rfl,rfl⟩,True.intro⟩|exact⟨⟨rfl,rfl⟩,⟨rfl,rfl⟩,⟨rfl,rfl⟩,⟨rfl,rfl⟩,⟨rfl,rfl⟩,⟨rfl,rfl⟩,⟨rfl,rfl⟩,True.intro⟩|exact⟨⟨rfl,rfl⟩,⟨rfl,rfl⟩,⟨rfl,rfl⟩,⟨rfl,rfl⟩,⟨rfl,rfl⟩,⟨rfl,rfl⟩,⟨rfl,rfl⟩,⟨rfl,rfl⟩,True.intro⟩|exact⟨⟨rfl,rfl⟩,⟨rfl,rfl⟩,⟨rfl,rfl⟩,⟨rfl,rfl⟩,⟨rfl,rfl⟩,⟨rfl,rfl⟩,⟨rfl,rfl⟩,⟨rfl,rfl⟩,⟨rfl,rfl⟩,True.intro⟩|exact⟨⟨rfl,rfl⟩,⟨rfl,rfl⟩,⟨rfl,rfl⟩,⟨rfl,rfl⟩,⟨rfl,rfl⟩,⟨rfl,rfl⟩,⟨rfl,rfl⟩,⟨rfl,rfl⟩,⟨rfl,rfl⟩,⟨rfl,rfl⟩,True.intro⟩)) :
  qad P g vs h V (partM ss++madeM ns) (partR ss):=fun h₂ hrd hms X ρ w xs H hx=>by
 have hI:∀ s∈ss,h₂[s.i]?=some (some s.c):=fun s hs=>by
  cases e:s.e.own with
  | true=>exact(hms (s.i,s.d) (List.mem_append_left _ (partM_mem.2 ⟨s,hs,e,rfl⟩))).trans (hin.at s hs)
  | false=>exact(hrd s.i (qh8 ⟨s,hs,e,rfl⟩)).trans (hin.at s hs)
 have hNw:∀ n∈ns,h₂[n.i]?=some none:=fun n hn=>(hms (n.i,n.d) (List.mem_append_right _ (madeM_mem.2 ⟨n,hn,rfl⟩))).trans (hmi.at n hn).1
 obtain⟨S,E⟩:=H.ext
 refine .inr ⟨hr _ w,?_⟩
 refine(qtc ss vs' hG hm hf hb hI hre hap (fun s hs=>.inl (hex.at s hs).1) hvs hwp H E hx).mono ?_
 rintro e w' ⟨ρ1,v,st,x,rfl,H1,hdx,hq⟩
 have q1:Re (partX ss 0++madeX ns) V v∧N _:=N.out hq
 have q2:PostS (partX ss 0++madeX ns) st.h ss 0∧N _:=N.out q1.2
 have q3:PostN (partX ss 0++madeX ns) st.h ss.length ns∧N True:=N.out q2.2
 exact⟨x,rfl,qho ss ns hI hNw hre hap (fun n hn=>⟨(hmi.at n hn).2.1,.inl (hmi.at n hn).2.2.1⟩) (fun n hn m hm=>hmi.ne n hn m hm) H E H1 hdx q1.1 q2.1 q3.1 (fun l s hl _=>.inl (hex.at s (List.mem_of_getElem? hl)).2) fun n hn=>.inl (hmi.at n hn).2.2.2⟩
def setD:List Piece→List Chunk→List Piece
 | [],_=>[]
 | s::r,[]=>s::setD r []
 | s::r,d::ds=>⟨s.i,s.c,s.e,d⟩::setD r ds
theorem qhp:∀ (ss:List Piece),setD ss []=ss
 | []=>rfl
 | s::r=>by simp[setD,qhp r]
theorem qf5 {β:Type} (f:Nat→Chunk→Chunk→β):∀ (ss:List Piece) (ds:List Chunk),(setD ss ds).map (fun s=>f s.i s.c s.e)=ss.map (fun s=>f s.i s.c s.e)
 | [],_=>rfl
 | s::r,[]=>by simp[setD,qhp]
 | s::r,d::ds=>by simp only[setD,List.map_cons,qf5 f r ds]
theorem qhq (ss:List Piece) (ds:List Chunk):(setD ss ds).length=ss.length:=by
 have:=congrArg List.length (qf5 (fun i _ _=>i) ss ds);simpa using this
theorem qf6:∀ (ss:List Piece) (ds:List Chunk) (k:Nat),partX (setD ss ds) k=partX ss k
 | [],_,_=>rfl
 | s::r,[],k=>by rw[qhp]
 | s::r,d::ds,k=>by simp only[setD,partX,qf6 r ds]
theorem qhr {ss:List Piece} {ds:List Chunk} {s:Piece} (h:s∈setD ss ds):∃ t∈ss,t.i=s.i∧t.c=s.c∧t.e=s.e:=by
 have:=qf5 (fun i c e=>(i,c,e)) ss ds
 have hm:(s.i,s.c,s.e)∈(setD ss ds).map (fun s=>(s.i,s.c,s.e)):=List.mem_map.2 ⟨s,h,rfl⟩
 rw[this] at hm
 obtain⟨t,ht,e⟩:=List.mem_map.1 hm
 simp only[Prod.mk.injEq] at e
 exact⟨t,ht,e.1,e.2.1,e.2.2⟩
theorem qtd {ss:List Piece} {ds:List Chunk} {t:Piece} (h:t∈ss):∃ s∈setD ss ds,t.i=s.i∧t.c=s.c∧t.e=s.e:=by
 have:=qf5 (fun i c e=>(i,c,e)) ss ds
 have hm:(t.i,t.c,t.e)∈ss.map (fun s=>(s.i,s.c,s.e)):=List.mem_map.2 ⟨t,h,rfl⟩
 rw[←this] at hm
 obtain⟨s,hs,e⟩:=List.mem_map.1 hm
 simp only[Prod.mk.injEq] at e
 exact⟨s,hs,e.1.symm,e.2.1.symm,e.2.2.symm⟩
theorem qz6 (ss:List Piece) (ds:List Chunk):subσ (setD ss ds)=subσ ss:=by
 funext k
 have:=congrArg (fun l=>l[k]?) (qf5 (fun i _ _=>i) ss ds)
 simp only[List.getElem?_map] at this
 unfold subσ
 cases h1:(setD ss ds)[k]?<;>cases h2:ss[k]?<;>simp_all
theorem qz7 (ρ:Nat→Nat×Nat) (S:Nat→Nat→Prop) (ss:List Piece) (ds:List Chunk):subM ρ S (setD ss ds)=subM ρ S ss:=by
 funext a
 unfold subM
 refine propext ⟨fun h=>?_,fun h=>?_⟩
 ·rcases h with ⟨h,s,hs,h1⟩|⟨s,hs,h1⟩<;>obtain⟨t,ht,e1,e2,e3⟩:=qhr hs
  ·exact .inl ⟨h,t,ht,by rw[e1,e2,e3];exact h1⟩
  ·exact .inr ⟨t,ht,by rw[e1,e3];exact h1⟩
 ·rcases h with ⟨h,s,hs,h1⟩|⟨s,hs,h1⟩<;>obtain⟨t,ht,e1,e2,e3⟩:=qtd (ds:=ds) hs
  ·exact .inl ⟨h,t,ht,by rw[←e1,←e2,←e3];exact h1⟩
  ·exact .inr ⟨t,ht,by rw[←e1,←e3];exact h1⟩
theorem qgv:∀ {ss:List Piece} {ds:List Chunk},Apart ss→Apart (setD ss ds)
 | [],_,_=>trivial
 | s::r,[],h=>by rw[qhp];exact h
 | s::r,d::ds,h=>⟨fun t ht ho=>by
   obtain⟨t',ht',e1,_,e3⟩:=qhr ht
   have:=h.1 t' ht' (by rw[e3];exact ho)
   rw[e1] at this;exact this,qgv h.2⟩
def SomeN {α:Type} (p:α→Prop):Prop:=∃ κ,p κ
theorem N.some {α:Type} {p:α→Prop} (κ:α) (h:p κ):N (SomeN p):=N.mk ⟨κ,h⟩
theorem qia {α:Type} {g:FuncId} {fn:Func} {cd:Code} {h:Hp} {vs:List Value} (ok:α→Prop) (V:α→Value) (ss:List Piece) (dd:α→List Chunk) (ns:α→List Fresh) (vs':List Value)
  (hG:TysOK P G) (hm:P.follows .mixedOrders=true) (hf:P.funcs[g]?=some fn) (hb:fn.body=some cd) (hr:∀ xs w,(callFunc g xs).run P w=.ok (.enter g xs) w)
  (hin:PartsIn h ss) (hre0:PartsRe (partX ss 0) ss) (hre:∀ κ,ok κ→PartsRe (partX ss 0) (setD ss (dd κ))) (hap:Apart ss) (hmi:∀ κ,ok κ→MadeIn h (ns κ)) (hvs:All2 (Re2 (partX ss 0)) vs vs')
  (hwp:initK vs' fn.ntmps fun t=>wpC P G ss.length cd (bodyQ P G fn fun v st=>N (SomeN fun κ=>ok κ∧N (Obl (Re (partX ss 0++madeX (ns κ)) (V κ) v) (N (Obl (PostS (partX ss 0++madeX (ns κ)) st.h (setD ss (dd κ)) 0) (N (Obl (PostN (partX ss 0++madeX (ns κ)) st.h ss.length (ns κ)) (N True)))))))) ⟨t,partH ss⟩)
  (hex0:PartsN ss:=by(first|exact True.intro|exact⟨⟨rfl,rfl⟩,True.intro⟩|exact⟨⟨rfl,rfl⟩,⟨rfl,rfl⟩,True.intro⟩|exact⟨⟨rfl,rfl⟩,⟨rfl,rfl⟩,⟨rfl,rfl⟩,True.intro⟩|exact⟨⟨rfl,rfl⟩,⟨rfl,rfl⟩,⟨rfl,rfl⟩,⟨rfl,rfl⟩,True.intro⟩|exact⟨⟨rfl,rfl⟩,⟨rfl,rfl⟩,⟨rfl,rfl⟩,⟨rfl,rfl⟩,⟨rfl,rfl⟩,True.intro⟩|exact⟨⟨rfl,rfl⟩,⟨rfl,rfl⟩,⟨rfl,rfl⟩,⟨rfl,rfl⟩,⟨rfl,rfl⟩,⟨rfl,rfl⟩,True.intro⟩|exact⟨⟨rfl,rfl⟩,⟨rfl,rfl⟩,⟨rfl,rfl⟩,⟨rfl,rfl⟩,⟨rfl,rfl⟩,⟨rfl,rfl⟩,⟨rfl,rfl⟩,True.intro⟩|exact⟨⟨rfl,rfl⟩,⟨rfl,rfl⟩,⟨rfl,rfl⟩,⟨rfl,rfl⟩,⟨rfl,rfl⟩,⟨rfl,rfl⟩,⟨rfl,rfl⟩,⟨rfl,rfl⟩,True.intro⟩|exact⟨⟨rfl,rfl⟩,⟨rfl,rfl⟩,⟨rfl,rfl⟩,⟨rfl,rfl⟩,⟨rfl,rfl⟩,⟨rfl,rfl⟩,⟨rfl,rfl⟩,⟨rfl,rfl⟩,⟨rfl,rfl⟩,True.intro⟩|exact⟨⟨rfl,rfl⟩,⟨rfl,rfl⟩,⟨rfl,rfl⟩,⟨rfl,rfl⟩,⟨rfl,rfl⟩,⟨rfl,rfl⟩,⟨rfl,rfl⟩,⟨rfl,rfl⟩,⟨rfl,rfl⟩,⟨rfl,rfl⟩,True.intro⟩)) (hex:∀ κ,ok κ→PartsN (setD ss (dd κ)):=by(intro κ _;(first|exact True.intro|exact⟨⟨rfl,rfl⟩,True.intro⟩|exact⟨⟨rfl,rfl⟩,⟨rfl,rfl⟩,True.intro⟩|exact⟨⟨rfl,rfl⟩,⟨rfl,rfl⟩,⟨rfl,rfl⟩,True.intro⟩|exact⟨⟨rfl,rfl⟩,⟨rfl,rfl⟩,⟨rfl,rfl⟩,⟨rfl,rfl⟩,True.intro⟩|exact⟨⟨rfl,rfl⟩,⟨rfl,rfl⟩,⟨rfl,rfl⟩,⟨rfl,rfl⟩,⟨rfl,rfl⟩,True.intro⟩|exact⟨⟨rfl,rfl⟩,⟨rfl,rfl⟩,⟨rfl,rfl⟩,⟨rfl,rfl⟩,⟨rfl,rfl⟩,⟨rfl,rfl⟩,True.intro⟩|exact⟨⟨rfl,rfl⟩,⟨rfl,rfl⟩,⟨rfl,rfl⟩,⟨rfl,rfl⟩,⟨rfl,rfl⟩,⟨rfl,rfl⟩,⟨rfl,rfl⟩,True.intro⟩|exact⟨⟨rfl,rfl⟩,⟨rfl,rfl⟩,⟨rfl,rfl⟩,⟨rfl,rfl⟩,⟨rfl,rfl⟩,⟨rfl,rfl⟩,⟨rfl,rfl⟩,⟨rfl,rfl⟩,True.intro⟩|exact⟨⟨rfl,rfl⟩,⟨rfl,rfl⟩,⟨rfl,rfl⟩,⟨rfl,rfl⟩,⟨rfl,rfl⟩,⟨rfl,rfl⟩,⟨rfl,rfl⟩,⟨rfl,rfl⟩,⟨rfl,rfl⟩,True.intro⟩|exact⟨⟨rfl,rfl⟩,⟨rfl,rfl⟩,⟨rfl,rfl⟩,⟨rfl,rfl⟩,⟨rfl,rfl⟩,⟨rfl,rfl⟩,⟨rfl,rfl⟩,⟨rfl,rfl⟩,⟨rfl,rfl⟩,⟨rfl,rfl⟩,True.intro⟩))) :
  CallAll P g vs h fun v ms=>∃ κ,ok κ∧v=V κ∧ms=partM (setD ss (dd κ))++madeM (ns κ):=fun X ρ w xs H hx=>by
 obtain⟨S,E⟩:=H.ext
 refine .inr ⟨hr _ w,?_⟩
 refine(qtc ss vs' hG hm hf hb (fun s hs=>hin.at s hs) hre0 hap (fun s hs=>.inl (hex0.at s hs).1) hvs hwp H E hx).mono ?_
 rintro e w' ⟨ρ1,v,st,x,rfl,H1,hdx,hq⟩
 obtain⟨κ,hok,hq⟩:=N.out hq
 have q1:Re (partX ss 0++madeX (ns κ)) (V κ) v∧N _:=N.out hq
 have q2:PostS (partX ss 0++madeX (ns κ)) st.h (setD ss (dd κ)) 0∧N _:=N.out q1.2
 have q3:PostN (partX ss 0++madeX (ns κ)) st.h ss.length (ns κ)∧N True:=N.out q2.2
 obtain⟨ρ',ha,hh,hd⟩:=qho (h₂:=h) (hE:=st.h) (V:=V κ) (setD ss (dd κ)) (ns κ) (fun s hs=>by
  obtain⟨t,ht,e1,e2,_⟩:=qhr hs
  rw[←e1,←e2];exact hin.at t ht) (fun n hn=>((hmi κ hok).at n hn).1) (by rw[qf6];exact hre κ hok) (qgv hap) (fun n hn=>⟨((hmi κ hok).at n hn).2.1,.inl ((hmi κ hok).at n hn).2.2.1⟩) (fun n hn m hm=>(hmi κ hok).ne n hn m hm) H E
  (by rw[qz7,qz6,qhq];exact H1) hdx (by rw[qf6];exact q1.1) (by rw[qf6];exact q2.1) (by rw[qf6,qhq];exact q3.1) (fun l s hl _=>.inl ((hex κ hok).at s (List.mem_of_getElem? hl)).2) fun n hn=>.inl ((hmi κ hok).at n hn).2.2.2
 exact⟨x,rfl,V κ,_,ρ',⟨κ,hok,rfl,rfl⟩,ha,hh,hd⟩
end
theorem i64s (n:Int) (h0 : -9223372036854775808≤n) (h1:n<9223372036854775808):IntKind.i64.wrap n=n:=by rw[IntKind.wrap_i64];omega
theorem boolD {b:Bool} {p:Prop} [Decidable p] (h:b=true↔p):Value.bool b=.bool (decide p):=by
 congr 1
 rw[Bool.eq_iff_iff,h,decide_eq_true_iff]
open Go Go.RowKit
structure NewC (X:Ctx) (ρ':Nat→Nat×Nat) (h':Hp) (w:World) (F:Nat→Prop) (T:Nat→Nat→Prop) (k:Nat) (d:Chunk):Prop where
 blk:F (ρ' k).1
 cell:∀ j,j<d.n→∃ x,w.cell? ⟨(ρ' k).1,(ρ' k).2+j,none⟩=some x∧Den1 (Fil h') ρ' (d.f j) x
 own:d.own=true→∀ j,j<d.n→w.frozen? ⟨(ρ' k).1,(ρ' k).2+j,none⟩=false
 inv:d.x.inv (ρ' k) (T k) w
 foot:∀ b,T k b→F b∧(d.n=0∨b≠(ρ' k).1)
theorem HOK.redo {X:Ctx} {ρ ρ':Nat→Nat×Nat} {h h':Hp} {w:World} {S T:Nat→Nat→Prop} (H:HOK X ρ h w) (E:ExtOK X ρ h w S) (J A F:Nat→Prop)
  (hF:∀ b,F b→∃ (j:Nat) (c:Chunk),J j∧h[j]?=some (some c)∧((c.own=true∧b=(ρ j).1)∨S j b)) (hmay:∀ b,F b→May X b)
  (hbase:∀ i,i<X.n0→Fil h' i∧ρ' i=ρ i)
  (hold:∀ (k:Nat) (d:Chunk),h'[k]?=some (some d)→¬ A k→¬ J k∧ρ' k=ρ k∧h[k]?=some (some d)∧∀ j,j<d.n→∀ x,Den1 (Fil h) ρ (d.f j) x→Den1 (Fil h') ρ' (d.f j) x)
  (hnew:∀ (k:Nat) (d:Chunk),h'[k]?=some (some d)→A k→NewC X ρ' h' w F T k d)
  (hsep:∀ (k:Nat) (d:Chunk) (l:Nat) (e:Chunk),h'[k]?=some (some d)→A k→h'[l]?=some (some e)→A l→k≠l→(d.own=true→(ρ' k).1≠(ρ' l).1)∧∀ b,T k b→(ρ' l).1≠b∧¬ T l b):HOK X ρ' h' w:=by
 have outF:∀ (k:Nat) (e:Chunk),h[k]?=some (some e)→¬ J k→¬ F (ρ k).1:=fun k e hk hJ hb=>by
  obtain⟨j,c,hj,hc,hb⟩:=hF _ hb
  have hne:j≠k:=fun e=>hJ (e▸hj)
  rcases hb with ⟨ho,hb⟩|hb
  ·exact H.sep _ _ _ _ hc ho hk hne hb.symm
  ·exact(E.apart _ _ _ _ _ hc hb hk hne.symm).1 rfl
 have outS:∀ (k:Nat) (e:Chunk) (b:Nat),h[k]?=some (some e)→¬ J k→S k b→¬ F b:=fun k e b hk hJ hS hb=>by
  obtain⟨j,c,hj,hc,hb⟩:=hF _ hb
  have hne:j≠k:=fun e=>hJ (e▸hj)
  obtain⟨a1,a2⟩:=E.apart _ _ b _ _ hk hS hc hne
  rcases hb with ⟨ho,hb⟩|hb
  ·exact a1 hb.symm
  ·exact a2 hb
 have inF:∀ b,F b→b<w.heap.size:=fun b hb=>by
  obtain⟨j,c,hj,hc,hb⟩:=hF _ hb
  rcases hb with ⟨ho,rfl⟩|hb
  ·exact H.lt _ _ hc
  ·exact(E.mine _ _ _ hc hb).2.1
 refine⟨H.evo,fun i hi=>⟨(hbase i hi).1,(hbase i hi).2.trans (H.base i hi).2⟩,fun k d hk=>?_,fun k d hk j hj=>?_,fun k d hk ho j hj=>?_,fun k d l e hk ho hl hne=>?_,?_⟩
 ·by_cases hA:A k
  ·exact inF _ (hnew k d hk hA).blk
  ·obtain⟨_,hρ,hk',_⟩:=hold k d hk hA
   rw[hρ];exact H.lt _ _ hk'
 ·by_cases hA:A k
  ·exact(hnew k d hk hA).cell j hj
  ·obtain⟨_,hρ,hk',hd⟩:=hold k d hk hA
   rw[hρ]
   obtain⟨x,hx,hx2⟩:=H.cell _ _ hk' j hj
   exact⟨x,hx,hd j hj x hx2⟩
 ·by_cases hA:A k
  ·refine⟨(hnew k d hk hA).own ho j hj,?_⟩
   rcases hmay _ (hnew k d hk hA).blk with h1|h1
   ·exact .inl h1
   ·exact .inr (h1.2 _)
  ·obtain⟨_,hρ,hk',_⟩:=hold k d hk hA
   rw[hρ];exact H.own _ _ hk' ho j hj
 ·by_cases hA:A k<;>by_cases hB:A l
  ·exact(hsep k d l e hk hA hl hB hne).1 ho
  ·obtain⟨hJ,hρ,hl',_⟩:=hold l e hl hB
   rw[hρ]
   exact fun e'=>outF l e hl' hJ (e'▸(hnew k d hk hA).blk)
  ·obtain⟨hJ,hρ,hk',_⟩:=hold k d hk hA
   rw[hρ]
   exact fun e'=>outF k d hk' hJ (e'▸(hnew l e hl hB).blk)
  ·obtain⟨hJ,hρ,hk',_⟩:=hold k d hk hA
   obtain⟨hJ2,hρ2,hl',_⟩:=hold l e hl hB
   rw[hρ,hρ2]
   exact H.sep _ _ _ _ hk' ho hl' hne
 ·refine⟨fun k b=>(A k∧T k b)∨(¬ A k∧S k b),fun k d hk=>?_,fun k d b hk hS=>?_,fun k d b l e hk hS hl hne=>?_⟩
  ·by_cases hA:A k
   ·have:(fun b=>(A k∧T k b)∨(¬ A k∧S k b))=T k:=by
     funext b;exact propext ⟨fun h=>by rcases h with h|h;exact h.2;exact absurd hA h.1,fun h=>.inl ⟨hA,h⟩⟩
    rw[this];exact(hnew k d hk hA).inv
   ·have:(fun b=>(A k∧T k b)∨(¬ A k∧S k b))=S k:=by
     funext b;exact propext ⟨fun h=>by rcases h with h|h;exact absurd h.1 hA;exact h.2,fun h=>.inr ⟨hA,h⟩⟩
    rw[this]
    obtain⟨_,hρ,hk',_⟩:=hold k d hk hA
    rw[hρ];exact E.inv k d hk'
  ·rcases hS with ⟨hA,hT⟩|⟨hA,hS⟩
   ·obtain⟨h1,h2⟩:=(hnew k d hk hA).foot b hT
    exact⟨h2,inF b h1,hmay b h1⟩
   ·obtain⟨_,hρ,hk',_⟩:=hold k d hk hA
    rw[hρ];exact E.mine k d b hk' hS
  ·rcases hS with ⟨hA,hT⟩|⟨hA,hS⟩
   ·by_cases hB:A l
    ·obtain⟨a1,a2⟩:=(hsep k d l e hk hA hl hB (Ne.symm hne)).2 b hT
     exact⟨a1,fun h=>by rcases h with h|h;exact a2 h.2;exact h.1 hB⟩
    ·obtain⟨hJ,hρ,hl',_⟩:=hold l e hl hB
     have hFb:=((hnew k d hk hA).foot b hT).1
     refine⟨by rw[hρ];exact fun e'=>outF l e hl' hJ (e'▸hFb),fun h=>?_⟩
     rcases h with h|h
     ·exact hB h.1
     ·exact outS l e b hl' hJ h.2 hFb
   ·obtain⟨hJ,hρ,hk',_⟩:=hold k d hk hA
    by_cases hB:A l
    ·refine⟨fun e'=>outS k d b hk' hJ hS (e'▸(hnew l e hl hB).blk),fun h=>?_⟩
     rcases h with h|h
     ·exact outS k d b hk' hJ hS ((hnew l e hl hB).foot b h.2).1
     ·exact h.1 hB
    ·obtain⟨_,hρ2,hl',_⟩:=hold l e hl hB
     obtain⟨a1,a2⟩:=E.apart k d b l e hk' hS hl' hne
     refine⟨by rw[hρ2];exact a1,fun h=>?_⟩
     rcases h with h|h
     ·exact hB h.1
     ·exact a2 h.2
structure Tidy (X:Ctx) (ss:List Piece):Prop where
 n0:X.n0=ss.length
 m:∀ b j,X.M ⟨b,j,none⟩→(∃ k,k<X.n0∧b=(X.ρ0 k).1)∨May X b
 x:∀ (k:Nat) (s:Piece),ss[k]?=some s→s.e.x≠Ext.none→Selfish s.e.x→May X (X.ρ0 k).1
theorem Tidy.may {X:Ctx} {ss:List Piece} {ρ:Nat→Nat×Nat} {h:Hp} {w:World} (T:Tidy X ss) (H:HOK X ρ h w) {j:Nat} {c:Chunk} (hj:h[j]?=some (some c)) (ho:c.own=true) (hn:0<c.n) (hl:ss.length≤j):May X (ρ j).1:=by
 rcases(H.own j c hj ho 0 hn).2 with h1|h1
 ·exact .inl h1
 ·rcases T.m _ _ h1 with ⟨k,hk,hb⟩|h2
  ·obtain⟨⟨d,hd⟩,hρ⟩:=H.base k hk
   have:=H.sep j c k d hj ho hd (by have:=T.n0;omega)
   rw[hρ] at this
   exact absurd hb this
  ·exact h2
theorem Tidy.mayX {X:Ctx} {ss:List Piece} {ρ:Nat→Nat×Nat} {h:Hp} {w:World} (T:Tidy X ss) (H:HOK X ρ h w) {k:Nat} {s:Piece} (hk:ss[k]?=some s) (hx:s.e.x≠Ext.none) (hs:Selfish s.e.x):May X (ρ k).1:=by
 have hl:=(List.getElem?_eq_some_iff.1 hk).1
 rw[(H.base k (by rw[T.n0];exact hl)).2]
 exact T.x k s hk hx hs
def EndN (ss:List Piece) (h:Hp) (v:Value) (K:Value→Hp→Prop):Prop:=
 ∀ X ρ w x,Tidy X ss→HOK X ρ h w→Den (Fil h) ρ v x→∃ v' h' ρ',HOK X ρ' h' w∧Den (Fil h') ρ' v' x∧K v' h'
theorem N.endSame {ss:List Piece} {h:Hp} {v:Value} {K:Value→Hp→Prop} (k:K v h):N (EndN ss h v K):=N.mk fun X ρ w x _ H hd=>⟨v,h,ρ,H,hd,k⟩
def Opens (ss:List Piece) {B:Type} (okB:B→Prop) (h1:B→Hp):Prop:=
 ∀ X ρ w,Tidy X ss→HOK X ρ (partH ss) w→∃ β,okB β∧∃ ρ',AgreeOn (Fil (partH ss)) ρ ρ'∧(∀ i,Fil (partH ss) i→Fil (h1 β) i)∧HOK X ρ' (h1 β) w
theorem Opens.same {ss:List Piece}:Opens ss (fun _:Unit=>True) (fun _=>partH ss):=fun X ρ w _ H=>⟨(),trivial,ρ,AgreeOn.refl _ _,fun _ h=>h,H⟩
def PartsX:List Piece→Prop
 | []=>True
 | s::r=>(s.e.x=Ext.none∨(s.e.own=true∧s.e.x=s.c.x))∧PartsX r
theorem PartsX.at:∀ {ss:List Piece},PartsX ss→∀ s∈ss,qtb s
 | t::r,hp,s,hs=>by
  rcases List.mem_cons.1 hs with rfl|hs
  ·exact hp.1
  ·exact PartsX.at hp.2 s hs
def PostX (h:Hp):List Piece→Nat→Prop
 | [],_=>True
 | s::r,k=>(s.d.x=Ext.none∨∃ c,h[k]?=some (some c)∧s.d.x=c.x)∧PostX h r (k+1)
theorem PostX.at {h:Hp}:∀ {ss:List Piece} {k0:Nat},PostX h ss k0→∀ (l:Nat) (s:Piece),ss[l]?=some s→s.d.x=Ext.none∨∃ c,h[k0+l]?=some (some c)∧s.d.x=c.x
 | a::r,k0,hp,0,s,hl=>by simp at hl;subst hl;exact hp.1
 | a::r,k0,hp,l+1,s,hl=>by
  rw[show k0+(l+1)=k0+1+l from by omega]
  exact PostX.at hp.2 l s (by simpa using hl)
def MadeX (h:Hp):List Fresh→Prop
 | []=>True
 | n::r=>(h[n.i]?=some none∧n.d.own=true∧(0<n.d.n∨Selfish n.d.x)∧∀ m∈r,n.i≠m.i∧n.k≠m.k)∧MadeX h r
theorem MadeX.at {h:Hp}:∀ {ns:List Fresh},MadeX h ns→∀ n∈ns,h[n.i]?=some none∧n.d.own=true∧(0<n.d.n∨Selfish n.d.x)
 | t::r,hp,s,hs=>by
  rcases List.mem_cons.1 hs with rfl|hs
  ·exact⟨hp.1.1,hp.1.2.1,hp.1.2.2.1⟩
  ·exact MadeX.at hp.2 s hs
theorem MadeX.ne {h:Hp}:∀ {ns:List Fresh},MadeX h ns→∀ n∈ns,∀ m∈ns,(n.i=m.i∨n.k=m.k)→n=m
 | t::r,hp,n,hn,m,hm,he=>by
  rcases List.mem_cons.1 hn with h1|h1<;>rcases List.mem_cons.1 hm with h2|h2
  ·rw[h1,h2]
  ·have:=hp.1.2.2.2 m h2;rw[h1] at he;omega
  ·have:=hp.1.2.2.2 n h1;rw[h2] at he;omega
  ·exact MadeX.ne hp.2 n h1 m h2 he
def MadeP (h:Hp):List Fresh→Prop
 | []=>True
 | n::r=>(n.d.x=Ext.none∨∃ c,h[n.k]?=some (some c)∧n.d.x=c.x)∧MadeP h r
theorem MadeP.at {h:Hp}:∀ {ns:List Fresh},MadeP h ns→∀ n∈ns,n.d.x=Ext.none∨∃ c,h[n.k]?=some (some c)∧n.d.x=c.x
 | t::r,hp,s,hs=>by
  rcases List.mem_cons.1 hs with rfl|hs
  ·exact hp.1
  ·exact MadeP.at hp.2 s hs
theorem qnt {F F':Nat→Prop} {ρ ρ':Nat→Nat×Nat} (ha:AgreeOn F ρ ρ') (hF:∀ i,F i→F' i):∀ {vs xs:List Value},All2 (Den F ρ) vs xs→All2 (Den F' ρ') vs xs
 | [],[],_=>trivial
 | [],_::_,h=>h.elim
 | _::_,[],h=>h.elim
 | _::_,_::_,h=>⟨h.1.more ha hF,qnt ha hF h.2⟩
section
variable {P:Program} {G:Tys}
theorem qpp {ss:List Piece} {ρ:Nat→Nat×Nat} {w:World} {S:Nat→Nat→Prop} {h:Hp} {X:Ctx} (hI:∀ s∈ss,h[s.i]?=some (some s.c)) (hex:PartsX ss) (E:ExtOK X ρ h w S):Tidy ⟨w,subM ρ S ss,ss.length,fun k=>ρ (subσ ss k)⟩ ss:=by
 have hσ:∀ k s,ss[k]?=some s→subσ ss k=s.i:=fun k s hk=>by show(match ss[k]? with|some s=>s.i|none=>0)=s.i;rw[hk]
 refine⟨rfl,fun b j hm=>?_,fun k s hk hx hs=>?_⟩
 ·rcases hm with ⟨_,s,hs,_,hb,_⟩|⟨s,hs,ho,hb⟩
  ·obtain⟨l,hl,hlt⟩:=List.getElem_of_mem hs
   have hl':ss[l]?=some s:=by rw[List.getElem?_eq_getElem hl,hlt]
   exact .inl ⟨l,hl,by show b=(ρ (subσ ss l)).1;rw[hσ l s hl'];exact hb⟩
  ·exact .inr (.inr ⟨.inr ⟨s,hs,ho,hb⟩,fun j=>.inr ⟨s,hs,ho,hb⟩⟩)
 ·have hmem:=List.mem_of_getElem? hk
  rcases hex.at s hmem with e|⟨ho,e⟩
  ·exact absurd e hx
  ·have hb:S s.i (ρ s.i).1:=by
    rw[e] at hs
    exact hs _ _ _ (E.inv _ _ (hI s hmem))
   show May _ (ρ (subσ ss k)).1
   rw[hσ k s hk]
   exact .inr ⟨.inr ⟨s,hmem,ho,hb⟩,fun j=>.inr ⟨s,hmem,ho,hb⟩⟩
theorem qax {g:FuncId} {fn:Func} {cd:Code} {h:Hp} {vs:List Value} {V:Value} {B:Type} (okB:B→Prop) (h1:B→Hp) (ss:List Piece) (ns:List Fresh) (vs':List Value)
  (hG:TysOK P G) (hm:P.follows .mixedOrders=true) (hf:P.funcs[g]?=some fn) (hb:fn.body=some cd) (hr:∀ xs w,(callFunc g xs).run P w=.ok (.enter g xs) w)
  (hin:PartsIn h ss) (hre:PartsRe (partX ss 0) ss) (hap:Apart ss) (hex:PartsX ss) (hmi:MadeX h ns) (hvs:All2 (Re2 (partX ss 0)) vs vs') (hop:Opens ss okB h1)
  (hwp:∀ β,okB β→initK vs' fn.ntmps fun t=>wpC P G ss.length cd (bodyQ P G fn fun v st=>N (EndN ss st.h v fun v' h'=>N (Obl (Re (partX ss 0++madeX ns) V v') (N (Obl (PostS (partX ss 0++madeX ns) h' ss 0) (N (Obl (PostN (partX ss 0++madeX ns) h' ss.length ns) (N (Obl (PostX h' ss 0∧MadeP h' ns) (N True)))))))))) ⟨t,h1 β⟩) :
  qad P g vs h V (partM ss++madeM ns) (partR ss):=fun h₂ hrd hms X ρ w xs H hx=>by
 have hI:∀ s∈ss,h₂[s.i]?=some (some s.c):=fun s hs=>by
  cases e:s.e.own with
  | true=>exact(hms (s.i,s.d) (List.mem_append_left _ (partM_mem.2 ⟨s,hs,e,rfl⟩))).trans (hin.at s hs)
  | false=>exact(hrd s.i (qh8 ⟨s,hs,e,rfl⟩)).trans (hin.at s hs)
 have hNw:∀ n∈ns,h₂[n.i]?=some none:=fun n hn=>(hms (n.i,n.d) (List.mem_append_right _ (madeM_mem.2 ⟨n,hn,rfl⟩))).trans (hmi.at n hn).1
 obtain⟨S,E⟩:=H.ext
 have T:=qpp hI hex E
 obtain⟨H0,hargs⟩:=qh9 ss vs' hI hre hap hex.at hvs H E hx
 obtain⟨β,hβ,ρ',hag,hfil,H1⟩:=hop _ _ w T H0
 have hargs':All2 (Den (Fil (h1 β)) ρ') vs' xs:=qnt hag hfil hargs
 refine .inr ⟨hr _ w,?_⟩
 refine(qe4 (X:=⟨w,subM ρ S ss,ss.length,fun k=>ρ (subσ ss k)⟩) (args:=⟨xs⟩) hG hm hf hb H1 hargs' (hwp β hβ)).mono ?_
 rintro e w' ⟨ρ1,v,st,x,rfl,H2,hdx,hq⟩
 obtain⟨v',h',ρ2,H3,hd3,hq⟩:=N.out hq _ _ _ _ T H2 hdx
 have q1:Re (partX ss 0++madeX ns) V v'∧N _:=N.out hq
 have q2:PostS (partX ss 0++madeX ns) h' ss 0∧N _:=N.out q1.2
 have q3:PostN (partX ss 0++madeX ns) h' ss.length ns∧N _:=N.out q2.2
 have q4:(PostX h' ss 0∧MadeP h' ns)∧N True:=N.out q3.2
 exact⟨x,rfl,qho ss ns hI hNw hre hap (fun n hn=>(hmi.at n hn).2) (fun n hn m hm=>hmi.ne n hn m hm) H E H3 hd3 q1.1 q2.1 q3.1 (fun l s hl _=>by have:=q4.1.1.at l s hl;rwa[Nat.zero_add] at this) q4.1.2.at⟩
theorem qaj {α:Type} {g:FuncId} {fn:Func} {cd:Code} {h:Hp} {vs:List Value} {B:Type} (okB:B→Prop) (h1:B→Hp) (ok:α→Prop) (V:α→Value) (ss:List Piece) (dd:α→List Chunk) (ns:α→List Fresh) (vs':List Value)
  (hG:TysOK P G) (hm:P.follows .mixedOrders=true) (hf:P.funcs[g]?=some fn) (hb:fn.body=some cd) (hr:∀ xs w,(callFunc g xs).run P w=.ok (.enter g xs) w)
  (hin:PartsIn h ss) (hre0:PartsRe (partX ss 0) ss) (hre:∀ κ,ok κ→PartsRe (partX ss 0) (setD ss (dd κ))) (hap:Apart ss) (hex:PartsX ss) (hmi:∀ κ,ok κ→MadeX h (ns κ)) (hvs:All2 (Re2 (partX ss 0)) vs vs') (hop:Opens ss okB h1)
  (hwp:∀ β,okB β→initK vs' fn.ntmps fun t=>wpC P G ss.length cd (bodyQ P G fn fun v st=>N (EndN ss st.h v fun v' h'=>N (SomeN fun κ=>ok κ∧N (Obl (Re (partX ss 0++madeX (ns κ)) (V κ) v') (N (Obl (PostS (partX ss 0++madeX (ns κ)) h' (setD ss (dd κ)) 0) (N (Obl (PostN (partX ss 0++madeX (ns κ)) h' ss.length (ns κ)) (N (Obl (PostX h' (setD ss (dd κ)) 0∧MadeP h' (ns κ)) (N True))))))))))) ⟨t,h1 β⟩) :
  CallAll P g vs h fun v ms=>∃ κ,ok κ∧v=V κ∧ms=partM (setD ss (dd κ))++madeM (ns κ):=fun X ρ w xs H hx=>by
 obtain⟨S,E⟩:=H.ext
 have T:=qpp (fun s hs=>hin.at s hs) hex E
 obtain⟨H0,hargs⟩:=qh9 ss vs' (fun s hs=>hin.at s hs) hre0 hap hex.at hvs H E hx
 obtain⟨β,hβ,ρ',hag,hfil,H1⟩:=hop _ _ w T H0
 have hargs':All2 (Den (Fil (h1 β)) ρ') vs' xs:=qnt hag hfil hargs
 refine .inr ⟨hr _ w,?_⟩
 refine(qe4 (X:=⟨w,subM ρ S ss,ss.length,fun k=>ρ (subσ ss k)⟩) (args:=⟨xs⟩) hG hm hf hb H1 hargs' (hwp β hβ)).mono ?_
 rintro e w' ⟨ρ1,v,st,x,rfl,H2,hdx,hq⟩
 obtain⟨v',h',ρ2,H3,hd3,hq⟩:=N.out hq _ _ _ _ T H2 hdx
 obtain⟨κ,hok,hq⟩:=N.out hq
 have q1:Re (partX ss 0++madeX (ns κ)) (V κ) v'∧N _:=N.out hq
 have q2:PostS (partX ss 0++madeX (ns κ)) h' (setD ss (dd κ)) 0∧N _:=N.out q1.2
 have q3:PostN (partX ss 0++madeX (ns κ)) h' ss.length (ns κ)∧N _:=N.out q2.2
 have q4:(PostX h' (setD ss (dd κ)) 0∧MadeP h' (ns κ))∧N True:=N.out q3.2
 obtain⟨ρ',ha,hh,hd⟩:=qho (h₂:=h) (hE:=h') (V:=V κ) (setD ss (dd κ)) (ns κ) (fun s hs=>by
  obtain⟨t,ht,e1,e2,_⟩:=qhr hs
  rw[←e1,←e2];exact hin.at t ht) (fun n hn=>((hmi κ hok).at n hn).1) (by rw[qf6];exact hre κ hok) (qgv hap) (fun n hn=>((hmi κ hok).at n hn).2) (fun n hn m hm=>(hmi κ hok).ne n hn m hm) H E
  (by rw[qz7,qz6,qhq];exact H3) hd3 (by rw[qf6];exact q1.1) (by rw[qf6];exact q2.1) (by rw[qf6,qhq];exact q3.1) (fun l s hl _=>by have:=q4.1.1.at l s hl;rwa[Nat.zero_add] at this) q4.1.2.at
 exact⟨x,rfl,V κ,_,ρ',⟨κ,hok,rfl,rfl⟩,ha,hh,hd⟩
end
end Go.Proofs.YtdljelmbjdjpjaaGreat.Sx
