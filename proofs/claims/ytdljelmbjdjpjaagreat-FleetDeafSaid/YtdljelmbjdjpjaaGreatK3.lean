/-
  Maps from whole numbers: a stretch that is a map; its operations.
-/
import Derived.MapKept
import Derived.WalkKit
import Derived.WalkSpells
import Derived.WalkLawsBesides
import Derived.ProofKit
import Derived.OpenShut
import Derived.ChangeOld
import Derived.SizedLaws
import Derived.Lib.Hide
import Derived.Deep.Slices
import Derived.Test.YtdljelmbjdjpjaaGreatRows
import Derived.Laws.BytesArg
import Derived.Laws.OwnMore
import Derived.Laws.IdiomCopy
import Derived.Test.YtdljelmbjdjpjaaGreatProg
import Derived.KernelRfl
import Derived.Shelf.SlIterI.Nil
import Derived.Shelf.SortM.Plain
import Derived.Shelf.SortM.SortNone
import Derived.Ground.GgzProg
import Derived.Ground.SlgmProg
import Derived.WideShapes
import Derived.Test.YtdljelmbjdjpjaaGreatK2
set_option linter.unusedVariables false
set_option linter.unusedSimpArgs false
set_option maxRecDepth 100000
set_option maxHeartbeats 20000000

namespace Go.Proofs.YtdljelmbjdjpjaaGreat.Sx
open Go Go.RowKit Go.MapKept
section
variable {α:Type}
def dGet (D:List (Int×α)) (k:Int):Option α:=(D.find? fun q=>decide (q.1=k)).map (·.2)
def dPut (D:List (Int×α)) (k:Int) (a:α):List (Int×α):=match dGet D k with
 | some _=>D.map fun q=>if q.1=k then (k,a) else q
 | none=>D++[(k,a)]
def dDel (D:List (Int×α)) (k:Int):List (Int×α):=D.filter fun q=>!decide (q.1=k)
theorem dGet_none {D:List (Int×α)} {k:Int}:dGet D k=none↔∀ q∈D,q.1≠k:=by
 simp[dGet,List.find?_eq_none]
theorem qmm {D:List (Int×α)} {k:Int} {a:α} (h:dGet D k=some a):(k,a)∈D:=by
 simp only[dGet,Option.map_eq_some_iff] at h
 obtain⟨q,hq,rfl⟩:=h
 have h1:=List.find?_some hq
 have h2:=List.mem_of_find?_eq_some hq
 simp only[decide_eq_true_eq] at h1
 rw[←h1];exact h2
theorem qw0 {D:List (Int×α)} {k:Int} {a:α} (hd:(D.map (·.1)).Nodup) (h:(k,a)∈D):dGet D k=some a:=by
 induction D with
 | nil=>cases h
 | cons q D ih=>
  simp only[List.map_cons,List.nodup_cons] at hd
  unfold dGet
  rw[List.find?_cons]
  by_cases e:q.1=k
  ·have:decide (q.1=k)=true:=by simp[e]
   rw[this]
   rcases List.mem_cons.1 h with rfl|h
   ·rfl
   ·exact absurd (List.mem_map.2 ⟨(k,a),h,rfl⟩) (e▸hd.1)
  ·have:decide (q.1=k)=false:=by simp[e]
   rw[this]
   rcases List.mem_cons.1 h with rfl|h
   ·exact absurd rfl e
   ·exact ih hd.2 h
end
structure MapIs {α:Type} (enc:α→Value) (D:List (Int×α)) (es:Array MapEntry) (clock:Nat):Prop where
 ents:es.toList.map (fun e=>(e.key,e.val))=D.map fun q=>(.int .i64 q.1,enc q.2)
 stamped:Stamped es clock
 wf:∀ q∈D,-9223372036854775808≤q.1∧q.1≤9223372036854775807
section
variable {α:Type} {enc:α→Value} {D:List (Int×α)} {es:Array MapEntry} {clock:Nat}
theorem MapIs.at (M:MapIs enc D es clock) (j:Nat):(es.toList[j]?).map (fun e=>(e.key,e.val))=(D[j]?).map fun q=>((.int .i64 q.1,enc q.2):Value×Value):=by
 have:=congrArg (fun l=>l[j]?) M.ents
 simpa using this
theorem MapIs.keys (M:MapIs enc D es clock):∀ x∈es.toList,∃ k,x.key=.int .i64 k:=fun x hx=>by
 have:(x.key,x.val)∈es.toList.map (fun e=>(e.key,e.val)):=List.mem_map.2 ⟨x,hx,rfl⟩
 rw[M.ents] at this
 obtain⟨q,_,e⟩:=List.mem_map.1 this
 exact⟨q.1,(Prod.mk.inj e).1.symm⟩
theorem MapIs.isKey (M:MapIs enc D es clock):∀ x∈es.toList,IsKey (.int .i64) x.key:=fun x hx=>by
 obtain⟨k,e⟩:=M.keys x hx
 rw[e];exact rfl
theorem MapIs.nodup (M:MapIs enc D es clock):(D.map (·.1)).Nodup:=by
 have h:=M.stamped.2.2
 have e:es.toList.map (·.key)=(D.map (·.1)).map (Value.int .i64):=by
  have:=congrArg (fun l=>l.map Prod.fst) M.ents
  simpa[List.map_map,Function.comp_def] using this
 rw[e] at h
 exact List.Pairwise.of_map (Value.int .i64) (fun a b hab e=>hab (by rw[e])) h
theorem MapIs.find (M:MapIs enc D es clock) (k:Int):(dGet D k=none∧Instr.findNow (.int .i64) (.int .i64 k) es.toList 0=some none∧∀ x∈es.toList,x.key≠.int .i64 k)∨
  ∃ j a,dGet D k=some a∧D[j]?=some (k,a)∧(∃ e,es.toList[j]?=some e∧e.key=.int .i64 k)∧Instr.findNow (.int .i64) (.int .i64 k) es.toList 0=some (some (j,enc a)):=by
 rcases findNow_spec (d:=.int .i64) (k:=.int .i64 k) rfl es.toList 0 M.isKey with ⟨h1,h2⟩|⟨j,e,h1,h2,h3⟩
 ·refine .inl ⟨dGet_none.2 fun q hq e=>?_,h1,h2⟩
  have:((.int .i64 q.1,enc q.2):Value×Value)∈es.toList.map (fun e=>(e.key,e.val)):=by rw[M.ents];exact List.mem_map.2 ⟨q,hq,rfl⟩
  obtain⟨x,hx,ex⟩:=List.mem_map.1 this
  exact h2 x hx (by rw[(Prod.mk.inj ex).1,e])
 ·have hj:=M.at j
  rw[h2] at hj
  simp only[Option.map_some] at hj
  cases hq:D[j]? with
  | none=>rw[hq] at hj;cases hj
  | some q=>
   rw[hq] at hj
   simp only[Option.map_some,Option.some.injEq,Prod.mk.injEq] at hj
   have hk:q.1=k:=by
    have:=hj.1
    rw[h3] at this
    simpa using this.symm
   obtain⟨q1,a⟩:=q
   subst hk
   refine .inr ⟨j,a,qw0 M.nodup (List.mem_of_getElem? hq),hq,⟨e,h2,h3⟩,?_⟩
   rw[h1,Nat.zero_add,hj.2]
theorem MapIs.put (M:MapIs enc D es clock) {k:Int} (hk : -9223372036854775808≤k∧k≤9223372036854775807) (a:α) {j:Nat} {b:α} (hg:dGet D k=some b) (hj:D[j]?=some (k,b)) (hv:Value) (hve:hv=enc a):MapIs enc (dPut D k a) (es.modify j fun e=>{ e with key:=.int .i64 k,val:=hv }) clock:=by
 subst hve
 have hnd:=M.nodup
 have hjl:=(List.getElem?_eq_some_iff.1 hj).1
 refine⟨?_,stamped_modify M.stamped j _ (fun _ _=>rfl) (fun e _ he=>?_),fun q hq=>?_⟩
 ·unfold dPut
  rw[hg]
  apply List.ext_getElem?
  intro i
  simp only[List.getElem?_map,Array.getElem?_toList,Array.getElem?_modify]
  have hi:=M.at i
  rw[Array.getElem?_toList] at hi
  by_cases e:j=i
  ·subst e
   rw[hj] at hi ⊢
   cases he:es[j]? with
   | none=>rw[he] at hi;cases hi
   | some x=>simp
  ·rw[if_neg e,hi]
   cases hq:D[i]? with
   | none=>simp
   | some q=>
    have hne:q.1≠k:=fun h=>by
     refine e ((List.getElem?_inj (l:=D.map (·.1)) (by simpa using hjl) hnd).1 ?_)
     rw[List.getElem?_map,List.getElem?_map,hj,hq];simp[h]
    simp[hne]
 ·have hi:=M.at j
  rw[Array.getElem?_toList,he,hj] at hi
  simp only[Option.map_some,Option.some.injEq,Prod.mk.injEq] at hi
  exact hi.1.symm
 ·unfold dPut at hq
  rw[hg] at hq
  obtain⟨q',hq',rfl⟩:=List.mem_map.1 hq
  split
  ·exact hk
  ·exact M.wf q' hq'
theorem MapIs.push (M:MapIs enc D es clock) {k:Int} (hk : -9223372036854775808≤k∧k≤9223372036854775807) (a:α) (hg:dGet D k=none) (hn:∀ x∈es.toList,x.key≠.int .i64 k):MapIs enc (dPut D k a) (es.push { key:=.int .i64 k,val:=enc a,born:=clock }) (clock+1):=by
 refine⟨?_,stamped_push M.stamped hn,fun q hq=>?_⟩
 ·unfold dPut
  rw[hg]
  simp only[Array.toList_push,List.map_append,M.ents,List.map_cons,List.map_nil]
 ·unfold dPut at hq
  rw[hg] at hq
  rcases List.mem_append.1 hq with hq|hq
  ·exact M.wf q hq
  ·simp only[List.mem_singleton] at hq;subst hq;exact hk
theorem qib {β γ:Type} (f:β→γ):∀ (l:List β) (j:Nat),(l.eraseIdx j).map f=(l.map f).eraseIdx j
 | [],_=>by simp
 | x::l,0=>by simp
 | x::l,j+1=>by simp[qib f l j]
theorem qmn {D:List (Int×α)} {k:Int} {a:α} (hnd:(D.map (·.1)).Nodup) {j:Nat} (hj:D[j]?=some (k,a)):D.eraseIdx j=dDel D k:=by
 induction D generalizing j with
 | nil=>simp at hj
 | cons q D ih=>
  simp only[List.map_cons,List.nodup_cons] at hnd
  cases j with
  | zero=>
   simp at hj
   subst hj
   have:D.filter (fun q=>!decide (q.1=k))=D:=List.filter_eq_self.2 fun q hq=>by
    have:q.1≠k:=fun e=>hnd.1 (e▸List.mem_map.2 ⟨q,hq,rfl⟩)
    simp[this]
   simp[dDel,this]
  | succ j=>
   have hj':D[j]?=some (k,a):=by simpa using hj
   have hne:q.1≠k:=fun e=>hnd.1 (e▸List.mem_map.2 ⟨(k,a),List.mem_of_getElem? hj',rfl⟩)
   simp only[List.eraseIdx_cons_succ,ih hnd.2 hj']
   simp[dDel,hne]
theorem MapIs.erase (M:MapIs enc D es clock) {k:Int} {a:α} {j:Nat} (hj:D[j]?=some (k,a)):MapIs enc (dDel D k) (es.eraseIdxIfInBounds j) clock:=by
 refine⟨?_,stamped_erase M.stamped j,fun q hq=>M.wf q (List.mem_filter.1 hq).1⟩
 have hl:=(List.getElem?_eq_some_iff.1 hj).1
 have hsz:es.size=D.length:=by have:=congrArg List.length M.ents;simpa using this
 unfold Array.eraseIdxIfInBounds
 rw[dif_pos (by omega)]
 rw[Array.toList_eraseIdx,←qmn M.nodup hj,qib,qib,M.ents]
theorem MapIs.size (M:MapIs enc D es clock):es.size=D.length:=by have:=congrArg List.length M.ents;simpa using this
theorem MapIs.nil:MapIs enc ([]:List (Int×α)) #[] 0:=⟨rfl,stamped_empty 0,fun q hq=>by cases hq⟩
end
abbrev mapX {α:Type} (enc:α→Value) (D:List (Int×α)):Ext where
 inv:=fun p S w=>(∀ b,S b↔b=p.1)∧∃ es clock,w.heap[p.1]?=some (.map es clock)∧MapIs enc D es clock
 keep:=fun h hb=>⟨h.1,by obtain⟨es,clock,h1,h2⟩:=h.2;exact⟨es,clock,(hb _ ((h.1 _).2 rfl)).trans h1,h2⟩⟩
theorem qhb {α:Type} {enc:α→Value} {D:List (Int×α)}:Selfish (mapX enc D):=fun p S w h=>(h.1 _).2 rfl
abbrev mapC {α:Type} (enc:α→Value) (D:List (Int×α)):Chunk:=@Chunk.mk (mapX enc D) true 0 []
section
variable {P:Program} {G:Tys} {α:Type} {enc:α→Value} {D:List (Int×α)}
theorem qw1 {et:TypeId} {ei:TypeInfo} {z:Value} (he:P.info? et=some ei) (hz:ei.zero=some z) (w:World):(zeroValue et).run P w=.ok z w:=by
 simp[zeroValue,typeInfo,Sem.run_bind,run_program,Result.andThen_ok,he,hz]
theorem qw2 {t kt et:TypeId} {ei:TypeInfo} {z:Value} {es:Array MapEntry} {clock:Nat} {w:World} {b:Nat} (ht:P.underlying t=some (.map kt et)) (hk:P.underlying kt=some (.int .i64)) (he:P.info? et=some ei) (hz:ei.zero=some z)
  (hb:w.heap[b]?=some (.map es clock)) (M:MapIs enc D es clock) (k:Int) (c:Bool) :
  (Instr.lookup t (.map (some b)) (.int .i64 k) c).run P w=.ok (if c then .tuple #[((dGet D k).map enc).getD z,.bool (dGet D k).isSome] else ((dGet D k).map enc).getD z) w:=by
 rcases M.find k with ⟨h1,h2,_⟩|⟨j,a,h1,_,_,h2⟩
 ·simp[Instr.lookup,run_underlying ht,MapKept.run_getObj_map hb,run_checkKey hk (k:=.int .i64 k) rfl,run_findKey hk h2,qw1 he hz,h1,Result.andThen]
 ·simp[Instr.lookup,run_underlying ht,MapKept.run_getObj_map hb,run_checkKey hk (k:=.int .i64 k) rfl,run_findKey hk h2,h1,Result.andThen]
theorem qz8 {t kt et:TypeId} {ei:TypeInfo} {z:Value} {c:Chunk} {k:Int} {b:Bool} {K:Value→Prop} (enc:α→Value) (D:List (Int×α)) (hc:c.x=mapX enc D) (ht:P.underlying t=some (.map kt et)) (hk:P.underlying kt=some (.int .i64)) (he:P.info? et=some ei) (hz:ei.zero=some z)
  (v:Value) (hv:v=(if b then .tuple #[((dGet D k).map enc).getD z,.bool (dGet D k).isSome] else ((dGet D k).map enc).getD z)) (hp:qap v=true) (h:K v):N (LookN P t c (.int .i64 k) b K):=
 N.mk ⟨v,qbg hp,fun p S w hi=>by
  rw[hc] at hi
  obtain⟨_,es,clock,hb,M⟩:=hi
  rw[qw2 ht hk he hz hb M k b,hv],h⟩
theorem qte {K:Chunk→Prop} (enc:α→Value) (h:K (mapC enc [])):N (qzx K):=
 N.mk ⟨mapC enc [],rfl,fun w=>⟨fun b=>Iff.rfl,#[],0,(heap_alloc w (.map #[] 0)).1,MapIs.nil⟩,h⟩
end
open Go Go.RowKit
abbrev atX (q:Nat×Nat):Ext where
 inv:=fun p S _=>p=q∧∀ b,¬ S b
 keep:=fun h _=>h
def realP (q:Nat×Nat):Value:=.pointer (some ⟨q.1,q.2,none⟩)
theorem qic {q:Nat×Nat} {ρ:Nat→Nat×Nat}:den ρ (realP q)=realP q:=rfl
structure FamOK {α:Type} (n:Nat) (enc:α→Nat→Value) (F:List ((Nat×Nat)×α)) (S:Nat→Prop) (w:World):Prop where
 dom:∀ b,S b↔∃ q∈F,q.1.1=b
 nodup:(F.map (·.1.1)).Nodup
 cell:∀ q∈F,∀ j,j<n→w.cell? ⟨q.1.1,q.1.2+j,none⟩=some (enc q.2 j)∧w.frozen? ⟨q.1.1,q.1.2+j,none⟩=false
abbrev famX {α:Type} (n:Nat) (enc:α→Nat→Value) (F:List ((Nat×Nat)×α)):Ext where
 inv:=fun _ S w=>FamOK n enc F S w
 keep:=fun {p S w w'} h hb=>⟨h.dom,h.nodup,fun q hq j hj=>by
  obtain⟨h1,h2⟩:=h.cell q hq j hj
  have e:=hb q.1.1 ((h.dom _).2 ⟨q,hq,rfl⟩)
  refine⟨?_,?_⟩
  ·rw[←h1];unfold World.cell?;simp only[e]
  ·rw[←h2];unfold World.frozen?;simp only[e]⟩
structure PackOK (ρ:Nat→Nat×Nat) (h:Hp) (w:World) (S:Nat→Prop) (T:Nat→Nat→Prop):Prop where
 blk:∀ (k:Nat) (d:Chunk),h[k]?=some (some d)→S (ρ k).1
 cell:∀ (k:Nat) (d:Chunk),h[k]?=some (some d)→∀ j,j<d.n→∃ x,w.cell? ⟨(ρ k).1,(ρ k).2+j,none⟩=some x∧Den1 (Fil h) ρ (d.f j) x
 own:∀ (k:Nat) (d:Chunk),h[k]?=some (some d)→∀ j,j<d.n→w.frozen? ⟨(ρ k).1,(ρ k).2+j,none⟩=false
 inv:∀ (k:Nat) (d:Chunk),h[k]?=some (some d)→d.x.inv (ρ k) (T k) w
 foot:∀ (k:Nat) (d:Chunk) (b:Nat),h[k]?=some (some d)→T k b→S b∧(d.n=0∨b≠(ρ k).1)
 sep:∀ (k:Nat) (d:Chunk) (l:Nat) (e:Chunk),h[k]?=some (some d)→h[l]?=some (some e)→k≠l→(ρ k).1≠(ρ l).1∧∀ b,T k b→(ρ l).1≠b∧¬ T l b
abbrev packX {B:Type} (ok:B→Prop) (h:B→Hp):Ext where
 inv:=fun p S w=>S p.1∧∃ β,ok β∧∃ ρ T,ρ 0=p∧Fil (h β) 0∧PackOK ρ (h β) w S T
 keep:=fun {p S w w'} hh hb=>⟨hh.1,by
  obtain⟨β,hβ,ρ,T,h0,hf,K⟩:=hh.2
  refine⟨β,hβ,ρ,T,h0,hf,K.blk,fun k d hk j hj=>?_,fun k d hk j hj=>?_,fun k d hk=>?_,K.foot,K.sep⟩
  ·obtain⟨x,hx,hd⟩:=K.cell k d hk j hj
   refine⟨x,?_,hd⟩
   have e:=hb _ (K.blk k d hk)
   rw[←hx];unfold World.cell?;simp only[e]
  ·have e:=hb _ (K.blk k d hk)
   rw[←K.own k d hk j hj];unfold World.frozen?;simp only[e]
  ·exact d.x.keep (K.inv k d hk) fun b hT=>hb b (K.foot k d b hk hT).1⟩
theorem qah {B:Type} {ok:B→Prop} {h:B→Hp}:Selfish (packX ok h):=fun p S w hh=>hh.1
abbrev packC {B:Type} (ok:B→Prop) (h:B→Hp):Chunk:=@Chunk.mk (packX ok h) true 0 []
theorem qat {B:Type} {ok:B→Prop} {h:B→Hp} {i:Nat} {c d:Chunk}:Opens [⟨i,c,packC ok h,d⟩] ok h:=fun X ρ w T H=>by
 obtain⟨S,E⟩:=H.ext
 have h0:(partH [⟨i,c,packC ok h,d⟩])[0]?=some (some (packC ok h)):=rfl
 have one:∀ (k:Nat) (e:Chunk),(partH [⟨i,c,packC ok h,d⟩])[k]?=some (some e)→k=0:=fun k e hk=>by
  cases k with
  | zero=>rfl
  | succ k=>simp[partH] at hk
 obtain⟨_,β,hβ,ρp,Tp,e0,hf,K⟩:=E.inv 0 _ h0
 have n0:X.n0=1:=T.n0
 refine⟨β,hβ,ρp,fun k hk=>?_,fun k hk=>?_,?_⟩
 ·obtain⟨e,he⟩:=hk
  obtain rfl:=one k e he
  exact e0
 ·obtain⟨e,he⟩:=hk
  obtain rfl:=one k e he
  exact hf
 ·refine H.redo E (fun k=>k=0) (fun _=>True) (S 0) (fun b hb=>⟨0,_,rfl,h0,.inr hb⟩) (fun b hb=>(E.mine 0 _ b h0 hb).2.2) (fun k hk=>?_) (fun k e hk hA=>absurd trivial hA) (fun k e hk _=>⟨K.blk k e hk,K.cell k e hk,fun _=>K.own k e hk,K.inv k e hk,fun b hb=>K.foot k e b hk hb⟩) (fun k e l f hk _ hl _ hne=>⟨fun _=>(K.sep k e l f hk hl hne).1,(K.sep k e l f hk hl hne).2⟩)
  rw[n0] at hk
  obtain rfl:k=0:=by omega
  exact⟨hf,e0⟩
def qa7 (pc:Chunk) (m:Nat) (keep:List Nat):Hp→Nat→Hp
 | [],_=>[]
 | x::r,i=>(match Nat.beq i m with
  | true=>some pc
  | false=>match keep.any (Nat.beq i) with
   | true=>x
   | false=>none)::qa7 pc m keep r (i+1)
theorem qgw {pc:Chunk} {m:Nat} {keep:List Nat}:∀ {h:Hp} {i0 k:Nat} {d:Chunk},(qa7 pc m keep h i0)[k]?=some (some d)→(i0+k=m∧d=pc)∨(i0+k≠m∧i0+k∈keep∧h[k]?=some (some d))
 | [],i0,k,d,hk=>by simp[qa7] at hk
 | x::r,i0,0,d,hk=>by
  simp only[qa7,List.getElem?_cons_zero,Option.some.injEq] at hk
  cases e:Nat.beq i0 m with
  | true=>
   rw[e] at hk
   exact .inl ⟨Nat.eq_of_beq_eq_true e,by simpa using hk.symm⟩
  | false=>
   rw[e] at hk
   simp only at hk
   cases e2:keep.any (Nat.beq i0) with
   | true=>
    rw[e2] at hk
    refine .inr ⟨fun e3=>?_,?_,by simp only at hk;rw[hk];rfl⟩
    ·have:i0=m:=e3
     rw[this,Nat.beq_refl] at e;cases e
    ·rw[List.any_eq_true] at e2
     obtain⟨y,hy,he⟩:=e2
     have:=Nat.eq_of_beq_eq_true he
     show i0∈keep
     rw[this];exact hy
   | false=>rw[e2] at hk;cases hk
 | x::r,i0,k+1,d,hk=>by
  have:=qgw (h:=r) (i0:=i0+1) (k:=k) (d:=d) (by simpa[qa7] using hk)
  rw[show i0+(k+1)=i0+1+k from by omega]
  rcases this with h1|⟨h1,h2,h3⟩
  ·exact .inl h1
  ·exact .inr ⟨h1,h2,by simpa using h3⟩
theorem qgx {pc:Chunk} {m:Nat} {keep:List Nat}:∀ {h:Hp} {i0 k:Nat},k<h.length→(i0+k=m∨(i0+k∈keep∧Fil h k))→Fil (qa7 pc m keep h i0) k
 | [],i0,k,hl,_=>by simp at hl
 | x::r,i0,0,_,hk=>by
  simp only[qa7,Fil,List.getElem?_cons_zero]
  cases e:Nat.beq i0 m with
  | true=>exact⟨pc,rfl⟩
  | false=>
   rcases hk with hk|⟨hk,hf⟩
   ·have hk:i0=m:=hk
    rw[hk,Nat.beq_refl] at e;cases e
   ·have:keep.any (Nat.beq i0)=true:=List.any_eq_true.2 ⟨i0,hk,Nat.beq_refl _⟩
    simp only[this]
    obtain⟨c,hc⟩:=hf
    exact⟨c,by simpa using hc⟩
 | x::r,i0,k+1,hl,hk=>by
  obtain⟨c,hc⟩:=qgx (pc:=pc) (m:=m) (keep:=keep) (h:=r) (i0:=i0+1) (k:=k) (by simpa using hl) (by
   rw[show i0+1+k=i0+(k+1) from by omega]
   exact hk.imp id fun⟨h1,c,h2⟩=>⟨h1,c,by simpa using h2⟩)
  exact⟨c,by simpa[qa7] using hc⟩
def qw3 (ix:List (Nat×Nat)) (h hp:Hp):Prop:=
 ∀ (k:Nat) (d:Chunk),hp[k]?=some (some d)→∃ i c,ixK ix k=some i∧h[i]?=some (some c)∧c.own=true∧d.n≤c.n∧(∀ j,j<d.n→Re1 ix (c.f j) (d.f j))∧(d.x=Ext.none∨d.x=c.x)∧(0<c.n∨Selfish c.x)
def packB:Hp→List (Nat×Nat)→Bool
 | _,[]=>true
 | hp,(k,i)::r=>filB hp k&&packB hp r
theorem qmo {hp:Hp}:∀ {ix:List (Nat×Nat)},packB hp ix=true→∀ k i,(k,i)∈ix→Fil hp k
 | (a,b)::r,h,k,i,hm=>by
  simp only[packB,Bool.and_eq_true] at h
  rcases List.mem_cons.1 hm with e|hm
  ·simp only[Prod.mk.injEq] at e
   obtain⟨rfl,rfl⟩:=e
   exact filB_iff.1 h.1
  ·exact qmo h.2 k i hm
def ixOne:List (Nat×Nat)→Bool
 | []=>true
 | (k,i)::r=>(r.all fun p=>!Nat.beq p.1 k && !Nat.beq p.2 i)&&ixOne r
theorem qd6:∀ {ix:List (Nat×Nat)},ixOne ix=true→∀ k i k' i',(k,i)∈ix→(k',i')∈ix→(k=k'∨i=i')→k=k'∧i=i'
 | (a,b)::r,h,k,i,k',i',h1,h2,he=>by
  simp only[ixOne,Bool.and_eq_true,List.all_eq_true] at h
  have key:∀ x y,(x,y)∈r→x≠a∧y≠b:=fun x y hm=>by
   have:=h.1 (x,y) hm
   simp only[Bool.not_eq_true'] at this
   exact⟨fun e=>by subst e;simp at this,fun e=>by subst e;simp at this⟩
  rcases List.mem_cons.1 h1 with e1|h1<;>rcases List.mem_cons.1 h2 with e2|h2
  ·simp only[Prod.mk.injEq] at e1 e2;omega
  ·simp only[Prod.mk.injEq] at e1
   have:=key k' i' h2;omega
  ·simp only[Prod.mk.injEq] at e2
   have:=key k i h1;omega
  ·exact qd6 h.2 k i k' i' h1 h2 he
theorem qhc {B:Type} {ok:B→Prop} {hB:B→Hp} {ss:List Piece} {h:Hp} {v:Value} {K:Value→Hp→Prop} (β:B) (m:Nat) (ix:List (Nat×Nat)) (keep:List Nat) (hpc:∀ k i,(k,i)∈ix→i<ss.length→∃ s,ss[i]?=some s∧s.e.x≠Ext.none∧Selfish s.e.x) (hbs:∀ i,i<ss.length→i=m∨i∈keep) (hok:ok β) (h00:ixK ix 0=some m) (hf0:Fil (hB β) 0) (hone:ixOne ix=true) (hpb:packB (hB β) ix=true)
  (hpk:qw3 ix h (hB β)) (hkk:∀ k∈keep,∀ l i,(l,i)∈ix→k≠i) (hkd:∀ k∈keep,∀ (d:Chunk),h[k]?=some (some d)→∀ j,j<d.n→Safe1 (qa7 (packC ok hB) m keep h 0) (d.f j))
  (hv:∀ ρ ρ',AgreeOn (Fil (qa7 (packC ok hB) m keep h 0)) ρ ρ'→den ρ' v=den ρ v) (hlt:m<h.length) (kk:K v (qa7 (packC ok hB) m keep h 0)):N (EndN ss h v K):=N.mk fun X ρ w x T H hd=>by
 obtain⟨S,E⟩:=H.ext
 have fil0:Fil (qa7 (packC ok hB) m keep h 0) m:=qgx hlt (.inl (Nat.zero_add m))
 have inv:∀ k d,(hB β)[k]?=some (some d)→∃ i c,(k,i)∈ix∧h[i]?=some (some c)∧c.own=true∧d.n≤c.n∧(∀ j,j<d.n→Re1 ix (c.f j) (d.f j))∧(d.x=Ext.none∨d.x=c.x)∧(0<c.n∨Selfish c.x):=fun k d hk=>by
  obtain⟨i,c,h1,h2⟩:=hpk k d hk
  exact⟨i,c,qdw h1,h2⟩
 have ofix:∀ k i,(k,i)∈ix→∃ d,(hB β)[k]?=some (some d):=fun k i hm=>qmo hpb k i hm
 have act:∀ k i,(k,i)∈ix→∃ d c,(hB β)[k]?=some (some d)∧h[i]?=some (some c)∧c.own=true∧d.n≤c.n∧(∀ j,j<d.n→Re1 ix (c.f j) (d.f j))∧(d.x=Ext.none∨d.x=c.x)∧(0<c.n∨Selfish c.x):=fun k i hm=>by
  obtain⟨d,hd⟩:=ofix k i hm
  obtain⟨i',c,hm',h2⟩:=inv k d hd
  obtain rfl:=(qd6 hone k i k i' hm hm' (.inl rfl)).2
  exact⟨d,c,hd,h2⟩
 have mayB:∀ k i,(k,i)∈ix→May X (ρ i).1:=fun k i hm=>by
  obtain⟨d,c,_,hc,ho,_,_,_,h3⟩:=act k i hm
  rcases h3 with h3|h3
  ·by_cases e:i<ss.length
   ·obtain⟨s,hs,hx,hsf⟩:=hpc k i hm e
    exact T.mayX H hs hx hsf
   ·exact T.may H hc ho h3 (by omega)
  ·exact(E.mine i c _ hc (h3 _ _ _ (E.inv i c hc))).2.2
 let ρp:Nat→Nat×Nat:=fun k=>match ixK ix k with|some i=>ρ i|none=>(0,0)
 let Tp:Nat→Nat→Prop:=fun k b=>∃ i d,(k,i)∈ix∧(hB β)[k]?=some (some d)∧d.x≠Ext.none∧S i b
 have ixKof:∀ k i,(k,i)∈ix→ixK ix k=some i:=fun k i hm=>by
  obtain⟨d,hd⟩:=ofix k i hm
  obtain⟨i',c,h1,_⟩:=hpk k d hd
  rw[(qd6 hone k i k i' hm (qdw h1) (.inl rfl)).2];exact h1
 have ρp_eq:∀ k i,(k,i)∈ix→ρp k=ρ i:=fun k i hm=>by
  show(match ixK ix k with|some i=>ρ i|none=>(0,0))=ρ i
  rw[ixKof k i hm]
 let F:Nat→Prop:=fun b=>∃ k i,(k,i)∈ix∧(b=(ρ i).1∨Tp k b)
 have Tp_eq:∀ k i d,(k,i)∈ix→(hB β)[k]?=some (some d)→d.x≠Ext.none→Tp k=S i:=fun k i d hm hd hne=>by
  funext b
  refine propext ⟨?_,fun hb=>⟨i,d,hm,hd,hne,hb⟩⟩
  rintro⟨i',_,hm',_,_,hb⟩
  rw[(qd6 hone k i k i' hm hm' (.inl rfl)).2];exact hb
 have TpS:∀ k i b,(k,i)∈ix→Tp k b→S i b:=fun k i b hm hb=>by
  obtain⟨i',_,hm',_,_,hb'⟩:=hb
  rw[(qd6 hone k i k i' hm hm' (.inl rfl)).2];exact hb'
 have K1:PackOK ρp (hB β) w F Tp:=by
  refine⟨fun k d hk=>?_,fun k d hk j hj=>?_,fun k d hk j hj=>?_,fun k d hk=>?_,fun k d b hk hb=>?_,fun k d l e hk hl hne=>?_⟩
  ·obtain⟨i,c,hm,_⟩:=inv k d hk
   exact⟨k,i,hm,.inl (by rw[ρp_eq k i hm])⟩
  ·obtain⟨i,c,hm,hc,ho,hn,hr,_⟩:=inv k d hk
   obtain⟨y,hy,hdy⟩:=H.cell i c hc j (Nat.lt_of_lt_of_le hj hn)
   rw[ρp_eq k i hm]
   refine⟨y,hy,fun r hrr=>?_⟩
   rw[←(hr j hj).den (r:=ρ) (r':=r) (fun k' i' hm'=>by
    obtain⟨d',hd'⟩:=ofix k' i' hm'
    rw[hrr k' ⟨d',hd'⟩,ρp_eq k' i' hm'])]
   exact hdy.self
  ·obtain⟨i,c,hm,hc,ho,hn,_⟩:=inv k d hk
   rw[ρp_eq k i hm]
   exact(H.own i c hc ho j (Nat.lt_of_lt_of_le hj hn)).1
  ·obtain⟨i,c,hm,hc,ho,hn,_,hx',_⟩:=inv k d hk
   by_cases en:d.x=Ext.none
   ·rw[en]
    rintro b ⟨i',d',_,hd',hne,_⟩
    rw[hk] at hd'
    obtain rfl:d=d':=by simpa using hd'
    exact hne en
   ·rw[Tp_eq k i d hm hk en,ρp_eq k i hm]
    rcases hx' with e|e
    ·exact absurd e en
    ·rw[e];exact E.inv i c hc
  ·obtain⟨i,c,hm,hc,ho,hn,_⟩:=inv k d hk
   refine⟨⟨k,i,hm,.inr hb⟩,?_⟩
   have:=(E.mine i c b hc (TpS k i b hm hb)).1
   rw[ρp_eq k i hm];omega
  ·obtain⟨i,c,hm,hc,ho,_⟩:=inv k d hk
   obtain⟨i2,c2,hm2,hc2,ho2,_⟩:=inv l e hl
   have hii:i≠i2:=fun ei=>hne (qd6 hone k i l i2 hm hm2 (.inr ei)).1
   refine⟨by rw[ρp_eq k i hm,ρp_eq l i2 hm2];exact H.sep i c i2 c2 hc ho hc2 hii,fun b hb=>?_⟩
   obtain⟨a1,a2⟩:=E.apart i c b i2 c2 hc (TpS k i b hm hb) hc2 (Ne.symm hii)
   exact⟨by rw[ρp_eq l i2 hm2];exact a1,fun hb2=>a2 (TpS l i2 b hm2 hb2)⟩
 have m00:=qdw h00
 have H':HOK X ρ (qa7 (packC ok hB) m keep h 0) w:=by
  refine H.redo (T:=fun k b=>k=m∧F b) E (fun i=>∃ k,(k,i)∈ix) (fun k=>k=m) F (fun b hb=>?_) (fun b hb=>?_) (fun i hi=>?_) (fun k d hk hA=>?_) (fun k d hk hA=>?_) (fun k d l e hk hA hl hB' hne=>?_)
  ·obtain⟨k,i,hm,hb⟩:=hb
   obtain⟨d,c,hd,hc,ho,_⟩:=act k i hm
   rcases hb with hb|hb
   ·exact⟨i,c,⟨k,hm⟩,hc,.inl ⟨ho,hb⟩⟩
   ·exact⟨i,c,⟨k,hm⟩,hc,.inr (TpS k i b hm hb)⟩
  ·obtain⟨k,i,hm,hb⟩:=hb
   rcases hb with rfl|hb
   ·exact mayB k i hm
   ·obtain⟨d,c,hd,hc,_⟩:=act k i hm
    exact(E.mine i c b hc (TpS k i b hm hb)).2.2
  ·have hi:i<ss.length:=by have:=T.n0;omega
   rcases hbs i hi with rfl|h1
   ·exact⟨fil0,rfl⟩
   ·have hf:=(H.base i (by have:=T.n0;omega)).1
    obtain⟨c,hc⟩:=hf
    exact⟨qgx (List.getElem?_eq_some_iff.1 hc).1 (.inr ⟨by rw[Nat.zero_add];exact h1,c,hc⟩),rfl⟩
  ·rcases qgw hk with ⟨h1,_⟩|⟨h1,h2,h3⟩
   ·exact absurd (by omega) hA
   ·rw[Nat.zero_add] at h1 h2
    refine⟨fun⟨l,hm⟩=>hkk k h2 l k hm rfl,rfl,h3,fun j hj y hy r hrr=>?_⟩
    rw[(hkd k h2 d h3 j hj).inScope ρ r hrr]
    exact hy.self
  ·subst hA
   rcases qgw hk with ⟨_,rfl⟩|⟨h1,_⟩
   ·refine⟨⟨0,k,m00,.inl rfl⟩,nzj,fun _ j hj=>absurd hj (Nat.not_lt_zero j),⟨⟨rfl,0,k,m00,.inl rfl⟩,β,hok,ρp,Tp,ρp_eq 0 k m00,hf0,?_⟩,fun b hb=>⟨hb.2,.inl rfl⟩⟩
    have:(fun b=>k=k∧F b)=F:=by funext b;exact propext ⟨fun h=>h.2,fun h=>⟨rfl,h⟩⟩
    rw[this];exact K1
   ·exact absurd (by omega) h1
  ·exact absurd (hA.trans hB'.symm) hne
 refine⟨v,_,ρ,H',fun r hrr=>?_,kk⟩
 rw[hv ρ r hrr];exact hd.self
end Go.Proofs.YtdljelmbjdjpjaaGreat.Sx


namespace Go.Proofs.YtdljelmbjdjpjaaGreat
open Go.ChangeShapes Go.WideShapes Go.ChangeAt Go.RowKit
theorem qe6 {a b:Bool} (h:a=b):Ending.returned (.bool a)=.returned (.bool b):=by rw[h]
theorem qnu {k:IntKind} {a b:Int} (h:a=b):Ending.returned (.int k a)=.returned (.int k b):=by rw[h]
theorem qf7 (a:Addr) (n:Nat):(a.add n).block=a.block:=by unfold Addr.add;split<;>rfl
theorem qtf (a:Addr) (i j:Nat):(a.add i).add j=a.add (i+j):=by
 unfold Addr.add
 by_cases hi:i=0
 ·by_cases hj:j=0<;>simp[hi,hj]
 ·by_cases hj:j=0
  ·simp[hi,hj]
  ·simp[hi,hj,Nat.add_assoc]
theorem qnv (b i:Nat):(⟨b,0,none⟩:Addr).add i=⟨b,i,none⟩:=by
 unfold Addr.add
 split
 ·subst i;rfl
 ·simp
def Seg (w:World) (B:Nat) (A:Option Addr) (m:Nat) (f:Nat→Value):Prop:=
 0<m→∃ x,A=some x∧x.block<B∧∀ j,j<m→w.cell? (x.add j)=some (f j)
section
variable {w w':World} {B B' m:Nat} {A:Option Addr} {f:Nat→Value}
theorem Seg.zero:Seg w B A 0 f:=fun h=>absurd h (by omega)
theorem Seg.keep (h:Seg w B A m f) (hk:∀ p:Addr,p.block<B→w'.cell? p=w.cell? p):Seg w' B A m f:=fun hm=>by
 obtain⟨x,e,hb,hc⟩:=h hm
 exact⟨x,e,hb,fun j hj=>(hk _ (by rw[qf7];exact hb)).trans (hc j hj)⟩
theorem Seg.below (h:Seg w B A m f) (hb:Below B w w'):Seg w' B A m f:=h.keep fun _ hp=>hb.cell hp
theorem Seg.more (h:Seg w B A m f) (hB:B≤B'):Seg w B' A m f:=fun hm=>by
 obtain⟨x,e,hb,hc⟩:=h hm
 exact⟨x,e,by omega,hc⟩
theorem Seg.same {g:Nat→Value} (h:Seg w B A m f) (e:∀ j,j<m→f j=g j):Seg w B A m g:=fun hm=>by
 obtain⟨x,ex,hb,hc⟩:=h hm
 exact⟨x,ex,hb,fun j hj=>by rw[hc j hj,e j hj]⟩
theorem Seg.less {n:Nat} (h:Seg w B A m f) (e:n≤m):Seg w B A n f:=fun hm=>by
 obtain⟨x,ex,hb,hc⟩:=h (by omega)
 exact⟨x,ex,hb,fun j hj=>hc j (by omega)⟩
theorem Seg.alloc (h:Seg w B A m f) (hB:B≤w.heap.size) (o:Obj):Seg (w.alloc o) B A m f:=h.below ((Below.refl _ _).alloc hB o)
theorem Seg.drew (h:Seg w B A m f):Seg w.drew B A m f:=h
end
theorem Seg.new (w:World) (ty:TypeId) (vs:Array Value) (b:Nat) (hb:b=w.heap.size) (f:Nat→Value) (hf:∀ j,j<vs.size→vs[j]?=some (f j)) :
  Seg (w.alloc (.cells vs ty)) (w.heap.size+1) (some ⟨b,0,none⟩) vs.size f:=fun _=>
 ⟨_,rfl,by simp[hb],fun j hj=>by rw[qnv,World.cell?_alloc_at _ _ _ _ hb];exact hf j hj⟩
section
variable {H:Type} {enc:TypeId×Value→H} {P:Program}
theorem qhd (hl:laidOutB P=true) {W W':World} (bel:Below W.heap.size W W'):∀ (ts:List TypeId) (vs:List Value) (ds:List (DataW H)) (p:List MemPlace),
  (∀ t∈ts,P.readableRec t=true∧t<P.types.size)→DataW.TrodAll enc P W 0 (fun _=>true) true ts vs ds p→DataW.TrodAll enc P W' 0 (fun b=>decide (b<W.heap.size)) true ts vs ds p
 | [],vs,ds,p,_,h=>by
  obtain⟨rfl,rfl,rfl⟩:=trodAll_nil h
  exact trodAll_mk0
 | t::ts,vs,ds,p,ht,h=>by
  obtain⟨v,vs,d,ds,p,q,rfl,rfl,rfl,h0,hr⟩:=trodAll_cons h
  have lt:∀ x∈p,x.block<W.heap.size:=by obtain⟨m,hm⟩:=h0;exact DataW.trod_lt m _ _ _ hm
  exact trodAll_cons_mk (Below.trod hl (ht t (by simp)).1 (ht t (by simp)).2 h0 bel lt) (qhd hl bel ts vs ds q (fun x hx=>ht x (by simp[hx])) hr)
theorem qid:∀ (ts:List TypeId) (vs:List Value) (ds:List (DataW H)) (p:List MemPlace) {w:World} {base:Nat} {sp:Nat→Bool} {hd:Bool},DataW.TrodAll enc P w base sp hd ts vs ds p→ds.length=ts.length
 | [],vs,ds,p,_,_,_,_,h=>by
  obtain⟨rfl,rfl,rfl⟩:=trodAll_nil h
  rfl
 | t::ts,vs,ds,p,_,_,_,_,h=>by
  obtain⟨v,vs,d,ds,p,q,rfl,rfl,rfl,h0,hr⟩:=trodAll_cons h
  simp[qid ts vs ds q hr]
end
theorem qq8 {H:Type} {enc:TypeId×Value→H} {C:Checked} {os:Os} {f:FuncId} {fn:Func} {s:ChangeSpec} {tb:TypeId}
  (own:ownKnob C.prog.godebug=none) (started:os.Started) (noInit:C.prog.inits.idxOf? f=none) (hfn:C.prog.funcs[f]?=some fn)
  (hl:laidOutB C.prog=true) (hr:fn.params.toList.all (fun t=>C.prog.readableRec t&&decide (t<C.prog.types.size))=true)
  (hres:fn.resultTypes = #[tb]) (hb:C.prog.underlying tb=some .bool) (hvars:s.vars=[])
  (hspec:∀ ds:List (DataW H),ds.length=fn.params.toList.length→s.fn H ds={ results:=[.lit (.bool true)],args:=ds })
  (witness:∃ (w:World) (tape:Tape) (i:Input),w.os=os∧(w.forCall tape i).Shaped C.prog∧i.vars=[]∧Input.okWide C.prog (w.forCall tape i) .any w.heap.size f i∧
   s.pre6 enc C.prog fn [] false (w.forCall tape i).memory i.args∧({}:Assume).holds C.prog (lone (Frame.enter C.prog f i.args .normal) [] (w.forCall tape i)))
  (walk:∀ (W:World) (base:Nat) (args:Array Value) (ds:List (DataW H)) (p:List MemPlace),
   (∀ (j:Nat) t v,fn.params[j]?=some t→args[j]?=some v→Value.okWide C.prog W .any base t v)→
   DataW.TrodAll enc C.prog W 0 (fun _=>true) true fn.params.toList args.toList ds p→
   (DataW.weightsEach C.prog fn.params.toList ds).all (·≤reachBytes)=true→
   Calls C.prog f args W fun e W'=>e=.returned (.bool true)∧Below W.heap.size W W') :
  ReturnsInHanded {} C os f .any (s.pre6 enc C.prog fn [] false) (s.post enc C.prog fn false true false false):=by
 refine returnsInHanded_of_change_sized (C:=C) own started noInit hfn witness ?_
 intro W base args ds gs before hval hW _ hsz _
 have hW':=hW
 obtain⟨p,q,hA,hV,rfl,hfz,hnd⟩:=hW
 rw[hvars] at hV
 obtain⟨rfl,rfl⟩:=trodVars_none hV
 have hvt:s.plain.varTypes C.prog=[]:=by simp[ChangeSpec.plain,DataSpec.varTypes,hvars]
 rw[hvt] at hsz
 simp only[List.append_nil] at hsz
 refine(walk W base args ds p hval hA hsz).mono fun e W' ⟨he,bel⟩=>?_
 subst he
 have hlen:ds.length=fn.params.toList.length:=qid _ _ _ _ hA
 have hs:=hspec ds hlen
 refine⟨_,rfl,ds,[],p++[],[],p,[],hW',?_,?_,?_,bel.frame _,fun h=>by cases h⟩
 ·rw[List.append_nil,hs,hres]
  exact trodAll_mk1 (shut_bool hb _)
 ·rw[List.append_nil,hs]
  refine qhd hl bel _ _ _ _ (fun t ht=>?_) hA
  have:=List.all_eq_true.1 hr t ht
  simpa using this
 ·rw[List.append_nil,hs,hvars]
  simp[DataW.TrodVars]
def qjr (P:Program):Nat→TypeId→Nat→Option TypeId
 | 0,_,_=>none
 | d+1,t,j=>
  match P.underlying t with
  | some (.struct fs)=>(fs.toList.find? fun f=>decide (f.offset≤j)&&decide (j<f.offset+P.cellsOf f.type)).bind fun f=>qjr P d f.type (j-f.offset)
  | some (.array n e)=>if j<n*P.cellsOf e then qjr P d e (j%P.cellsOf e) else none
  | _=>if j=0 then some t else none
section
variable {H:Type} {enc:TypeId×Value→H} {P:Program} {w:World} {base:Nat} {spare:Nat→Bool} {held:Bool}
theorem qf8:∀ (d:Nat) (t:TypeId) (j:Nat) (l:TypeId) (fuel:Nat) (cs:List Value) (x:DataW H×List MemPlace),qjr P d t j=some l→j<cs.length→DataW.trod enc P w base spare held fuel t cs=some x→
  ∃ (v:Value) (y:DataW H×List MemPlace) (n:Nat),cs[j]?=some v∧DataW.trod enc P w base spare held n l [v]=some y
 | 0,_,_,_,_,_,_,h,_,_=>by simp[qjr] at h
 | d+1,t,j,l,fuel,cs,x,h,hj,ht=>by
  unfold qjr at h
  split at h
  ·rename_i fs hu
   obtain⟨f,hf,hl⟩:=Option.bind_eq_some_iff.1 h
   obtain⟨xs,n,hn,hx,hlen,hxl,hg⟩:=DataW.trod_struct hu ht
   have hp:=List.find?_some hf
   simp only[Bool.and_eq_true,decide_eq_true_eq] at hp
   obtain⟨i,hi,hie⟩:=List.getElem_of_mem (List.mem_of_find?_eq_some hf)
   have hfi:fs[i]?=some f:=by simp at hi;rw[Array.getElem?_eq_getElem hi];simpa using hie
   have hgi:=hg i f hfi
   have hxi:i<xs.length:=by rw[hxl];simpa using hi
   rw[List.getElem?_eq_getElem hxi] at hgi
   obtain⟨v,y,n',hv,hy⟩:=qf8 d f.type (j-f.offset) l n _ _ hl (by simp;omega) hgi
   refine⟨v,y,n',?_,hy⟩
   rw[List.getElem?_take,List.getElem?_drop] at hv
   split at hv
   ·rwa[show f.offset+(j-f.offset)=j from by omega] at hv
   ·cases hv
  ·rename_i n e hu
   split at h
   ·rename_i hjn
    obtain⟨xs,n',hn,hx,hlen,hxl,hg⟩:=DataW.trod_array hu ht
    have hc:0<P.cellsOf e:=by
     rcases Nat.eq_zero_or_pos (P.cellsOf e) with h0|h0
     ·rw[h0] at hjn;omega
     ·exact h0
    have hq:j / P.cellsOf e<n:=(Nat.div_lt_iff_lt_mul hc).2 hjn
    have hgi:=hg (j / P.cellsOf e) hq
    rw[List.getElem?_eq_getElem (by omega)] at hgi
    have hm:=Nat.mod_lt j hc
    have hd:=Nat.div_add_mod j (P.cellsOf e)
    have hd':j / P.cellsOf e*P.cellsOf e+j%P.cellsOf e=j:=by rw[Nat.mul_comm];exact hd
    obtain⟨v,y,n'',hv,hy⟩:=qf8 d e (j%P.cellsOf e) l n' _ _ h (by simp;omega) hgi
    refine⟨v,y,n'',?_,hy⟩
    rw[List.getElem?_take,if_pos hm,List.getElem?_drop,hd'] at hv
    exact hv
   ·cases h
  ·split at h
   ·rename_i hj0
    subst hj0
    obtain rfl:t=l:=by simpa using h
    match cs,hj with
    | [v],_=>exact⟨v,x,fuel,rfl,ht⟩
    | v::v'::r,_=>
     exfalso
     cases fuel with
     | zero=>simp[DataW.trod] at ht
     | succ n=>
      unfold DataW.trod at ht
      split at ht<;>simp_all
   ·cases h
end
section
variable {H:Type} {enc:TypeId×Value→H} {P:Program} {w:World}
theorem qtg {t e:TypeId} {C:Nat} {v:Value} {d:DataW H} {p:List MemPlace} (ht:P.underlying t=some (.slice e)) (hC:P.cellsOf e=C) (h:DataW.Trod enc P w 0 (fun _=>true) true t v d p) (hsh:∃ A len cap,v=.slice A len cap) :
  ∃ (A:Option Addr) (len cap:Nat) (f:Nat→Value),v=.slice A len cap∧len≤cap∧cap≤maxLen∧((len=0∧d=.nil)∨∃ el sp,d=.slice el sp∧el.length=len)∧Seg w w.heap.size A (len*C) f∧
   ∀ i,i<len→∃ (x:DataW H×List MemPlace) (n:Nat) (cs:List Value),DataW.trod enc P w 0 (fun _=>true) true n e cs=some x∧cs.length=C∧∀ j,j<C→cs[j]?=some (f (i*C+j)):=by
 obtain⟨A,len,cap,rfl⟩:=hsh
 obtain⟨fuel,hf⟩:=h
 rcases Deep.open_slice ht hf with ⟨hcs,hx⟩|⟨a,len',cap',m,n,D,Pl,hcs,hb,hl,hm,hmm,hx,hi⟩
 ·simp[Value.cells] at hcs
  obtain⟨rfl,rfl,rfl⟩:=hcs
  simp only[Prod.mk.injEq] at hx
  exact⟨none,0,0,fun _=>undef,rfl,nlr _,by simp,.inl ⟨rfl,hx.1⟩,by rw[Nat.zero_mul];exact Seg.zero,fun i hi=>absurd hi (by omega)⟩
 ·simp[Value.cells] at hcs
  obtain⟨rfl,rfl,rfl⟩:=hcs
  simp only[Prod.mk.injEq] at hx
  have hmc:m=cap:=by simpa using hmm
  subst hmc
  rw[hC] at hi
  have hrow:∀ i,i<len→∃ cs',(cs'.length=C∧∀ j,j<C→w.cell? ((a.add (i*C)).add j)=cs'[j]?)∧DataW.trod enc P w 0 (fun _=>true) true n e cs'=some (D i,Pl i):=fun i hil=>by
   obtain⟨cs',hc,ht'⟩:=hi i (by omega)
   obtain⟨_,hcl,hat⟩:=World.cells?_some hc
   exact⟨cs',⟨hcl,hat⟩,ht'⟩
  refine⟨some a,len,m,fun j=>(w.cell? (a.add j)).getD undef,rfl,hl,hm,.inr ⟨_,_,hx.1,by simp⟩,?_,?_⟩
  ·intro hpos
   have hcell:∀ j,j<len*C→w.cell? (a.add j)=some ((w.cell? (a.add j)).getD undef):=by
    intro j hj
    have hC0:0<C:=by
     rcases Nat.eq_zero_or_pos C with h0|h0
     ·rw[h0] at hj;omega
     ·exact h0
    obtain⟨cs',⟨hcl,hat⟩,_⟩:=hrow (j / C) ((Nat.div_lt_iff_lt_mul hC0).2 hj)
    have hr:=Nat.mod_lt j hC0
    have hd:=Nat.div_add_mod j C
    have:=hat (j%C) hr
    rw[qtf,show j / C*C+j%C=j from by rw[Nat.mul_comm];exact hd,List.getElem?_eq_getElem (by omega)] at this
    rw[this];rfl
   refine⟨a,rfl,?_,hcell⟩
   have:=World.block_lt_of_cell? _ _ (hcell 0 hpos)
   rwa[qf7] at this
  ·intro i hil
   obtain⟨cs',⟨hcl,hat⟩,ht'⟩:=hrow i hil
   refine⟨_,n,cs',ht',hcl,fun j hj=>?_⟩
   have:=hat j hj
   rw[qtf,List.getElem?_eq_getElem (by omega)] at this
   show cs'[j]?=some ((w.cell? (a.add (i*C+j))).getD undef)
   rw[this,List.getElem?_eq_getElem (by omega)];rfl
end
theorem qnw {P:Program} {W:World} {r:Reach} {base:Nat} {t e:TypeId} {v:Value} (ht:P.underlying t=some (.slice e)) (hv:Value.okWide P W r base t v):∃ A len cap,v=.slice A len cap:=okWide_slice ht hv
section
variable {H:Type} {enc:TypeId×Value→H} {P:Program} {w:World} {base:Nat} {spare:Nat→Bool} {held:Bool}
theorem qbr {d:Nat} {t:TypeId} {j:Nat} {l:TypeId} {fuel:Nat} {cs:List Value} {x:DataW H×List MemPlace} {k:IntKind} {u:Value} (hl:qjr P d t j=some l) (hu:P.underlying l=some (.int k)) (hj:cs[j]?=some u)
  (h:DataW.trod enc P w base spare held fuel t cs=some x):u=.int k (intOf u)∧(Lit.int k (intOf u)).wf=true:=by
 have hjl:j<cs.length:=(List.getElem?_eq_some_iff.1 hj).1
 obtain⟨v,y,n,hv,hy⟩:=qf8 d t j l fuel cs x hl hjl h
 rw[hj] at hv
 obtain rfl:=Option.some.inj hv
 obtain⟨z,hz,_,hw⟩:=DataW.trod_int hu hy
 obtain rfl:u=.int k z:=by simpa using hz
 exact⟨rfl,hw⟩
end
theorem qdf {w:World} {a:Addr} {o:Obj} {v:Value} (h:w.cell? a=some v):(w.alloc o).cell? a=some v:=by
 rw[World.cell?_alloc_lt w o a (World.block_lt_of_cell? _ _ h)];exact h
theorem qje {w:World} {a:Addr} {v:Value} (h:w.cell? a=some v):w.drew.cell? a=some v:=h
theorem qkp {w:World} {a b:Addr} {u v:Value} (h:w.cell? a=some v) (hne:b≠a):(w.setCell b u).cell? a=some v:=by
 rw[World.cell?_setCell_other w b a u hne];exact h
theorem qkq {w:World} {b:Addr} {u v:Value} (h:w.cell? b=some v):(w.setCell b u).cell? b=some u:=World.cell?_setCell_same w b u h
theorem qb3 {B:Nat} {a w:World} (h:Below B a w) (n:Nat):Below B a (w.drewN n):=⟨h.os,h.tape,h.output,h.size,h.block⟩
end Go.Proofs.YtdljelmbjdjpjaaGreat


namespace Go.Proofs.YtdljelmbjdjpjaaGreat.Sx
open Go Go.RowKit
theorem qaq {o:Bool} {n:Nat} {f:Nat→Value} {j:Nat} (h:j<n):(⟨o,n,[(0,n,.agg ⟨segL n f⟩)]⟩:Chunk).f j=f j:=by
 show qa5 _ _=_
 rw[qao,if_pos (by omega)]
 exact qcn h
theorem qgy {o:Bool} {m p:Nat} {f:Nat→Value} {v:Value} (hp:p<m) (h1:v.oneCell'=true) (hv:f p=v):Reads ⟨o,m,[(0,m,.agg ⟨segL m f⟩)]⟩ p false 1 v:=
 ⟨hp,h1,by rw[qaq hp];exact hv⟩
def lit1 (v:Value):Bool:=
 match v with
 | .int _ _ | .bool _ | .string _ | .float _ _ | .complex _ _ _ | .nilFunc | .nilIface=>true
 | .pointer none | .slice none _ _=>true
 | _=>false
theorem qd7 {v:Value} (h:lit1 v=true):qa3 v=true:=by
 cases v with
 | pointer a=>cases a<;>first | rfl | (simp[lit1] at h)
 | slice a l c=>cases a<;>first | rfl | (simp[lit1] at h)
 | _=>first | rfl | (simp[lit1] at h)
theorem qmp {h:Hp} {v:Value} (hv:lit1 v=true):Safe1 h v:=by
 cases v with
 | pointer a=>cases a<;>first | trivial | (simp[lit1] at hv)
 | slice a l c=>cases a<;>first | trivial | (simp[lit1] at hv)
 | _=>first | trivial | (simp[lit1] at hv)
theorem qe7 {h:Hp} {l:List Value} (hl:l.all lit1=true):Safe h (.agg ⟨l⟩):=fun x hx=>qmp (List.all_eq_true.1 hl x hx)
theorem qe8 {h:Hp} {o:Bool} {n:Nat} {l:List Value} (hn:l.length=n) (hl:l.all lit1=true):∀ j,j<(⟨o,n,[(0,n,.agg ⟨l⟩)]⟩:Chunk).n→Safe1 h ((⟨o,n,[(0,n,.agg ⟨l⟩)]⟩:Chunk).f j):=fun j hj=>by
 have hj:j<n:=hj
 show Safe1 h (qa5 _ _)
 rw[qao,if_pos (by omega)]
 simp only[cellIn,Nat.sub_zero,List.getD_eq_getElem?_getD]
 rw[List.getElem?_eq_getElem (by omega)]
 exact qmp (List.all_eq_true.1 hl _ (List.getElem_mem _))
structure Seen where
 a:Addr
 n:Nat
 f:Nat→Value
def SeenIn (w:World) (s:Seen):Prop:=s.a.spot=none∧s.a.block<w.heap.size∧∀ j,j<s.n→w.cell? (s.a.add j)=some (s.f j)∧qa3 (s.f j)=true
theorem SeenIn.of {w:World} {A:Option Addr} {m:Nat} {f:Nat→Value} (h:Seg w w.heap.size A m f) (hm:0<m) (hp:∀ j,j<m→qa3 (f j)=true):∃ a,A=some a∧SeenIn w ⟨a,m,f⟩:=by
 obtain⟨a,rfl,hb,hc⟩:=h hm
 refine⟨a,rfl,?_,hb,fun j hj=>⟨hc j hj,hp j hj⟩⟩
 have:=hc 0 hm
 cases e:a.spot with
 | none=>rfl
 | some s=>
  exfalso
  have e0:a.add 0=a:=rfl
  rw[e0] at this
  unfold World.cell? at this
  rw[e] at this
  simp at this
  split at this<;>simp at this
theorem qie {P:Program} {W:World} {r:Reach} {base:Nat} {t e:TypeId} {a:Addr} {len cap:Nat} (ht:P.underlying t=some (.slice e)) (hv:Value.okWide P W r base t (.slice (some a) len cap)):a.spot=none∧a.block<W.heap.size∧len≤cap:=by
 simp only[Value.okWide,ht,Cell.okWide,Cell.ok,World.has] at hv
 obtain⟨h1,h2,h3,h4,row,cells,h5,_⟩:=hv
 refine⟨h4,?_,h1⟩
 unfold World.shape? at h5
 cases e:W.heap[a.block]? with
 | none=>rw[e] at h5;simp at h5
 | some o=>exact(Array.getElem?_eq_some_iff.1 e).1
theorem qq9 {P:Program} {W:World} {r:Reach} {base:Nat} {t e:TypeId} {len cap:Nat} (ht:P.underlying t=some (.slice e)) (hv:Value.okWide P W r base t (.slice none len cap)):len=0∧cap=0:=by
 simp only[Value.okWide,ht,Cell.okWide,Cell.ok] at hv
 split at hv<;>simp_all
theorem SeenIn.some {P:Program} {w:World} {r:Reach} {base:Nat} {t e:TypeId} {a:Addr} {len cap m:Nat} {f:Nat→Value} (ht:P.underlying t=Option.some (.slice e)) (hv:Value.okWide P w r base t (.slice (Option.some a) len cap))
  (h:Seg w w.heap.size (Option.some a) m f) (hp:∀ j,j<m→lit1 (f j)=true):SeenIn w ⟨a,m,f⟩:=by
 obtain⟨h1,h2,_⟩:=qie ht hv
 refine⟨h1,h2,fun j hj=>⟨?_,qd7 (hp j hj)⟩⟩
 obtain⟨x,hx,_,hc⟩:=h (Nat.lt_of_le_of_lt (Nat.zero_le _) hj)
 obtain rfl:a=x:=by simpa using hx
 exact hc j hj
inductive ArgIs (sg:List Seen):Value→Value→Prop
 | plain {v:Value} (h:qam v=true):ArgIs sg v v
 | slice {k l c s0 n:Nat} {a:Addr} {f:Nat→Value} (h:sg[k]?=some ⟨a,n,f⟩):ArgIs sg (.slice (some ⟨k,0,some s0⟩) l c) (.slice (some a) l c)
section
variable {P:Program} {G:Tys}
end
end Go.Proofs.YtdljelmbjdjpjaaGreat.Sx


namespace Go.Proofs.YtdljelmbjdjpjaaGreat
open Go.RowKit
theorem Tryz.info_u8:(Tryz.prog.info? 5).map (fun i=>(i.zero,i.size,i.bytes))=some (some (.int .u8 0),1,1):=by kernel_rfl
theorem qth {P:Program} (w:World) (t e:TypeId) (a:Option Addr) (l c:Nat) (h:P.underlying t=some (.slice e)):(binOp .eql t (.slice a l c) (.slice none 0 0)).run P w=.ok (.bool a.isNone) w:=by
 simp[binOp,run_equal_slice_nil w t e a l c h]
theorem qmq {w:World} {base base':Nat} {e:TypeId} {size:Nat} {v:Value} {n:Nat} {xs:List Value} (h:w.ownsRow base e size v n xs) (hb:base'≤base):w.ownsRow base' e size v n xs:=by
 obtain⟨h1,h2⟩:=h
 refine⟨h1,?_⟩
 rcases h2 with h2|⟨g,cap,cur,hv,hg,r⟩
 ·exact .inl h2
 ·exact .inr ⟨g,cap,cur,hv,by omega,r⟩
theorem qti (w:World):Calls Tryz.prog 120 #[.slice none 0 0] w fun e w'=>e=.returned (.slice none 0 0)∧w=w':=by
 have h0:=fun w:World=>qth (P:=Tryz.prog) w 39 5 none 0 0 Tryz.underlying39
 go_enter Tryz.func120,Tryz.ntmps120
 go_wp2
 go_ret
 exact⟨rfl,rfl⟩
theorem qtj (x:Addr) (cap:Nat) (bs:List Int) (w:World) (hm:bs.length≤1048576) (hc:∀ j,j<bs.length→w.cell? (x.add j)=some (.int .u8 (bs.getD j 0))) :
  Calls Tryz.prog 120 #[.slice (some x) bs.length cap] w fun e w'=>∃ g c,e=.returned (.slice (some ⟨g,0,none⟩) bs.length c)∧w'.ownsRow w.heap.size 5 1 (.slice (some ⟨g,0,none⟩) bs.length c) bs.length (bs.map (Value.int .u8))∧w.heap.size≤g∧Below w.heap.size w w':=by
 obtain⟨i0,hi0,hz0,hz1,hz2⟩:=info_parts Tryz.info_u8
 have h0:=fun w:World=>qth (P:=Tryz.prog) w 39 5 (some x) bs.length cap Tryz.underlying39
 go_enter Tryz.func120,Tryz.ntmps120
 have hown:(w.alloc (.cells #[] 5)).ownsRow w.heap.size 5 1 (.slice (some ⟨w.heap.size,0,none⟩) 0 0) 0 []:=
  ⟨by simp,.inr ⟨w.heap.size,0,#[],rfl,nlr _,heap_alloc_new w _,nlr _,by simp,by simp,by simp⟩⟩
 have hblt:∀ j,j<bs.length→x.block<w.heap.size:=fun j hj=>by have:=World.block_lt_of_cell? _ _ (hc j hj);rwa[qf7] at this
 go_wp2_with (at_builtin;refine wpList_append_own _ rfl (.tmp 5) (.tmp 6) 39 rfl w.heap.size 5 i0 (.int .u8 0) 1 1 Tryz.underlying39 hi0 hz0 hz1 hz2 rfl (by decide) _ _ _ rfl hown x bs.length cap (bs.map (Value.int .u8)) rfl ?c1 ?c2 ?c3 ?c4 ?c5 ?c6 ?_)
 case c1=>simp
 case c2=>
  intro j u hu
  have hj:j<bs.length:=by
   rcases Nat.lt_or_ge j bs.length with h|h
   ·exact h
   ·rw[List.getElem?_eq_none (by simpa using h)] at hu;cases hu
  have hu2:u=.int .u8 (bs.getD j 0):=by simp[hj,List.getD_eq_getElem?_getD] at hu ⊢;exact hu.symm
  rw[hu2,World.cell?_alloc_lt w _ _ (by rw[qf7];exact hblt j hj)]
  exact hc j hj
 case c3=>intro u hu;obtain⟨z,_,rfl⟩:=List.mem_map.1 hu;rfl
 case c4=>unfold maxLen;omega
 case c5=>omega
 case c6=>simp
 intro v' w1 hown1 hg1 hnil
 have hb1:Below w.heap.size w w1:=((Below.refl _ _).alloc (nlr _) _).grown hg1 (by simp) (by intro k hk;simp[Value.ownBlock] at hk;omega)
 go_wp2_with fail
 go_ret
 have ho:w1.ownsRow w.heap.size 5 1 v' bs.length (bs.map (Value.int .u8)):=by simpa using hown1
 rcases ho.2 with ⟨rfl,_⟩|⟨g,c,cur,rfl,hge,_⟩
 ·simp at hnil
 ·exact⟨g,c,rfl,ho,hge,hb1⟩
theorem q1h (to at_ tr:Int) (bent:Bool) (w:World):Calls Tryz.prog 93 #[.agg #[.int .i64 to,.slice none 0 0,.int .i64 at_,.int .i64 tr,.bool bent]] w fun e w'=>e=.returned (.agg #[.int .i64 to,.slice none 0 0,.int .i64 at_,.int .i64 tr,.bool bent])∧Below w.heap.size w w':=by
 have hB:Below w.heap.size w w:=Below.refl _ _
 go_enter Tryz.func93,Tryz.ntmps93
 go_wp2_with (go_at_call 120;refine(qti _).mono ?_;rintro e w' ⟨rfl,rfl⟩)
 exact bodyPost_ret (v:=.agg #[.int .i64 to,.slice none 0 0,.int .i64 at_,.int .i64 tr,.bool bent]) (by simp[results,Tryz.results93,go_sem]) rfl ⟨rfl,(by repeat (first|with_reducible exact hB|with_reducible exact Below.refl _ _|with_reducible apply Below.drew|with_reducible apply qb3|with_reducible refine Below.alloc ?_ (by first|(simp;done)|(simp;omega)|omega) _|with_reducible refine Below.setCell ?_ (by first|(simp;done)|(simp;omega)|omega) _))⟩
theorem qw4 (to at_ tr:Int) (bent:Bool) (x:Addr) (cap:Nat) (bs:List Int) (w:World) (hm:bs.length≤1048576) (hc:∀ j,j<bs.length→w.cell? (x.add j)=some (.int .u8 (bs.getD j 0))) :
  Calls Tryz.prog 93 #[.agg #[.int .i64 to,.slice (some x) bs.length cap,.int .i64 at_,.int .i64 tr,.bool bent]] w fun e w'=>∃ g c,e=.returned (.agg #[.int .i64 to,.slice (some ⟨g,0,none⟩) bs.length c,.int .i64 at_,.int .i64 tr,.bool bent])∧
   w'.ownsRow w.heap.size 5 1 (.slice (some ⟨g,0,none⟩) bs.length c) bs.length (bs.map (Value.int .u8))∧w.heap.size≤g∧Below w.heap.size w w':=by
 have hB:Below w.heap.size w w:=Below.refl _ _
 have HC:=Lib.hid hc
 clear hc
 go_enter Tryz.func93,Tryz.ntmps93
 go_wp2_with fail
 refine(qtj x cap bs _ hm ?_).mono ?_
 ·intro j hj
  have h:=HC.out j hj
  exact qdf (qdf h)
 ·rintro e w1 ⟨g,c,rfl,ho,hg,hb⟩
  have hz:=hb.size
  simp at hz hg
  have hB':Below w.heap.size w w1:=Below.trans (by repeat (first|with_reducible exact hB|with_reducible exact Below.refl _ _|with_reducible apply Below.drew|with_reducible apply qb3|with_reducible refine Below.alloc ?_ (by first|(simp;done)|(simp;omega)|omega) _|with_reducible refine Below.setCell ?_ (by first|(simp;done)|(simp;omega)|omega) _)) (hb.mono (by first|(simp;done)|(simp;omega)|omega))
  have hB:=hB'
  clear hB'
  have k0:w1.cell? ⟨w.heap.size,0,none⟩=some (.int .i64 to):=(hb.cell (by first|(simp;done)|(simp;omega)|omega)).trans (by go_simp)
  have k1:w1.cell? ⟨w.heap.size,1,none⟩=some (.slice (some x) bs.length cap):=(hb.cell (by first|(simp;done)|(simp;omega)|omega)).trans (by go_simp)
  have k2:w1.cell? ⟨w.heap.size,2,none⟩=some (.int .i64 at_):=(hb.cell (by first|(simp;done)|(simp;omega)|omega)).trans (by go_simp)
  have k3:w1.cell? ⟨w.heap.size,3,none⟩=some (.int .i64 tr):=(hb.cell (by first|(simp;done)|(simp;omega)|omega)).trans (by go_simp)
  have k4:w1.cell? ⟨w.heap.size,4,none⟩=some (.bool bent):=(hb.cell (by first|(simp;done)|(simp;omega)|omega)).trans (by go_simp)
  have k5:w1.cell? ⟨w.heap.size+1,0,none⟩=some (.int .i64 0):=(hb.cell (by first|(simp;done)|(simp;omega)|omega)).trans (by go_simp)
  have k6:w1.cell? ⟨w.heap.size+1,1,none⟩=some (.slice none 0 0):=(hb.cell (by first|(simp;done)|(simp;omega)|omega)).trans (by go_simp)
  have k7:w1.cell? ⟨w.heap.size+1,2,none⟩=some (.int .i64 0):=(hb.cell (by first|(simp;done)|(simp;omega)|omega)).trans (by go_simp)
  have k8:w1.cell? ⟨w.heap.size+1,3,none⟩=some (.int .i64 0):=(hb.cell (by first|(simp;done)|(simp;omega)|omega)).trans (by go_simp)
  have k9:w1.cell? ⟨w.heap.size+1,4,none⟩=some (.bool false):=(hb.cell (by first|(simp;done)|(simp;omega)|omega)).trans (by go_simp)
  have f0:w1.frozen? ⟨w.heap.size,0,none⟩=false:=(hb.frozen (by first|(simp;done)|(simp;omega)|omega)).trans (by go_simp)
  have f1:w1.frozen? ⟨w.heap.size,1,none⟩=false:=(hb.frozen (by first|(simp;done)|(simp;omega)|omega)).trans (by go_simp)
  have f2:w1.frozen? ⟨w.heap.size,2,none⟩=false:=(hb.frozen (by first|(simp;done)|(simp;omega)|omega)).trans (by go_simp)
  have f3:w1.frozen? ⟨w.heap.size,3,none⟩=false:=(hb.frozen (by first|(simp;done)|(simp;omega)|omega)).trans (by go_simp)
  have f4:w1.frozen? ⟨w.heap.size,4,none⟩=false:=(hb.frozen (by first|(simp;done)|(simp;omega)|omega)).trans (by go_simp)
  have f5:w1.frozen? ⟨w.heap.size+1,0,none⟩=false:=(hb.frozen (by first|(simp;done)|(simp;omega)|omega)).trans (by go_simp)
  have f6:w1.frozen? ⟨w.heap.size+1,1,none⟩=false:=(hb.frozen (by first|(simp;done)|(simp;omega)|omega)).trans (by go_simp)
  have f7:w1.frozen? ⟨w.heap.size+1,2,none⟩=false:=(hb.frozen (by first|(simp;done)|(simp;omega)|omega)).trans (by go_simp)
  have f8:w1.frozen? ⟨w.heap.size+1,3,none⟩=false:=(hb.frozen (by first|(simp;done)|(simp;omega)|omega)).trans (by go_simp)
  have f9:w1.frozen? ⟨w.heap.size+1,4,none⟩=false:=(hb.frozen (by first|(simp;done)|(simp;omega)|omega)).trans (by go_simp)
  simp at ho
  have HO:=Lib.hid ho
  clear hb ho
  go_wp2_with fail
  refine bodyPost_ret (v:=.agg #[.int .i64 to,.slice (some ⟨g,0,none⟩) bs.length c,.int .i64 at_,.int .i64 tr,.bool bent]) (by simp[results,Tryz.results93,go_sem,k5,k6,k7,k8,k9]) rfl ?_
  refine⟨g,c,rfl,?_,by omega,(by repeat (first|with_reducible exact hB|with_reducible exact Below.refl _ _|with_reducible apply Below.drew|with_reducible apply qb3|with_reducible refine Below.alloc ?_ (by first|(simp;done)|(simp;omega)|omega) _|with_reducible refine Below.setCell ?_ (by first|(simp;done)|(simp;omega)|omega) _))⟩
  refine qmq (base:=w.heap.size+1+1) ?_ (by omega)
  repeat (first|with_reducible exact HO.out|with_reducible refine ownsRow_setCell_below ?_ (by first|(simp;done)|(simp;omega)|omega) _)
end Go.Proofs.YtdljelmbjdjpjaaGreat


namespace Go.Proofs.YtdljelmbjdjpjaaGreat.Sx
open Go Go.RowKit
structure Sl where
 b:Nat
 o:Nat
 n:Nat
 c:Nat
 sp:Option Nat
def uR:Option Sl→Value
 | none=>.slice none 0 0
 | some s=>.slice (some ⟨s.b,s.o,s.sp⟩) s.n s.c
abbrev uV (u:Option Sl):Value:=.iface 99999999 (uR u)
theorem uR_sl (u:Option Sl):∃ a l c,uR u=.slice a l c:=by cases u with
 | none=>exact⟨_,_,_,rfl⟩
 | some s=>exact⟨_,_,_,rfl⟩
theorem qkr (u:Option Sl) (ρ:Nat→Nat×Nat):den0 ρ (uV u)=uR u:=by
 obtain⟨a,l,c,e⟩:=uR_sl u
 rw[uV,e];rfl
theorem qtk (u:Option Sl) (ρ:Nat→Nat×Nat):den1 ρ (uV u)=uR u:=qkr u ρ
theorem qfm (u:Option Sl) (ρ:Nat→Nat×Nat):den ρ (uV u)=uR u:=qkr u ρ
theorem q3w (u:Option Sl):(uV u).oneCell'=true:=rfl
theorem qtl (u:Option Sl) {ix:List (Nat×Nat)}:Re1 ix (uV u) (uV u):=.quo
def uN:Option Sl→Nat
 | none=>0
 | some s=>s.n
structure By where
 b:Nat
 c:Nat
 bs:List Int
abbrev By.s (e:By):Option Sl:=some ⟨e.b,0,e.bs.length,e.c,none⟩
def BsIn (w:World) (u:Option Sl) (bs:List Int):Prop:=bs.length=uN u∧∀ s,u=some s→(s.sp=none∨s.n=0)∧∀ j,j<bs.length→w.cell? ⟨s.b,s.o+j,none⟩=some (.int .u8 (bs.getD j 0))
structure ByAt (w:World) (e:By):Prop where
 lt:e.b<w.heap.size
 cell:∀ j,j<e.bs.length→w.cell? ⟨e.b,j,none⟩=some (.int .u8 (e.bs.getD j 0))
 own:∀ j,j<e.bs.length→w.frozen? ⟨e.b,j,none⟩=false
theorem qe9 {w w':World} {b o:Nat} (h:w'.heap[b]?=w.heap[b]?):w'.cell? ⟨b,o,none⟩=w.cell? ⟨b,o,none⟩:=by
 simp only[World.cell?,h]
theorem qra {w w':World} {b o:Nat} (h:w'.heap[b]?=w.heap[b]?):w'.frozen? ⟨b,o,none⟩=w.frozen? ⟨b,o,none⟩:=by
 simp only[World.frozen?,h]
theorem qks {w w':World} {b:Nat} (hl:b<w.heap.size) (h:w'.heap[b]?=w.heap[b]?):b<w'.heap.size:=by
 have:w.heap[b]?=some (w.heap[b]'hl):=Array.getElem?_eq_getElem hl
 rw[this] at h
 exact(Array.getElem?_eq_some_iff.1 h).1
theorem qtm {w:World} {b o:Nat} {v:Value} (h:w.cell? ⟨b,o,none⟩=some v):b<w.heap.size:=World.block_lt_of_cell? _ _ h
theorem ByAt.keep {w w':World} {e:By} (h:ByAt w e) (hb:w'.heap[e.b]?=w.heap[e.b]?):ByAt w' e:=
 ⟨qks h.lt hb,fun j hj=>(qe9 hb).trans (h.cell j hj),fun j hj=>(qra hb).trans (h.own j hj)⟩
structure MemOK (W:World) (F:List By) (p:Nat×Nat) (S:Nat→Prop) (w:World):Prop where
 at_:0<W.heap.size→p.1<W.heap.size
 dom:∀ b,S b↔b<W.heap.size∨∃ e∈F,e.b=b
 size:W.heap.size≤w.heap.size
 old:∀ b,b<W.heap.size→w.heap[b]?=W.heap[b]?
 nodup:(F.map By.b).Nodup
 cell:∀ e∈F,W.heap.size≤e.b∧ByAt w e
abbrev memX (W:World) (F:List By):Ext where
 inv:=fun p S w=>MemOK W F p S w
 keep:=fun {p S w w'} h hb=>⟨h.at_,h.dom,by
   rcases Nat.eq_zero_or_pos W.heap.size with h0|h0
   ·omega
   have h1:=h.at_ h0
   have h2:=hb (W.heap.size-1) ((h.dom _).2 (.inl (by omega)))
   have h3:=qks (b:=W.heap.size-1) (w:=w) (by have:=h.size;omega) h2
   omega,fun b hl=>(hb b ((h.dom b).2 (.inl hl))).trans (h.old b hl),h.nodup,fun e he=>⟨(h.cell e he).1,(h.cell e he).2.keep (hb _ ((h.dom _).2 (.inr ⟨e,he,rfl⟩)))⟩⟩
abbrev memC (W:World) (F:List By):Chunk:=@Chunk.mk (memX W F) true 0 []
inductive Src (W:World) (F:List By):Option Sl→List Int→Prop
 | nil:Src W F none []
 | own {e:By} (he:e∈F):Src W F e.s e.bs
 | old {s:Sl} {bs:List Int} (hn:bs.length=s.n) (hs:s.sp=none∨s.n=0) (hc:∀ j,j<bs.length→W.cell? ⟨s.b,s.o+j,none⟩=some (.int .u8 (bs.getD j 0))):Src W F (some s) bs
theorem MemOK.src {W:World} {F:List By} {p:Nat×Nat} {S:Nat→Prop} {w:World} (M:MemOK W F p S w) {u:Option Sl} {bs:List Int} (h:Src W F u bs):BsIn w u bs:=by
 cases h with
 | nil=>exact⟨rfl,fun s hs=>by cases hs⟩
 | own he=>
  refine⟨rfl,fun s hs=>⟨?_,fun j hj=>?_⟩⟩
  ·cases hs;exact .inl rfl
  cases hs
  show w.cell? ⟨_,0+j,none⟩=_
  rw[Nat.zero_add]
  exact(M.cell _ he).2.cell j hj
 | old hn hsp hc=>
  refine⟨hn,fun s hs=>⟨?_,fun j hj=>?_⟩⟩
  ·cases hs;exact hsp
  cases hs
  have h1:=hc j hj
  rw[←h1]
  exact qe9 (M.old _ (qtm h1))
theorem Src.more {W:World} {F F':List By} (hF:∀ e∈F,e∈F') {u:Option Sl} {bs:List Int} (h:Src W F u bs):Src W F' u bs:=by
 cases h with
 | nil=>exact .nil
 | own he=>exact .own (hF _ he)
 | old hn hsp hc=>exact .old hn hsp hc
inductive Made (F:List By) (bs:List Int):Option Sl→List By→Prop
 | nil:bs=[]→Made F bs none F
 | new {b c:Nat} (hb:b∉F.map By.b):Made F bs (By.mk b c bs).s (⟨b,c,bs⟩::F)
theorem Made.src {W:World} {F F':List By} {bs:List Int} {u:Option Sl} (h:Made F bs u F'):Src W F' u bs:=by
 cases h with
 | nil h=>subst h;exact .nil
 | new hb=>exact .own (List.mem_cons_self ..)
theorem Made.sub {F F':List By} {bs:List Int} {u:Option Sl} (h:Made F bs u F'):∀ e∈F,e∈F':=by
 cases h with
 | nil h=>exact fun e he=>he
 | new hb=>exact fun e he=>List.mem_cons_of_mem _ he
section
variable {X:Ctx} {ρ:Nat→Nat×Nat} {h:Hp} {w w':World}
theorem qpq {i:Nat} {W:World} {F:List By} {e:By} (H:HOK X ρ h w) (hi:h[i]?=some (some (memC W F))) (hB:Below w.heap.size w w') (he:ByAt w' e) (hge:w.heap.size≤e.b):e.b∉F.map By.b∧HOK X ρ (h.set i (some (memC W (e::F)))) w':=by
 obtain⟨S,E⟩:=H.ext
 have M:MemOK W F (ρ i) (S i) w:=E.inv i _ hi
 have hno:e.b∉F.map By.b:=fun hm=>by
  obtain⟨x,hx,hxb⟩:=List.mem_map.1 hm
  have:=(M.cell x hx).2.lt
  omega
 refine⟨hno,H.turnX E hi (d:=memC W (e::F)) (S':=fun b=>S i b∨b=e.b) id (nlr _) (nzj) hB.os hB.tape hB.output hB.size (fun b hb _=>hB.block b hb) (fun b hb=>?_) ?_⟩
 ·rcases hb with hb|rfl
  ·exact⟨Nat.lt_of_lt_of_le (E.mine i _ b hi hb).2.1 hB.size,.inl rfl,.inl hb⟩
  ·exact⟨he.lt,.inl rfl,.inr hge⟩
 ·refine⟨M.at_,fun b=>⟨fun hb=>?_,fun hb=>?_⟩,Nat.le_trans M.size hB.size,fun b hb=>(hB.block b (Nat.lt_of_lt_of_le hb M.size)).trans (M.old b hb),?_,fun x hx=>?_⟩
  ·rcases hb with hb|rfl
   ·rcases(M.dom b).1 hb with hb|⟨x,hx,hxb⟩
    ·exact .inl hb
    ·exact .inr ⟨x,List.mem_cons_of_mem _ hx,hxb⟩
   ·exact .inr ⟨e,List.mem_cons_self ..,rfl⟩
  ·rcases hb with hb|⟨x,hx,rfl⟩
   ·exact .inl ((M.dom b).2 (.inl hb))
   ·rcases List.mem_cons.1 hx with rfl|hx
    ·exact .inr rfl
    ·exact .inl ((M.dom _).2 (.inr ⟨x,hx,rfl⟩))
  ·rw[List.map_cons,List.nodup_cons];exact⟨hno,M.nodup⟩
  ·rcases List.mem_cons.1 hx with rfl|hx
   ·exact⟨Nat.le_trans M.size hge,he⟩
   ·exact⟨(M.cell x hx).1,(M.cell x hx).2.keep (hB.block _ (M.cell x hx).2.lt)⟩
end
def setB (F:List By) (b j:Nat) (v:Int):List By:=F.map fun e=>if e.b=b then ⟨e.b,e.c,e.bs.set j v⟩ else e
theorem qz9 (F:List By) (b j:Nat) (v:Int):(setB F b j v).map By.b=F.map By.b:=by
 unfold setB
 rw[List.map_map]
 refine List.map_congr_left fun e _=>?_
 show(if e.b=b then (⟨e.b,e.c,e.bs.set j v⟩:By) else e).b=e.b
 split<;>rfl
theorem qjs {F:List By} {b j:Nat} {v:Int} {e:By} (he:e∈F) (hb:e.b≠b):e∈setB F b j v:=List.mem_map.2 ⟨e,he,if_neg hb⟩
theorem qmr {F:List By} {j:Nat} {v:Int} {e:By} (he:e∈F):(⟨e.b,e.c,e.bs.set j v⟩:By)∈setB F e.b j v:=List.mem_map.2 ⟨e,he,if_pos rfl⟩
theorem qw5 {F:List By} (h:(F.map By.b).Nodup) {x y:By} (hx:x∈F) (hy:y∈F) (e:x.b=y.b):x=y:=by
 induction F with
 | nil=>cases hx
 | cons a r ih=>
  rw[List.map_cons,List.nodup_cons] at h
  rcases List.mem_cons.1 hx with h1|hx<;>rcases List.mem_cons.1 hy with h2|hy
  ·rw[h1,h2]
  ·rw[h1] at e;exact absurd (List.mem_map.2 ⟨y,hy,e.symm⟩) h.1
  ·rw[h2] at e;exact absurd (List.mem_map.2 ⟨x,hx,e⟩) h.1
  ·exact ih h.2 hx hy
section
variable {X:Ctx} {ρ:Nat→Nat×Nat} {h:Hp} {w:World}
theorem qtn {i j:Nat} {W:World} {F:List By} {e:By} {v:Int} (H:HOK X ρ h w) (hi:h[i]?=some (some (memC W F))) (he:e∈F) (hj:j<e.bs.length):w.frozen? ⟨e.b,j,none⟩=false∧(∃ x,w.cell? ⟨e.b,j,none⟩=some x)∧HOK X ρ (h.set i (some (memC W (setB F e.b j v)))) (w.setCell ⟨e.b,j,none⟩ (.int .u8 v)):=by
 obtain⟨S,E⟩:=H.ext
 have M:MemOK W F (ρ i) (S i) w:=E.inv i _ hi
 obtain⟨hge,hat⟩:=M.cell e he
 have hsz:(w.setCell ⟨e.b,j,none⟩ (.int .u8 v)).heap.size=w.heap.size:=by simp[World.setCell]
 have hbl:∀ b,b≠e.b→(w.setCell ⟨e.b,j,none⟩ (.int .u8 v)).heap[b]?=w.heap[b]?:=fun b hb=>Below.heap_setCell w _ _ b hb
 refine⟨hat.own j hj,⟨_,hat.cell j hj⟩,H.turnX E hi (d:=memC W (setB F e.b j v)) (S':=S i) id (nlr _) (nzj) rfl rfl rfl (Nat.le_of_eq hsz.symm) (fun b hb hS=>hbl b fun eb=>hS ((M.dom b).2 (.inr ⟨e,he,eb.symm⟩))) (fun b hb=>?_) ?_⟩
 ·exact⟨by rw[hsz];exact(E.mine i _ b hi hb).2.1,.inl rfl,.inl hb⟩
 ·refine⟨M.at_,fun b=>(M.dom b).trans ⟨fun hb=>?_,fun hb=>?_⟩,by rw[hsz];exact M.size,fun b hb=>(hbl b (by omega)).trans (M.old b hb),by rw[qz9];exact M.nodup,fun x hx=>?_⟩
  ·rcases hb with hb|⟨x,hx,rfl⟩
   ·exact .inl hb
   ·by_cases ex:x.b=e.b
    ·exact .inr ⟨_,qmr (j:=j) (v:=v) he,ex.symm⟩
    ·exact .inr ⟨x,qjs hx ex,rfl⟩
  ·rcases hb with hb|⟨x,hx,rfl⟩
   ·exact .inl hb
   ·have:x.b∈F.map By.b:=by rw[←qz9 F e.b j v];exact List.mem_map.2 ⟨x,hx,rfl⟩
    obtain⟨y,hy,hyb⟩:=List.mem_map.1 this
    exact .inr ⟨y,hy,hyb⟩
  ·obtain⟨y,hy,rfl⟩:=List.mem_map.1 hx
   by_cases ey:y.b=e.b
   ·obtain rfl:=qw5 M.nodup hy he ey
    rw[if_pos rfl]
    refine⟨hge,by rw[hsz];exact hat.lt,fun k hk=>?_,fun k hk=>?_⟩
    ·have hk:k<y.bs.length:=by simpa using hk
     by_cases ek:k=j
     ·subst ek
      rw[World.cell?_setCell_same w _ _ (hat.cell k hj)]
      show some (Value.int .u8 v)=some (.int .u8 ((y.bs.set k v).getD k 0))
      rw[List.getD_eq_getElem?_getD,List.getElem?_set_self hj];rfl
     ·rw[World.cell?_setCell_other w _ _ _ (by intro e';simp only[Addr.mk.injEq] at e';omega),hat.cell k hk]
      show some (Value.int .u8 (y.bs.getD k 0))=some (.int .u8 ((y.bs.set j v).getD k 0))
      rw[List.getD_eq_getElem?_getD,List.getD_eq_getElem?_getD,List.getElem?_set_ne (fun h=>ek h.symm)]
    ·have hk:k<y.bs.length:=by simpa using hk
     rw[World.frozen?_setCell];exact hat.own k hk
   ·rw[if_neg ey]
    exact⟨(M.cell y hy).1,(M.cell y hy).2.keep (hbl _ ey)⟩
end
section
variable {P:Program} {G:Tys} {o:Oper} {st:St}
theorem qgz {X:Ctx} {ρ:Nat→Nat×Nat} {st:St} {a:Act} {w:World} {x:Operand} {v:Value} (h:EvTo x st v) (hp:qam v=true) (R:Rel X ρ st a w):a.eval x=v:=by
 rw[←(h.den R).self,qa0 hp]
theorem N.op {slot:Nat} {K:Value→List (Nat×Chunk)→List Nat→Prop} {v:Value} {ms:List (Nat×Chunk)} {rh:List Nat} (h:OKs P o st v ms rh) (k:K v ms rh):N (OpN P o st slot K):=N.mk ⟨v,ms,rh,h,k⟩
theorem qec {t:TypeId} {x y:Operand} {b f l c sz g:Nat} {a:Int} {k:IntKind} {v:Value} (hG:TysOK P G) (ho:o.op=.indexAddr t x y) (hx:EvTo x st v) (hxv:∀ ρ,den ρ v=.slice (some ⟨b,f,none⟩) l c) (hy:EvTo y st (.int k a))
  (ht:lookT G t fun _ d=>match d with|.slice e=>lookT G e fun ei _=>ei.size=sz|_=>False) (h0:0≤a) (hn:a<l) (hg:f+a.toNat*sz=g):OKs P o st (.pointer (some ⟨b,g,none⟩)) [] []:=fun st₂ hs _ _=>
 qav fun X ρ act w R=>by
  subst hg
  have hx':act.eval x=.slice (some ⟨b,f,none⟩) l c:=by rw[←((hs x (by simp[ho,Op.operands]) _ hx).den R).self,hxv]
  have hy':=qgz (hs y (by simp[ho,Op.operands]) _ hy) rfl R
  obtain⟨i,d,_,h1,hd⟩:=qal hG ht
  split at hd
  ·obtain⟨ei,ed,h2,_,rfl⟩:=qal hG hd
   refine⟨_,?_,Den.plain rfl⟩
   simp only[execOp,ho,hx',hy',Instr.indexAt,asIntOf,underlying,Sem.run_bind,run_program,Result.andThen_ok,h1,Sem.run_pure,h0,hn,and_self,if_true,run_sizeOf h2,qb4,Nat.add_assoc]
  ·exact hd.elim
def Known (W:World) (F:List By) (b f:Nat) (v:Value):Prop:=∀ p S w,MemOK W F p S w→w.cell? ⟨b,f,none⟩=some v
theorem qto {W:World} {F:List By} {b f:Nat} {v:Value} (h:W.cell? ⟨b,f,none⟩=some v):Known W F b f v:=fun p S w M=>by
 rw[←h];exact qe9 (M.old _ (qtm h))
theorem qtp {W:World} {F:List By} {s:Sl} {bs:List Int} (h:Src W F (some s) bs) {j f:Nat} (hj:j<bs.length) (hf:f=s.o+j):Known W F s.b f (.int .u8 (bs.getD j 0)):=fun p S w M=>by
 subst hf;exact((M.src h).2 s rfl).2 j hj
theorem qw6 {t:TypeId} {x:Operand} {b f i:Nat} {W:World} {F:List By} {v:Value} (hG:TysOK P G) (ho:o.op=.load t x) (hx:EvTo x st (.pointer (some ⟨b,f,none⟩))) (hi:st.h[i]?=some (some (memC W F)))
  (ht:lookT G t fun _ d=>qcq d=false) (hp:qa3 v=true) (hk:Known W F b f v):OKs P o st v [] [i]:=fun st₂ hs hh _=>
 qav fun X ρ a w R=>by
  have hi2:st₂.h[i]?=some (some (memC W F)):=(hh i (by simp)).trans hi
  have hx':=qgz (hs x (by simp[ho,Op.operands]) _ hx) rfl R
  obtain⟨ti,d,_,h2,hd⟩:=qal hG ht
  obtain⟨S,E⟩:=R.heap.ext
  have hy:=hk _ _ _ (E.inv i _ hi2)
  refine⟨v,?_,fun r _=>?_⟩
  ·simp only[execOp,ho,hx',Instr.loadAt,Instr.sureAddr,loadVar,Sem.run_bind,Sem.run_pure,Result.andThen_ok,qb9 h2,hd,Bool.false_eq_true,if_false,run_load,hy]
  ·cases v<;>first|exact qa0 (by exact hp) r|(simp[qa3] at hp)
theorem qtq {t:TypeId} {x y:Operand} {i j:Nat} {W:World} {F:List By} {e:By} {v:Int} (hG:TysOK P G) (ho:o.op=.store t x y) (hx:EvTo x st (.pointer (some ⟨e.b,j,none⟩))) (hy:EvTo y st (.int .u8 v)) (hi:st.h[i]?=some (some (memC W F)))
  (ht:lookT G t fun ti _=>ti.size=1) (he:e∈F) (hj:j<e.bs.length):OKs P o st undef [(i,memC W (setB F e.b j v))] []:=fun st₂ hs _ hh=>
 qhn fun X ρ a w R=>by
  have hi2:st₂.h[i]?=some (some (memC W F)):=(hh _ (List.mem_singleton.2 rfl)).trans hi
  have hx':=qgz (hs x (by simp[ho,Op.operands]) _ hx) rfl R
  have hy':=qgz (hs y (by simp[ho,Op.operands]) _ hy) rfl R
  obtain⟨ti,d,h1,h2,hsz⟩:=qal hG ht
  obtain⟨hfr,⟨z,hz⟩,H'⟩:=qtn (v:=v) R.heap hi2 he hj
  refine⟨ρ,_,?_,AgreeOn.refl _ _,H'⟩
  have hst:(store ⟨e.b,j,none⟩ (.int .u8 v)).run P w=.ok () (w.setCell ⟨e.b,j,none⟩ (.int .u8 v)):=by
   rw[run_store P w _ _ _ rfl];simp[hz,hfr]
  have hadd:(⟨e.b,j,none⟩:Addr).add 0=⟨e.b,j,none⟩:=by rw[qb4,Nat.add_zero]
  simp only[execOp,ho,hx',hy',Instr.storeAt,Instr.sureAddr,storeVar,Sem.run_bind,Sem.run_pure,Result.andThen_ok,run_sizeOf h1,hsz]
  simp[Value.cells,storeCells,hadd,hst,Sem.run_bind,Sem.run_pure]
theorem qed {x:Operand} {ts:Array TypeId} {u:Option Sl} (ho:o.op=.call ⟨.builtin .len,⟨[x]⟩,ts⟩) (hx:EvTo x st (uV u)) (ht:∃ t,ts = #[t]∧∃ e,P.underlying t=some (.slice e)):OKs P o st (.int .i64 (uN u:Nat)) [] []:=fun st₂ hs2 hh _=>
 qav fun X ρ a w R=>by
  have hx':a.eval x=uR u:=by rw[←((hs2 x (by simp[ho,Op.operands,Call.operands]) _ hx).den R).self,qfm]
  obtain⟨t,rfl,e,he⟩:=ht
  refine⟨.int .i64 (uN u:Nat),?_,Den.plain rfl⟩
  cases u with
  | none=>
   simp[execOp,ho,resolve,invoke,builtin,hx',uR,uN,Builtin.len_,Sem.run_bind,Sem.run_pure,Result.andThen_ok,run_underlying he,Builtin.lenOf]
   rfl
  | some s=>
   simp[execOp,ho,resolve,invoke,builtin,hx',uR,uN,Builtin.len_,Sem.run_bind,Sem.run_pure,Result.andThen_ok,run_underlying he,Builtin.lenOf]
   rfl
end
structure Rw where
 w:Bool
 e:TypeId
 k:Nat
 b:Nat
 o:Nat
 c:Nat
 n:Nat
 xs:List Value
abbrev Rw.sl (r:Rw):Sl:=⟨r.b,r.o,r.n,r.c,none⟩
structure RwAt (w:World) (r:Rw):Prop where
 lt:r.b<w.heap.size
 len:r.xs.length=r.n*r.k
 cap:r.n≤r.c
 cell:∀ j,j<r.xs.length→w.cell? ⟨r.b,r.o+j,none⟩=r.xs[j]?
 own:r.w=true→r.o=0∧∃ cur z,w.heap[r.b]?=some (.cells cur r.e z)∧(z.1=z.2∨cur.size≤z.1)∧cur.size=r.c*r.k
theorem RwAt.keep {w w':World} {r:Rw} (h:RwAt w r) (hb:w'.heap[r.b]?=w.heap[r.b]?):RwAt w' r:=
 ⟨qks h.lt hb,h.len,h.cap,fun j hj=>(qe9 hb).trans (h.cell j hj),fun hw=>⟨(h.own hw).1,by rw[hb];exact(h.own hw).2⟩⟩
theorem RwAt.row {w:World} {e:TypeId} {k b n c:Nat} {xs:List Value} {cur:Array Value} {z:Nat×Nat} (hh:w.heap[b]?=some (.cells cur e z)) (hz:z.1=z.2∨cur.size≤z.1) (hs:cur.size=c*k) (hx:cur.toList.take (n*k)=xs) (hl:xs.length=n*k) (hn:n≤c):RwAt w ⟨true,e,k,b,0,c,n,xs⟩:=by
 have hc:∀ j,w.cell? ⟨b,j,none⟩=cur[j]?:=fun j=>by simp[World.cell?,hh]
 refine⟨(Array.getElem?_eq_some_iff.1 hh).1,hl,hn,fun j hj=>?_,fun _=>⟨rfl,cur,z,hh,hz,hs⟩⟩
 have hj:j<xs.length:=hj
 show w.cell? ⟨b,0+j,none⟩=xs[j]?
 rw[Nat.zero_add,hc,←hx,List.getElem?_take,if_pos (by omega),Array.getElem?_toList]
theorem qpr {w:World} {b:Nat} {cur:Array Value} {e:TypeId} {z:Nat×Nat} (hh:w.heap[b]?=some (.cells cur e z)) (hz:z.1=z.2∨cur.size≤z.1) (j:Nat) (hj:j<cur.size):(w.cell? ⟨b,j,none⟩).isSome=true∧w.frozen? ⟨b,j,none⟩=false:=by
 refine⟨by simp[World.cell?,hh,hj],?_⟩
 simp only[World.frozen?,hh,Bool.and_eq_false_iff,decide_eq_false_iff_not]
 omega
theorem qhe (b:Nat):∀ (vs:List Value) (o:Nat) (w:World) (cur:Array Value) (e:TypeId) (z:Nat×Nat),w.heap[b]?=some (.cells cur e z)→∃ cur',(w.setCells b o vs).heap[b]?=some (.cells cur' e z)∧cur'.size=cur.size
 | [],_,_,cur,_,_,h=>⟨cur,h,rfl⟩
 | v::r,o,w,cur,e,z,h=>by
  have h1:(w.setCell ⟨b,o,none⟩ v).heap[b]?=some (.cells (cur.setIfInBounds o v) e z):=by
   have:=setCell_eq_setRow w b o cur e z v h
   rw[this]
   exact setRow_heap w b cur _ e z h
  obtain⟨cur',h2,h3⟩:=qhe b r (o+1) _ _ e z h1
  exact⟨cur',h2,by rw[h3,Array.size_setIfInBounds]⟩
theorem RwAt.of {w:World} {e:TypeId} {k b n c:Nat} {xs:List Value} (h:w.ownsRow 0 e k (.slice (some ⟨b,0,none⟩) n c) n xs):RwAt w ⟨true,e,k,b,0,c,n,xs⟩:=by
 rcases h.2 with ⟨h1,_⟩|⟨g,cap,cur,h1,h2,h3,h4,h5,h6,h7⟩
 ·cases h1
 ·have e1:b=g∧c=cap:=by injection h1 with h1 h8 h9;injection h1 with h1;injection h1 with h1;exact⟨h1,h9⟩
  obtain⟨rfl,rfl⟩:=e1
  exact .row h3 (.inl rfl) h6 h7 h.1 h4
theorem qf9 (b:Nat):∀ (vs:List Value) (o:Nat) (w:World),(w.setCells b o vs).os=w.os∧(w.setCells b o vs).tape=w.tape∧(w.setCells b o vs).output=w.output∧(w.setCells b o vs).heap.size=w.heap.size∧∀ k,k≠b→(w.setCells b o vs).heap[k]?=w.heap[k]?
 | [],_,_=>⟨rfl,rfl,rfl,rfl,fun _ _=>rfl⟩
 | v::r,o,w=>by
  obtain⟨h1,h2,h3,h4,h5⟩:=qf9 b r (o+1) (w.setCell ⟨b,o,none⟩ v)
  refine⟨h1,h2,h3,h4.trans (World.size_setCell ..),fun k hk=>(h5 k hk).trans (heap_setCell_other w ⟨b,o,none⟩ k v hk)⟩
class ZW where
 z:Option World
structure RvOK [ZW] (R:List Rw) (p:Nat×Nat) (S:Nat→Prop) (w:World):Prop where
 nodup:(R.map Rw.b).Nodup
 at_:∀ r∈R,S r.b∧RwAt w r∧∀ W,ZW.z=some W→W.heap.size≤r.b
 base:∀ W,ZW.z=some W→p.1<W.heap.size∧W.heap.size≤w.heap.size∧∀ b,b<W.heap.size→S b∧w.heap[b]?=W.heap[b]?
abbrev rvX [ZW] (R:List Rw):Ext where
 inv:=fun p S w=>RvOK R p S w
 keep:=fun {p S w w'} h hb=>⟨h.nodup,fun r hr=>⟨(h.at_ r hr).1,(h.at_ r hr).2.1.keep (hb _ (h.at_ r hr).1),(h.at_ r hr).2.2⟩,fun W hW=>by
  obtain⟨h1,h2,h3⟩:=h.base W hW
  refine⟨h1,?_,fun b hb'=>⟨(h3 b hb').1,(hb b (h3 b hb').1).trans (h3 b hb').2⟩⟩
  have h4:=qks (b:=W.heap.size-1) (w:=w) (w':=w') (by omega) (hb _ (h3 (W.heap.size-1) (by omega)).1)
  omega⟩
abbrev rvC [ZW] (R:List Rw):Chunk:=@Chunk.mk (rvX R) true 0 []
def rowO:Option Rw→Option Sl
 | none=>none
 | some r=>some r.sl
def rowL:Option Rw→List Rw→List Rw
 | none,R=>R
 | some r,R=>r::R
def rowN:Option Rw→Nat
 | none=>0
 | some r=>r.n
def rowXs:Option Rw→List Value
 | none=>[]
 | some r=>r.xs
theorem qps (o:Option Rw) (R:List Rw):∀ r∈R,r∈rowL o R:=fun r hr=>by
 cases o with
 | none=>exact hr
 | some q=>exact List.mem_cons_of_mem _ hr
theorem qfq (r:Rw) (R:List Rw):r∈rowL (some r) R:=List.mem_cons_self ..
structure Grew (o o':Option Rw) (e:TypeId) (k m:Nat) (news:List Value):Prop where
 n:rowN o'=rowN o+m
 xs:rowXs o'=rowXs o++news
 ty:∀ r,o'=some r→r.e=e∧r.k=k∧r.w=true
 nil:o'=none↔o=none∧m=0
 cap:∀ r,o'=some r→r.n≤r.c
def SrcR (w:World) (v:Value) (m k:Nat) (news:List Value):Prop:=
 (v=.slice none 0 0∧m=0∧news=[])∨∃ a c,v=.slice (some a) m c∧news.length=m*k∧∀ j u,news[j]?=some u→w.cell? (a.add j)=some u
theorem q1i {w:World} {e:TypeId} {size n m cap:Nat} {z:Value} {olds news:List Value} (ho:olds.length=n*size) (hn:news.length=m*size) (hz:z.cells.size=size) (hge:n+m≤cap) (hcm:cap≤maxLen) :
  (w.drew.alloc (.cells (olds.toArray++news.toArray++Builtin.zeroCells z.cells (cap-(n+m))) e)).ownsRow 0 e size (.slice (some ⟨w.heap.size,0,none⟩) (n+m) cap) (n+m) (olds++news):=by
 have hlen:(olds++news).length=(n+m)*size:=by rw[List.length_append,ho,hn,Nat.add_mul]
 refine⟨hlen,.inr ⟨w.heap.size,_,_,rfl,Nat.zero_le _,heap_alloc_new w.drew _,hge,hcm,?_,?_⟩⟩
 ·simp only[Array.size_append,List.size_toArray,size_zeroCells,hz,ho,hn,←Nat.add_mul]
  congr 1
  omega
 ·simp only[Array.toList_append,List.append_assoc]
  rw[←List.append_assoc,←hlen]
  exact List.take_left
section
variable {P:Program} {G:Tys} {o:Oper} {st:St}
theorem qw7 [ZW] {x y:Operand} {t e:TypeId} {ei:TypeInfo} {z p:Value} {i:Nat} {own:Bool} {n:Nat} {ps:List (Nat×Nat×Value)} (oe:Option Rw) (R:List Rw) (m:Nat) (news:List Value) {K:Value→List (Nat×Chunk)→Prop}
  (ho:o.op=.call ⟨.builtin .append,#[x,y],#[t,t]⟩) (hx:EvTo x st p) (hp:∀ ρ,den ρ p=uR (rowO oe))
  (h1:P.underlying t=some (.slice e)) (h2:P.info? e=some ei) (hz:ei.zero=some z) (hzs:z.cells.size=ei.size) (hs0:0<ei.size)
  (hi:st.h[i]?=some (some (@Chunk.mk (rvX (rowL oe R)) own n ps))) (hoe:∀ r,oe=some r→r.e=e∧r.k=ei.size∧r.w=true)
  (hsrc:∀ X ρ a w,Rel X ρ st a w→SrcR w (a.eval y) m ei.size news) (hone:∀ u∈news,u.oneCell'=true)
  (h63:rowN oe+m≤35184372088831) (hb:(rowN oe+m)*ei.bytes≤140737488355328)
  (hK:∀ oe',Grew oe oe' e ei.size m news→K (uV (rowO oe')) [(i,@Chunk.mk (rvX (rowL oe' R)) own n ps)]):EffAll P o st K:=fun X ρ a w Rl next Q hn=>by
 have hx':a.eval x=uR (rowO oe):=by rw[←(hx.den Rl).self,hp]
 obtain⟨S,E⟩:=Rl.heap.ext
 have V:RvOK (rowL oe R) (ρ i) (S i) w:=E.inv i _ hi
 have hpi:=Rl.heap.lt i _ hi
 have fin:∀ oe' w',(Builtin.append_ #[t,t] o.type #[a.eval x,a.eval y]).run P w=.ok (uR (rowO oe')) w'→HOK X ρ (st.h.set i (some (@Chunk.mk (rvX (rowL oe' R)) own n ps))) w'→Grew oe oe' e ei.size m news→o.wp P a w next Q:=fun oe' w' hr H' hg=>by
  have hrun2:=qcb (P:=P) (o:=o) (x:=x) (y:=y) (t:=t) (a:=a) ho hr
  unfold Oper.wp
  rw[hrun2]
  exact hn _ _ ρ _ _ (hK oe' hg) ⟨AgreeOn.refl _ _,H',fun r _=>qfm _ r⟩
 have hcm:∀ q old,q≤35184372088831→grownCap w q old e≤maxLen:=fun q old hq=>grownCap_le_maxLen w q old e (by simp only[maxLen];omega)
 have turn:∀ oe' w',RvOK (rowL oe' R) (ρ i) (fun b=>S i b∨∃ r',oe'=some r'∧b=r'.b) w'→w'.os=w.os→w'.tape=w.tape→w'.output=w.output→w.heap.size≤w'.heap.size→(∀ b,b<w.heap.size→¬ S i b→w'.heap[b]?=w.heap[b]?)→(∀ r',oe'=some r'→S i r'.b∨w.heap.size≤r'.b)→
   HOK X ρ (st.h.set i (some (@Chunk.mk (rvX (rowL oe' R)) own n ps))) w':=fun oe' w' hv e1 e2 e3 e4 e5 e6=>by
  refine Rl.heap.turnX E hi (d:=@Chunk.mk (rvX (rowL oe' R)) own n ps) (S':=fun b=>S i b∨∃ r',oe'=some r'∧b=r'.b) id (nlr _) (fun j hj=>rfl) e1 e2 e3 e4 e5 (fun b hb=>?_) hv
  rcases hb with hb|⟨r',hr',rfl⟩
  ·obtain⟨m1,m2,m3⟩:=E.mine i _ b hi hb
   exact⟨Nat.lt_of_lt_of_le m2 e4,m1,.inl hb⟩
  ·have hlt:r'.b<w'.heap.size:=by
    subst hr'
    exact((hv.at_ r' (qfq r' R)).2.1).lt
   rcases e6 r' hr' with h|h
   ·exact⟨hlt,(E.mine i _ _ hi h).1,.inl h⟩
   ·exact⟨hlt,.inr (by omega),.inr h⟩
 by_cases hm0:m=0
 ·subst hm0
  have hnews:news=[]:=by
   rcases hsrc X ρ a w Rl with ⟨_,_,h⟩|⟨_,_,_,h,_⟩
   ·exact h
   ·exact List.length_eq_zero_iff.1 (by simpa using h)
  subst hnews
  have hset:st.h.set i (some (@Chunk.mk (rvX (rowL oe R)) own n ps))=st.h:=by
   refine List.ext_getElem? fun j=>?_
   by_cases e:i=j
   ·subst e;rw[List.getElem?_set_self (List.getElem?_eq_some_iff.1 hi).1,hi]
   ·rw[List.getElem?_set_ne e]
  have same:(Builtin.append_ #[t,t] o.type #[uR (rowO oe),a.eval y]).run P w=.ok (uR (rowO oe)) w:=by
   have hf0:=fun ad c=>run_firstCells_some (P:=P) w ei.size 0 ad 0 c [] (by simp) (by simp)
   rcases hsrc X ρ a w Rl with ⟨hv,_,_⟩|⟨ad,c,hv,_,_⟩
   ·rw[hv]
    cases oe with
    | none=>simp[rowO,uR,Builtin.append_,run_underlying h1,sizeOf,typeInfo,h2,Builtin.lenOf,run_firstCells_none]
    | some r=>
     have hc:=((V.at_ r (qfq r R)).2.1).cap
     simp[rowO,uR,Builtin.append_,run_underlying h1,sizeOf,typeInfo,h2,Builtin.lenOf,hc,run_firstCells_none,storeCells]
   ·rw[hv]
    cases oe with
    | none=>
     simp[rowO,uR,Builtin.append_,run_underlying h1,sizeOf,typeInfo,h2,Builtin.lenOf,hf0,storeCells]
    | some r=>
     have hc:=((V.at_ r (qfq r R)).2.1).cap
     simp[rowO,uR,Builtin.append_,run_underlying h1,sizeOf,typeInfo,h2,Builtin.lenOf,hc,hf0,storeCells]
  refine fin oe w (by rw[hx'];exact same) (by rw[hset];exact Rl.heap) ⟨rfl,by simp,hoe,by simp,fun r hr=>by subst hr;exact((V.at_ r (qfq r R)).2.1).cap⟩
 obtain⟨ad,c,hv,hnl,hnc⟩:∃ ad c,a.eval y=.slice (some ad) m c∧news.length=m*ei.size∧∀ j u,news[j]?=some u→w.cell? (ad.add j)=some u:=by
  rcases hsrc X ρ a w Rl with ⟨_,h,_⟩|h
  ·exact absurd h hm0
  ·exact h
 have fresh:∀ (olds:List Value) (q old:Nat),oe=none∧q=0∧olds=[]∨(∃ r,oe=some r∧q=r.n∧olds=r.xs)→old<q+m→
   (Builtin.append_ #[t,t] o.type #[uR (rowO oe),a.eval y]).run P w=.ok (.slice (some ⟨w.heap.size,0,none⟩) (q+m) (grownCap w (q+m) old e)) (w.drew.alloc (.cells (olds.toArray++news.toArray++Builtin.zeroCells z.cells (grownCap w (q+m) old e-(q+m))) e))→olds.length=q*ei.size→q=rowN oe→o.wp P a w next Q:=fun olds q old hq hold hr hol hqn=>by
  have hge:=grownCap_ge w (q+m) old e
  have hcap:=hcm (q+m) old (by omega)
  have hrow:=q1i (w:=w) (e:=e) hol hnl hzs hge hcap
  generalize hcc:grownCap w (q+m) old e=cap at hr hge hcap hrow
  have hB:Below w.heap.size w (w.drew.alloc (.cells (olds.toArray++news.toArray++Builtin.zeroCells z.cells (cap-(q+m))) e)):=((Below.refl _ _).drew).alloc (nlr _) _
  have hxs:rowXs oe=olds:=by rcases hq with ⟨rfl,_,rfl⟩|⟨r,rfl,_,rfl⟩<;>rfl
  refine fin (some ⟨true,e,ei.size,w.heap.size,0,cap,q+m,olds++news⟩) _ (by rw[hx',hr];rfl) (turn _ _ ?_ hB.os hB.tape hB.output hB.size (fun b hb _=>hB.block b hb) (fun r' hr'=>by obtain rfl:=Option.some.inj hr';exact .inr (nlr _))) ⟨by rw[←hqn];rfl,by rw[hxs];rfl,fun r hr=>by obtain rfl:=Option.some.inj hr;exact⟨rfl,rfl,rfl⟩,⟨(fun h=>by cases h),fun h=>absurd h.2 hm0⟩,fun r hr=>by obtain rfl:=Option.some.inj hr;exact hge⟩
  have hR:∀ r∈R,S i r.b∧RwAt w r∧∀ W,ZW.z=some W→W.heap.size≤r.b:=fun r hr=>V.at_ r (qps oe R r hr)
  have hnd:(R.map Rw.b).Nodup:=by
   cases oe with
   | none=>exact V.nodup
   | some r=>have:=V.nodup;rw[show rowL (some r) R=r::R from rfl,List.map_cons,List.nodup_cons] at this;exact this.2
  refine⟨?_,fun r hr=>?_,fun W hW=>?_⟩
  rotate_left 2
  ·obtain⟨b1,b2,b3⟩:=V.base W hW
   exact⟨b1,Nat.le_trans b2 hB.size,fun b hb=>⟨.inl (b3 b hb).1,(hB.block b (Nat.lt_of_lt_of_le hb b2)).trans (b3 b hb).2⟩⟩
  ·rw[show ∀ r,rowL (some r) R=r::R from fun _=>rfl,List.map_cons,List.nodup_cons]
   refine⟨fun hm=>?_,hnd⟩
   obtain⟨r,hr,e'⟩:=List.mem_map.1 hm
   have:=(hR r hr).2.1.lt
   have e':r.b=w.heap.size:=e'
   omega
  ·rcases List.mem_cons.1 hr with rfl|hr
   ·exact⟨.inr ⟨_,rfl,rfl⟩,.of hrow,fun W hW=>(V.base W hW).2.1⟩
   ·exact⟨.inl (hR r hr).1,(hR r hr).2.1.keep (hB.block _ (hR r hr).2.1.lt),(hR r hr).2.2⟩
 cases oe with
 | none=>
  have hr:=run_append_nil (P:=P) w t o.type e ei z h1 h2 hz ad m c news hnl hnc (by omega) (by simp only[rowN] at h63;omega) (by simp only[rowN,Nat.zero_add] at hb;omega)
  refine fresh [] 0 0 (.inl ⟨rfl,rfl,rfl⟩) (by omega) ?_ (by simp) rfl
  rw[hv]
  simpa[rowO,uR] using hr
 | some r=>
  obtain⟨q1,q2,q3⟩:=hoe r rfl
  have A:=(V.at_ r (qfq r R)).2.1
  obtain⟨q4,hat⟩:=A.own q3
  have hu:uR (rowO (some r))=.slice (some ⟨r.b,0,none⟩) r.n r.c:=by show Value.slice (some ⟨r.b,r.o,none⟩) r.n r.c=_;rw[q4]
  have hS:=(V.at_ r (qfq r R)).1
  have hxl:r.xs.length=r.n*ei.size:=by rw[A.len,q2]
  have hcel:∀ j,j<r.xs.length→w.cell? ⟨r.b,j,none⟩=r.xs[j]?:=fun j hj=>by have:=A.cell j hj;rw[q4,Nat.zero_add] at this;exact this
  obtain⟨cur,z0,hh,hz0,hcs⟩:=hat
  rw[q2] at hcs
  have hat:=qpr hh hz0
  by_cases hroom:r.n+m≤r.c
  ·have hin:∀ j,j<news.length→r.n*ei.size+j<cur.size:=fun j hj=>by
    have h3:(r.n+m)*ei.size≤r.c*ei.size:=Nat.mul_le_mul_right _ hroom
    rw[Nat.add_mul] at h3
    omega
   have hst:=run_storeCells_cells (P:=P) r.b (r.n*ei.size) news 0 w (fun j hj=>(hat _ (by have:=hin j hj;omega)).1) (fun j hj=>(hat _ (by have:=hin j hj;omega)).2) hone
   rw[Nat.add_zero] at hst
   obtain⟨z1,z2,z3,z4,z5⟩:=qf9 r.b news (r.n*ei.size) w
   have zf:=fun x=>World.frozen?_setCells r.b news (r.n*ei.size) w x
   have zi:=World.cell?_setCells_in r.b news (r.n*ei.size) w (fun j hj=>(hat _ (hin j hj)).1)
   have zo:∀ j,j<r.n*ei.size∨r.n*ei.size+news.length≤j→(w.setCells r.b (r.n*ei.size) news).cell? ⟨r.b,j,none⟩=w.cell? ⟨r.b,j,none⟩:=fun j hj=>World.cell?_setCells_out r.b news (r.n*ei.size) w ⟨r.b,j,none⟩ fun _ _=>hj
   have hr:(Builtin.append_ #[t,t] o.type #[.slice (some ⟨r.b,0,none⟩) r.n r.c,.slice (some ad) m c]).run P w=.ok (.slice (some ⟨r.b,0,none⟩) (r.n+m) r.c) (w.setCells r.b (r.n*ei.size) news):=by
    have hf:=run_firstCells_some (P:=P) w ei.size m ad m c news hnl hnc
    simp[Builtin.append_,run_underlying h1,sizeOf,typeInfo,h2,Builtin.lenOf,hroom,hf,Addr.add_lit,hst]
   generalize hw':w.setCells r.b (r.n*ei.size) news=w' at *
   have hrow:RwAt w' ⟨true,e,ei.size,r.b,0,r.c,r.n+m,r.xs++news⟩:=by
    refine⟨by rw[z4];exact A.lt,by show(r.xs++news).length=(r.n+m)*ei.size;rw[List.length_append,hxl,hnl,Nat.add_mul],hroom,fun j hj=>?_,fun _=>⟨rfl,?_⟩⟩
    ·have hj:j<(r.xs++news).length:=hj
     show w'.cell? ⟨r.b,0+j,none⟩=(r.xs++news)[j]?
     rw[Nat.zero_add]
     by_cases hlt:j<r.xs.length
     ·rw[zo j (.inl (by omega)),hcel j hlt,List.getElem?_append_left hlt]
     ·rw[List.length_append] at hj
      have hk:j-r.n*ei.size<news.length:=by omega
      have:=zi (j-r.n*ei.size) hk
      rw[show r.n*ei.size+(j-r.n*ei.size)=j by omega] at this
      rw[this,List.getElem?_append_right (by omega),hxl,List.getElem?_eq_getElem hk]
    ·obtain⟨cur',g1,g2⟩:=qhe r.b news (r.n*ei.size) w cur r.e z0 hh
     rw[hw'] at g1
     show ∃ cur z,w'.heap[r.b]?=some (.cells cur e z)∧(z.1=z.2∨cur.size≤z.1)∧cur.size=r.c*ei.size
     rw[q1] at g1
     exact⟨cur',z0,g1,by rw[g2];exact hz0,by rw[g2];exact hcs⟩
   refine fin (some ⟨true,e,ei.size,r.b,0,r.c,r.n+m,r.xs++news⟩) w' (by rw[hx',hv,hu];exact hr) (turn _ _ ?_ z1 z2 z3 (Nat.le_of_eq z4.symm) (fun b hb hnS=>z5 b (fun e'=>hnS (e'▸hS))) (fun r' hr'=>by obtain rfl:=Option.some.inj hr';exact .inl hS)) ⟨rfl,rfl,fun r' hr'=>by obtain rfl:=Option.some.inj hr';exact⟨rfl,rfl,rfl⟩,⟨(fun h=>by cases h),fun h=>absurd h.2 hm0⟩,fun r' hr'=>by obtain rfl:=Option.some.inj hr';exact hroom⟩
   have hnd:r.b∉R.map Rw.b∧(R.map Rw.b).Nodup:=by have:=V.nodup;rw[show rowL (some r) R=r::R from rfl,List.map_cons,List.nodup_cons] at this;exact this
   have hrb:=(V.at_ r (qfq r R)).2.2
   refine⟨?_,fun r' hr'=>?_,fun W hW=>?_⟩
   rotate_left 2
   ·obtain⟨b1,b2,b3⟩:=V.base W hW
    have:=hrb W hW
    exact⟨b1,by omega,fun b hb=>⟨.inl (b3 b hb).1,(z5 b fun e'=>by omega).trans (b3 b hb).2⟩⟩
   ·rw[show ∀ r,rowL (some r) R=r::R from fun _=>rfl,List.map_cons,List.nodup_cons];exact hnd
   ·rcases List.mem_cons.1 hr' with rfl|hr'
    ·exact⟨.inl hS,hrow,hrb⟩
    ·obtain⟨g1,g2,g3⟩:=V.at_ r' (qps _ _ _ hr')
     exact⟨.inl g1,g2.keep (z5 _ fun e'=>hnd.1 (List.mem_map.2 ⟨r',hr',e'⟩)),g3⟩
  ·have holds:∀ j u,r.xs[j]?=some u→w.cell? ((⟨r.b,0,none⟩:Addr).add j)=some u:=fun j u hju=>by
    rw[qb4,Nat.zero_add,hcel j (List.getElem?_eq_some_iff.1 hju).1];exact hju
   have hr:=run_append_grow (P:=P) w t o.type e ei z h1 h2 hz ⟨r.b,0,none⟩ r.n r.c r.xs hxl holds ad m c news hnl hnc (by omega) (by simp only[rowN] at h63;omega) (growslice_fits (by omega) hb)
   refine fresh r.xs r.n r.c (.inr ⟨r,rfl,rfl,rfl⟩) (by omega) ?_ hxl rfl
   rw[hv,hu]
   exact hr
def SrcN (y:Operand) (st:St) (hs:List Nat) (m k:Nat) (news:List Value):Prop:=
 ∀ st₂:St,(∀ u,EvTo y st u→EvTo y st₂ u)→(∀ i∈hs,st₂.h[i]?=st.h[i]?)→∀ X ρ a w,Rel X ρ st₂ a w→SrcR w (a.eval y) m k news
theorem qtr [ZW] {x y:Operand} {t e:TypeId} {ei:TypeInfo} {z p:Value} {own:Bool} {n:Nat} {ps:List (Nat×Nat×Value)} {K:Value→List (Nat×Chunk)→Prop} (oe:Option Rw) (R:List Rw) (i m:Nat) (news:List Value)
  (ho:o.op=.call ⟨.builtin .append,#[x,y],#[t,t]⟩) (hx:EvTo x st p) (hp:∀ ρ,den ρ p=uR (rowO oe))
  (h1:P.underlying t=some (.slice e)) (h2:P.info? e=some ei) (hz:ei.zero=some z) (hzs:z.cells.size=ei.size) (hs0:0<ei.size)
  (hi:st.h[i]?=some (some (@Chunk.mk (rvX (rowL oe R)) own n ps))) (hoe:∀ r,oe=some r→r.e=e∧r.k=ei.size∧r.w=true) (hs:List Nat) (hsrc:SrcN y st hs m ei.size news) (hone:∀ u∈news,u.oneCell'=true)
  (h63:rowN oe+m≤35184372088831) (hb:(rowN oe+m)*ei.bytes≤140737488355328)
  (hK:∀ oe',Grew oe oe' e ei.size m news→K (uV (rowO oe')) [(i,@Chunk.mk (rvX (rowL oe' R)) own n ps)]):N (EffAll P o st K):=
 N.mk (qw7 oe R m news ho hx hp h1 h2 hz hzs hs0 hi hoe (hsrc st (fun _ h=>h) fun _ _=>rfl) hone h63 hb hK)
theorem qms {y:Operand} {j g u m q k:Nat} {cj:Chunk} {cs:List Value} (hs:List Nat) (hjs:j∈hs) (hy:EvTo y st (.slice (some ⟨j,g,some u⟩) m q)) (hj:st.h[j]?=some (some cj)) (hr:Reads cj g true (m*k) (.agg ⟨cs⟩)) (hp:cs.all qa3=true) :
  SrcN y st hs m k cs:=fun st₂ ha hh X ρ a w Rl=>by
 have hj:=(hh j hjs).trans hj
 have hy:=ha _ hy
 have hy':a.eval y=.slice (some ⟨(ρ j).1,(ρ j).2+g,none⟩) m q:=(hy.den Rl).self.symm
 obtain⟨cs',e,hcl,hcc,hcd⟩:=qfp Rl.heap hj hr
 obtain rfl:cs=cs':=by simpa using e
 refine .inr ⟨_,q,hy',hcl,fun l v hv=>hcc l v ?_⟩
 have hl:=(List.getElem?_eq_some_iff.1 hv).1
 rw[List.getElem?_map,hv]
 have:qa3 v=true:=List.all_eq_true.1 hp v (List.mem_of_getElem? hv)
 show some (den1 ρ v)=some v
 rw[qa9 this]
theorem qpt [ZW] {t:TypeId} {x:Operand} {f i:Nat} {own:Bool} {n:Nat} {ps:List (Nat×Nat×Value)} {R:List Rw} (r:Rw) {v:Value} (p:Nat) (hG:TysOK P G) (ho:o.op=.load t x) (hx:EvTo x st (.pointer (some ⟨r.b,f,none⟩))) (hf:f=r.o+p) (hi:st.h[i]?=some (some (@Chunk.mk (rvX R) own n ps))) (hr:r∈R)
  (ht:lookT G t fun _ d=>qcq d=false) (hp:qa3 v=true) (hk:r.xs[p]?=some v):OKs P o st v [] [i]:=fun st₂ hs hh _=>
 qav fun X ρ a w R'=>by
  have hi2:=(hh i (by simp)).trans hi
  have hx':=qgz (hs x (by simp[ho,Op.operands]) _ hx) rfl R'
  obtain⟨ti,d,_,h2,hd⟩:=qal hG ht
  obtain⟨S,E⟩:=R'.heap.ext
  have V:RvOK R (ρ i) (S i) w:=E.inv i _ hi2
  have hy:=((V.at_ r hr).2.1.cell p (List.getElem?_eq_some_iff.1 hk).1).trans hk
  rw[←hf] at hy
  refine⟨v,?_,fun r _=>?_⟩
  ·simp only[execOp,ho,hx',Instr.loadAt,Instr.sureAddr,loadVar,Sem.run_bind,Sem.run_pure,Result.andThen_ok,qb9 h2,hd,Bool.false_eq_true,if_false,run_load,hy]
  ·cases v<;>first|exact qa0 (by exact hp) r|(simp[qa3] at hp)
end
open Go Go.RowKit
theorem qmt:∀ {l:List Rw},(l.map Rw.b).Nodup→∀ {q r:Rw},q∈l→r∈l→q.b=r.b→q=r
 | [],_,q,r,hq,_,_=>by cases hq
 | x::l,h,q,r,hq,hr,e=>by
  rw[List.map_cons,List.nodup_cons] at h
  rcases List.mem_cons.1 hq with hq2|hq2<;>rcases List.mem_cons.1 hr with hr2|hr2
  ·rw[hq2,hr2]
  ·exact absurd (List.mem_map.2 ⟨r,hr2,by rw[←e,hq2]⟩) h.1
  ·exact absurd (List.mem_map.2 ⟨q,hq2,by rw[e,hr2]⟩) h.1
  ·exact qmt h.2 hq2 hr2 e
theorem q3x [ZW] {X:Ctx} {ρ:Nat→Nat×Nat} {h:Hp} {w w':World} {i:Nat} {R:List Rw} {r:Rw} {own:Bool} {n:Nat} {ps:List (Nat×Nat×Value)} (H:HOK X ρ h w) (hi:h[i]?=some (some (@Chunk.mk (rvX R) own n ps))) (hB:Below w.heap.size w w') (he:RwAt w' r) (hge:w.heap.size≤r.b):HOK X ρ (h.set i (some (@Chunk.mk (rvX (r::R)) own n ps))) w':=by
 obtain⟨S,E⟩:=H.ext
 have V:RvOK R (ρ i) (S i) w:=E.inv i _ hi
 have hpi:=H.lt i _ hi
 refine H.turnX E hi (d:=@Chunk.mk (rvX (r::R)) own n ps) (S':=fun b=>S i b∨b=r.b) id (nlr _) (fun j hj=>rfl) hB.os hB.tape hB.output hB.size (fun b hb _=>hB.block b hb) (fun b hb=>?_) ?_
 ·rcases hb with hb|rfl
  ·obtain⟨m1,m2,m3⟩:=E.mine i _ b hi hb
   exact⟨Nat.lt_of_lt_of_le m2 hB.size,m1,.inl hb⟩
  ·exact⟨he.lt,.inr (by omega),.inr hge⟩
 ·refine⟨?_,fun q hq=>?_,fun W hW=>?_⟩
  ·rw[List.map_cons,List.nodup_cons]
   refine⟨fun hm=>?_,V.nodup⟩
   obtain⟨q,hq,e'⟩:=List.mem_map.1 hm
   have:=(V.at_ q hq).2.1.lt
   omega
  ·rcases List.mem_cons.1 hq with rfl|hq
   ·exact⟨.inr rfl,he,fun W hW=>Nat.le_trans (V.base W hW).2.1 hge⟩
   ·exact⟨.inl (V.at_ q hq).1,(V.at_ q hq).2.1.keep (hB.block _ (V.at_ q hq).2.1.lt),(V.at_ q hq).2.2⟩
  ·obtain⟨b1,b2,b3⟩:=V.base W hW
   exact⟨b1,Nat.le_trans b2 hB.size,fun b hb=>⟨.inl (b3 b hb).1,(hB.block b (Nat.lt_of_lt_of_le hb b2)).trans (b3 b hb).2⟩⟩
section
variable {P:Program} {G:Tys} {o:Oper} {st:St}
theorem qrb [ZW] {t e:TypeId} {m i:Nat} {pp:Array (Nat×Operand)} {vs:List (Nat×Value)} {ei:TypeInfo} {z:Value} {out:List Value} {R:List Rw} {own:Bool} {n:Nat} {ps:List (Nat×Nat×Value)} {K:Value→List (Nat×Chunk)→Prop}
  (ho:o.op=.buildSlice t m pp) (hx:qdv st pp.toList vs) (h2:P.underlying t=some (.slice e)) (h3:P.info? e=some ei) (hz:ei.zero=some z) (hp:qam z=true) (hfz:flatB z ei.size=true) (hs0:0<ei.size) (hn:m*ei.size≤16777216)
  (hout:fillL (fun i=>some (i*ei.size,ei.size)) (segL (m*ei.size) (repZ ei.size z)) vs=some out) (hlen:out.length=m*ei.size) (hpl:out.all qa3=true) (hm0:0<m*ei.size)
  (hi:st.h[i]?=some (some (@Chunk.mk (rvX R) own n ps)))
  (hK:∀ b,K (uV (some ⟨b,0,m,m,none⟩)) [(i,@Chunk.mk (rvX (⟨true,e,ei.size,b,0,m,m,out⟩::R)) own n ps)]):EffAll P o st K:=fun X ρ a w Rl next Q hk=>by
 obtain⟨e1,e2⟩:=qen Rl _ _ hx (fun p hp=>fun u hu=>hu)
 have hzv:(zeroValue e).run P w=.ok z w:=by simp[zeroValue,typeInfo,Sem.run_bind,run_program,Result.andThen_ok,h3,hz]
 have hcells:((Array.range (m*ei.size)).map (z.cells[· % z.cells.size]!))=⟨(segL (m*ei.size) (repZ ei.size z)).map (den1 ρ)⟩:=by
  apply Array.toList_inj.1
  rw[qh1,Array.toList_map,Array.toList_range]
  exact List.map_congr_left fun j _=>(qb6 hp hfz hs0 ρ j).1
 have hr:=qc0 (ρ:=ρ) vs _ _ hout
 rw[←e1] at hr
 have hmap:out.map (den1 ρ)=out:=(List.map_congr_left fun v hv=>qa9 (List.all_eq_true.1 hpl v hv) ρ).trans (List.map_id _)
 have hf:Instr.fill (fun i=>some (i*ei.size,ei.size)) ⟨(segL (m*ei.size) (repZ ei.size z)).map (den1 ρ)⟩ ((pp.map fun(p:Nat×Operand)=>(p.1,a.eval p.2)).toList)=some ⟨out⟩:=by
  rw[Array.toList_map,←hmap]
  exact hr
 have hrun:(execOp a.eval o).run P w=.ok (.value (.slice (some ⟨w.heap.size,0,none⟩) m m)) (w.alloc (.cells ⟨out⟩ e)):=by
  have g1:¬ m*ei.size > 2^24:=by omega
  have g2:¬ m*ei.size=0:=by omega
  simp only[execOp,ho,Instr.buildSlice,underlying,Sem.run_bind,run_program,Result.andThen_ok,h2,Sem.run_pure,run_sizeOf h3,g1,g2,if_false,hzv]
  rw[hcells,hf]
  rfl
 have hB:Below w.heap.size w (w.alloc (.cells ⟨out⟩ e)):=(Below.refl _ _).alloc (nlr _) _
 have hrow:RwAt (w.alloc (.cells ⟨out⟩ e)) ⟨true,e,ei.size,w.heap.size,0,m,m,out⟩:=.row (heap_alloc_new w _) (.inl rfl) (by show out.length=m*ei.size;exact hlen) (by show out.take (m*ei.size)=out;rw[←hlen];exact List.take_length) hlen (nlr _)
 have H':=q3x Rl.heap hi hB hrow (nlr _)
 unfold Oper.wp
 rw[hrun]
 exact hk _ _ ρ _ _ (hK w.heap.size) ⟨AgreeOn.refl _ _,H',fun r _=>qfm _ r⟩
theorem q1j [ZW] {s e:TypeId} {x:Operand} {i:Nat} {R:List Rw} {own:Bool} {n:Nat} {ps:List (Nat×Nat×Value)} (r:Rw) (ho:o.op=.convert s s x) (hx:EvTo x st (uV (some r.sl))) (h1:P.underlying s=some (.slice e)) (h2:P.underlying e=some (.int .u8)) (hw:r.w=true) (hr:r∈R) (hi:st.h[i]?=some (some (@Chunk.mk (rvX R) own n ps))):OKs P o st (uV (some r.sl)) [(i,@Chunk.mk (rvX R) own n ps)] []:=fun st₂ hs _ hh=>
 qbo fun X ρ a w Rl=>by
  have hi:=(hh _ (List.mem_singleton.2 rfl)).trans hi
  have hx':a.eval x=uR (some r.sl):=by rw[←((hs x (by simp[ho,Op.operands]) _ hx).den Rl).self,qfm]
  obtain⟨S,E⟩:=Rl.heap.ext
  have V:RvOK R (ρ i) (S i) w:=E.inv i _ hi
  obtain⟨hSb,A,hZ⟩:=V.at_ r hr
  obtain⟨q4,cur,z,hhb,hz,hcs⟩:=A.own hw
  have hsh:w.shape? r.b=some (r.e,cur.size):=by unfold World.shape?;rw[hhb]
  let z':Nat×Nat:=if z.1==z.2 then (cur.size,cur.size+1) else (min z.1 cur.size,max z.2 (cur.size+1))
  have hb':(w.freeze ⟨r.b,cur.size,none⟩ 1).heap[r.b]?=some (.cells cur r.e z'):=by
   unfold World.freeze
   rw[if_neg (by decide)]
   simp only[Array.getElem?_modify,if_pos,hhb,Option.map_some]
   rfl
  have hoth:∀ k,k≠r.b→(w.freeze ⟨r.b,cur.size,none⟩ 1).heap[k]?=w.heap[k]?:=fun k hk=>by
   unfold World.freeze
   rw[if_neg (by decide)]
   simp only[Array.getElem?_modify,if_neg (Ne.symm hk)]
  have hsz:(w.freeze ⟨r.b,cur.size,none⟩ 1).heap.size=w.heap.size:=by
   unfold World.freeze
   rw[if_neg (by decide)]
   simp
  have hz':z'.1=z'.2∨cur.size≤z'.1:=by
   show(if z.1==z.2 then (cur.size,cur.size+1) else (min z.1 cur.size,max z.2 (cur.size+1))).1=(if z.1==z.2 then (cur.size,cur.size+1) else (min z.1 cur.size,max z.2 (cur.size+1))).2∨cur.size≤(if z.1==z.2 then (cur.size,cur.size+1) else (min z.1 cur.size,max z.2 (cur.size+1))).1
   by_cases e:z.1=z.2
   ·rw[if_pos (beq_iff_eq.2 e)];exact .inr (nlr _)
   ·rw[if_neg (by rw[beq_iff_eq];exact e)]
    rcases hz with hz|hz
    ·exact absurd hz e
    ·exact .inr (by show cur.size≤min z.1 cur.size;omega)
  have hrow:RwAt (w.freeze ⟨r.b,cur.size,none⟩ 1) r:=by
   refine⟨by rw[hsz];exact A.lt,A.len,A.cap,fun j hj=>?_,fun _=>⟨q4,cur,z',hb',hz',hcs⟩⟩
   rw[←A.cell j hj]
   simp only[World.cell?,hb',hhb]
  refine⟨ρ,uR (some r.sl),w.freeze ⟨r.b,cur.size,none⟩ 1,?_,AgreeOn.refl _ _,?_,fun r' _=>qfm _ r'⟩
  ·have hrun:(markStringish ⟨r.b,r.o,none⟩).run P w=.ok () (w.freeze ⟨r.b,cur.size,none⟩ 1):=by
    simp only[markStringish,Sem.run_bind,run_shape,Result.andThen_ok,hsh,run_freeze]
   simp only[execOp,ho,hx',convert,underlying,Sem.run_bind,run_program,Result.andThen_ok,h1,h2,Sem.run_pure,uR,beq_self_eq_true,hrun]
  ·refine Rl.heap.turnX E hi (d:=@Chunk.mk (rvX R) own n ps) (S':=S i) id (nlr _) (fun j hj=>rfl) ?_ ?_ ?_ (Nat.le_of_eq hsz.symm) (fun b _ hnS=>hoth b fun e'=>hnS (e'▸hSb)) (fun b hb=>?_) ?_
   ·unfold World.freeze;rw[if_neg (by decide)]
   ·unfold World.freeze;rw[if_neg (by decide)]
   ·unfold World.freeze;rw[if_neg (by decide)]
   ·obtain⟨m1,m2,m3⟩:=E.mine i _ b hi hb
    exact⟨by rw[hsz];exact m2,m1,.inl hb⟩
   ·refine⟨V.nodup,fun q hq=>⟨(V.at_ q hq).1,?_,(V.at_ q hq).2.2⟩,fun W hW=>?_⟩
    ·by_cases e:q.b=r.b
     ·rw[qmt V.nodup hq hr e]
      exact hrow
     ·exact(V.at_ q hq).2.1.keep (hoth _ e)
    ·obtain⟨b1,b2,b3⟩:=V.base W hW
     have:=hZ W hW
     exact⟨b1,by omega,fun b hb=>⟨(b3 b hb).1,(hoth b fun e'=>by omega).trans (b3 b hb).2⟩⟩
end
theorem HOK.soft {X:Ctx} {ρ:Nat→Nat×Nat} {h:Hp} {w:World} {i n:Nat} {o:Bool} {ps:List (Nat×Nat×Value)} {x y:Ext} (H:HOK X ρ h w) (hi:h[i]?=some (some (@Chunk.mk x o n ps))) (hxy:∀ p S w,x.inv p S w→y.inv p S w):HOK X ρ (h.set i (some (@Chunk.mk y o n ps))) w:=by
 have hil:=(List.getElem?_eq_some_iff.1 hi).1
 obtain⟨S,E⟩:=H.ext
 have back:∀ (j:Nat) (d:Chunk),(h.set i (some (@Chunk.mk y o n ps)))[j]?=some (some d)→∃ d0:Chunk,h[j]?=some (some d0)∧d.own=d0.own∧d.n=d0.n∧(∀ l,d.f l=d0.f l)∧(∀ p S w,d0.x.inv p S w→d.x.inv p S w):=fun j d hj=>by
  by_cases e:i=j
  ·subst e
   rw[List.getElem?_set_self hil] at hj
   obtain rfl:=Option.some.inj (Option.some.inj hj)
   exact⟨_,hi,rfl,rfl,fun _=>rfl,hxy⟩
  ·rw[List.getElem?_set_ne e] at hj
   exact⟨d,hj,rfl,rfl,fun _=>rfl,fun _ _ _ h=>h⟩
 have fil:∀ j,Fil h j→Fil (h.set i (some (@Chunk.mk y o n ps))) j:=fun j hj=>hj.set
 refine⟨H.evo,fun j hj=>⟨fil j (H.base j hj).1,(H.base j hj).2⟩,fun j d hj=>?_,fun j d hj l hl=>?_,fun j d hj ho l hl=>?_,fun j d l e hj ho hl hne=>?_,S,fun j d hj=>?_,fun j d b hj hb=>?_,fun j d b l e hj hb hl hne=>?_⟩
 ·obtain⟨d0,h0,_⟩:=back j d hj
  exact H.lt _ _ h0
 ·obtain⟨d0,h0,_,hn,hf,_⟩:=back j d hj
  obtain⟨v,hv,hd⟩:=H.cell j d0 h0 l (by omega)
  exact⟨v,hv,by rw[hf];exact hd.more (AgreeOn.refl _ _) fil⟩
 ·obtain⟨d0,h0,h1,hn,_⟩:=back j d hj
  exact H.own j d0 h0 (h1▸ho) l (by omega)
 ·obtain⟨d0,h0,h1,_⟩:=back j d hj
  obtain⟨e0,g0,_⟩:=back l e hl
  exact H.sep _ _ _ _ h0 (h1▸ho) g0 hne
 ·obtain⟨d0,h0,_,_,_,hx⟩:=back j d hj
  exact hx _ _ _ (E.inv j d0 h0)
 ·obtain⟨d0,h0,_,hn,_⟩:=back j d hj
  rw[hn];exact E.mine j d0 b h0 hb
 ·obtain⟨d0,h0,_⟩:=back j d hj
  obtain⟨e0,g0,_⟩:=back l e hl
  exact E.apart j d0 b l e0 h0 hb g0 hne
theorem q1k [ZW] {R R2:List Rw} (hs:List.Sublist R R2):∀ p S w,(rvX R2).inv p S w→(rvX R).inv p S w:=fun p S w V=>by
 have V:RvOK R2 p S w:=V
 exact⟨(hs.map _).nodup V.nodup,fun r hr=>V.at_ r (hs.subset hr),V.base⟩
theorem CallAll.soft {P:Program} {g:FuncId} {vs:List Value} {h:Hp} {R R':Value→List (Nat×Chunk)→Prop} (k:CallAll P g vs h R) (hR:∀ v ms,R v ms→∃ (i:Nat) (x y:Ext) (o:Bool) (n:Nat) (ps:List (Nat×Nat×Value)) (ms':List (Nat×Chunk)),(modH h ms)[i]?=some (some (@Chunk.mk x o n ps))∧(∀ p S w,x.inv p S w→y.inv p S w)∧(modH h ms).set i (some (@Chunk.mk y o n ps))=modH h ms'∧R' v ms'):CallAll P g vs h R':=by
 intro X ρ w xs H hx
 have go:∀ x w',(∃ v ms ρ',R v ms∧AgreeOn (Fil h) ρ ρ'∧HOK X ρ' (modH h ms) w'∧Den (Fil (modH h ms)) ρ' v x)→∃ v ms ρ',R' v ms∧AgreeOn (Fil h) ρ ρ'∧HOK X ρ' (modH h ms) w'∧Den (Fil (modH h ms)) ρ' v x:=fun x w' ⟨v,ms,ρ',hq,ha,hH,hd⟩=>by
  obtain⟨i,ex,ey,o,n,ps,ms',h1,h2,h3,h4⟩:=hR v ms hq
  have hH':=hH.soft h1 h2
  rw[h3] at hH'
  exact⟨v,ms',ρ',h4,ha,hH',hd.more (AgreeOn.refl _ _) fun j hj=>by rw[←h3];exact hj.set⟩
 rcases k X ρ w xs H hx with ⟨v,w',hr,hq⟩|⟨hr,hcl⟩
 ·exact .inl ⟨v,w',hr,go _ _ hq⟩
 ·exact .inr ⟨hr,hcl.mono fun e w' ⟨y,he,hq⟩=>⟨y,he,go _ _ hq⟩⟩
section
variable {P:Program} {G:Tys}
theorem qa4 {g:FuncId} {vs:List Value} {h:Hp} {slot:Nat} {C:List Nat→Prop} {K:List Nat→Value→List (Nat×Chunk)→Prop} (hs:List Nat) (R:Value→List (Nat×Chunk)→Prop) (hC:C hs) (hc:∀ h₂:Hp,(∀ q∈hs,h₂[q]?=h[q]?)→CallAll P g vs h₂ R) (k:∀ v ms,R v ms→(∀ q∈ms.map (·.1),q∈hs)∧K hs v ms):N (CallM P g vs h slot C K):=N.mk ⟨hs,R,hC,hc,k⟩
theorem qts [ZW] {f:FuncId} {fn:Func} {c:Code} {vs:List Value} (W:World) (hz:ZW.z=some W) {α:Type} (V:α→Value) (D:α→List Rw) (ok:α→Prop) (hG:TysOK P G) (hm:P.follows .mixedOrders=true) (hf:P.funcs[f]?=some fn) (hb:fn.body=some c) (hW:0<W.heap.size) (hp:vs.all qam=true) (hV:∀ κ r r',den r (V κ)=den r' (V κ))
  (hwp:initK vs fn.ntmps fun t=>wpC P G 1 c (bodyQ P G fn fun v st=>N (∃ κ,ok κ∧v=V κ∧st.h[0]?=some (some (rvC (D κ))))) ⟨t,[some (rvC [])]⟩):Calls P f ⟨vs⟩ W fun e w'=>∃ κ,ok κ∧e=.returned (den (fun _=>(0,0)) (V κ))∧Below W.heap.size W w'∧∀ r∈D κ,RwAt w' r∧W.heap.size≤r.b:=by
 let X:Ctx:=⟨W,fun a=>a.block<W.heap.size,1,fun _=>(0,0)⟩
 have one:∀ (k:Nat) (d:Chunk),[some (rvC [])][k]?=some (some d)→k=0∧d=rvC []:=fun k d hk=>by
  cases k with
  | zero=>exact⟨rfl,by simpa using hk.symm⟩
  | succ k=>simp at hk
 have H:HOK X (fun _=>(0,0)) [some (rvC [])] W:=by
  refine⟨Evo.refl _ _,fun i hi=>⟨⟨_,by
    have hi:i<1:=hi
    obtain rfl:i=0:=by omega
    rfl⟩,rfl⟩,fun k d hk=>hW,fun k d hk j hj=>?_,fun k d hk ho j hj=>?_,fun k d l e hk ho hl hne=>?_,fun i b=>i=0∧b<W.heap.size,fun k d hk=>?_,fun k d b hk hS=>?_,fun k d b l e hk hS hl hne=>?_⟩
  ·obtain⟨rfl,rfl⟩:=one k d hk;exact absurd hj (Nat.not_lt_zero j)
  ·obtain⟨rfl,rfl⟩:=one k d hk;exact absurd hj (Nat.not_lt_zero j)
  ·exact absurd ((one k d hk).1.trans (one l e hl).1.symm) hne
  ·obtain⟨rfl,rfl⟩:=one k d hk
   refine⟨List.nodup_nil,(fun r hr=>by cases hr),fun W' hW'=>?_⟩
   rw[hz] at hW'
   obtain rfl:=Option.some.inj hW'
   exact⟨hW,nlr _,fun b hb=>⟨⟨rfl,hb⟩,rfl⟩⟩
  ·obtain⟨rfl,rfl⟩:=one k d hk
   exact⟨.inl rfl,hS.2,.inr ⟨hS.2,fun _=>hS.2⟩⟩
  ·exact absurd ((one l e hl).1.trans (one k d hk).1.symm) hne
 have hd:∀ {vs:List Value},vs.all qam=true→All2 (Den (Fil [some (rvC [])]) (fun _=>(0,0))) vs vs:=by
  intro vs
  induction vs with
  | nil=>exact fun _=>trivial
  | cons v r ih=>
   intro hp
   simp only[List.all_cons,Bool.and_eq_true] at hp
   exact⟨Den.plain hp.1,ih hp.2⟩
 refine(qe4 (args:=⟨vs⟩) (X:=X) hG hm hf hb H (hd hp) hwp).mono ?_
 rintro e w' ⟨ρ',v,st,x,rfl,H',hdx,hq⟩
 obtain⟨κ,hκ,rfl,hF⟩:=hq.out
 obtain⟨S,E⟩:=H'.ext
 have M:RvOK (D κ) (ρ' 0) (S 0) w':=E.inv 0 _ hF
 refine⟨κ,hκ,?_,⟨H'.evo.os,H'.evo.tape,H'.evo.output,H'.evo.size,fun b hb=>((M.base W hz).2.2 b hb).2⟩,fun r hr=>⟨(M.at_ r hr).2.1,(M.at_ r hr).2.2 W hz⟩⟩
 rw[←hdx.self,hV κ ρ' fun _=>(0,0)]
end
inductive AtRe (q:Nat×Nat) (k:Nat):Value→Value→Prop
 | same (v:Value):AtRe q k v v
 | ptr {s:Nat}:AtRe q k (realP q) (.pointer (some ⟨k,0,some s⟩))
theorem qtt {F:Nat→Prop} {ρ:Nat→Nat×Nat} {q:Nat×Nat} {k:Nat} (hF:F k) (hρ:ρ k=q):∀ {vs vs' xs:List Value},All2 (AtRe q k) vs vs'→All2 (Den F ρ) vs xs→All2 (Den F ρ) vs' xs
 | [],[],xs,_,h=>h
 | [],_::_,_,h,_=>h.elim
 | _::_,[],_,h,_=>h.elim
 | _::_,_::_,[],_,h=>h.elim
 | v::vs,v'::vs',x::xs,h,h'=>by
  refine⟨?_,qtt hF hρ h.2 h'.2⟩
  have h1:=h.1
  cases h1 with
  | same=>exact h'.1
  | ptr=>
   intro r hr
   have e1:x=realP q:=h'.1.self.symm.trans qic
   have e2:r k=q:=(hr k hF).trans hρ
   rw[e1]
   simp[den,den2,den1,den0,denA,e2,realP]
theorem HOK.setX {X:Ctx} {ρ:Nat→Nat×Nat} {h:Hp} {w:World} {k n:Nat} {o:Bool} {ps:List (Nat×Nat×Value)} (H:HOK X ρ h w) (hk:h[k]?=some (some (@Chunk.mk Ext.none o n ps))) (y:Ext) (hy:∀ S,(∀ b,¬ S b)→y.inv (ρ k) S w):HOK X ρ (h.set k (some (@Chunk.mk y o n ps))) w:=by
 obtain⟨S,E⟩:=H.ext
 have hkl:=(List.getElem?_eq_some_iff.1 hk).1
 have get:∀ j d,(h.set k (some (@Chunk.mk y o n ps)))[j]?=some (some d)→∃ c:Chunk,h[j]?=some (some c)∧d.own=c.own∧d.n=c.n∧d.ps=c.ps∧(d.x=c.x∨(j=k∧d.x=y∧c.x=Ext.none)):=fun j d hj=>by
  by_cases ej:k=j
  ·subst ej
   rw[List.getElem?_set_self hkl] at hj
   obtain rfl:_=d:=by simpa using hj
   exact⟨_,hk,rfl,rfl,rfl,.inr ⟨rfl,rfl,rfl⟩⟩
  ·rw[List.getElem?_set_ne ej] at hj
   exact⟨d,hj,rfl,rfl,rfl,.inl rfl⟩
 have fil:∀ j,Fil h j→Fil (h.set k (some (@Chunk.mk y o n ps))) j:=fun j hj=>hj.set
 refine⟨H.evo,fun i hi=>⟨fil i (H.base i hi).1,(H.base i hi).2⟩,fun j d hj=>?_,fun j d hj l hl=>?_,fun j d hj ho l hl=>?_,fun j d l f hj ho hl hne=>?_,S,fun j d hj=>?_,fun j d b hj hb=>?_,fun j d b l f hj hb hl hne=>?_⟩
 ·obtain⟨c,hc,_⟩:=get j d hj;exact H.lt j c hc
 ·obtain⟨c,hc,_,e2,e3,_⟩:=get j d hj
  obtain⟨x,hx,hd⟩:=H.cell j c hc l (by omega)
  refine⟨x,hx,?_⟩
  have:d.f l=c.f l:=by unfold Chunk.f;rw[e3]
  rw[this];exact hd.more (AgreeOn.refl _ _) fil
 ·obtain⟨c,hc,e1,e2,_⟩:=get j d hj
  exact H.own j c hc (by rw[←e1];exact ho) l (by omega)
 ·obtain⟨c,hc,e1,_⟩:=get j d hj
  obtain⟨c2,hc2,_⟩:=get l f hl
  exact H.sep j c l c2 hc (by rw[←e1];exact ho) hc2 hne
 ·obtain⟨c,hc,_,_,_,e⟩:=get j d hj
  rcases e with e|⟨rfl,e,e'⟩
  ·rw[e];exact E.inv j c hc
  ·have:=E.inv j c hc
   rw[e'] at this
   rw[e];exact hy _ this
 ·obtain⟨c,hc,_,e2,_⟩:=get j d hj
  rw[e2];exact E.mine j c b hc hb
 ·obtain⟨c,hc,_⟩:=get j d hj
  obtain⟨c2,hc2,_⟩:=get l f hl
  exact E.apart j c b l c2 hc hb hc2 hne
theorem HOK.mark {X:Ctx} {ρ:Nat→Nat×Nat} {h:Hp} {w:World} {k n:Nat} {o:Bool} {ps:List (Nat×Nat×Value)} (H:HOK X ρ h w) (hk:h[k]?=some (some (@Chunk.mk Ext.none o n ps))):HOK X ρ (h.set k (some (@Chunk.mk (atX (ρ k)) o n ps))) w:=
 H.setX hk _ fun S hS=>⟨rfl,hS⟩
theorem HOK.famNil {α:Type} {X:Ctx} {ρ:Nat→Nat×Nat} {h:Hp} {w:World} {k n m:Nat} {o:Bool} {ps:List (Nat×Nat×Value)} {enc:α→Nat→Value} (H:HOK X ρ h w) (hk:h[k]?=some (some (@Chunk.mk Ext.none o n ps))):HOK X ρ (h.set k (some (@Chunk.mk (famX m enc []) o n ps))) w:=
 H.setX hk _ fun S hS=>⟨fun b=>⟨fun hb=>absurd hb (hS b),fun⟨q,hq,_⟩=>by cases hq⟩,List.nodup_nil,fun q hq=>by cases hq⟩
abbrev atZ:Ext where
 inv:=fun p S _=>p.2=0∧∀ b,¬ S b
 keep:=fun h _=>h
theorem qw8 {α:Type} {ss:List Piece} {h:Hp} {v:Value} {K:Value→Hp→Prop} {k n:Nat} {o:Bool} {ps:List (Nat×Nat×Value)} (m:Nat) (enc:α→Nat→Value) (hk:h[k]?=some (some (@Chunk.mk Ext.none o n ps))) (kk:N (EndN ss (h.set k (some (@Chunk.mk (famX m enc []) o n ps))) v K)):N (EndN ss h v K):=
 N.mk fun X ρ w x T H hd=>N.out kk X ρ w x T (H.famNil hk) (hd.more (AgreeOn.refl _ _) fun j hj=>hj.set)
theorem qtu {ss:List Piece} {h:Hp} {v:Value} {K:Value→Hp→Prop} {k n:Nat} {o:Bool} {ps:List (Nat×Nat×Value)} (v':Nat×Nat→Value) (hk:h[k]?=some (some (@Chunk.mk Ext.none o n ps))) (hv:∀ q ρ,ρ k=q→den ρ v=den ρ (v' q)) (kk:∀ q,N (EndN ss (h.set k (some (@Chunk.mk (atX q) o n ps))) (v' q) K)):N (EndN ss h v K):=
 N.mk fun X ρ w x T H hd=>N.out (kk (ρ k)) X ρ w x T (H.mark hk) (fun r hr=>by
  have h1:AgreeOn (Fil h) ρ r:=fun i hi=>hr i hi.set
  rw[←hv (ρ k) r (h1 k ⟨_,hk⟩)]
  exact hd r h1)
open Go Go.RowKit
abbrev wandX {α:Type} (Y Z:α→Ext) (q:Nat×Nat):Ext where
 inv:=fun p S w=>∀ (a:α) (T:Nat→Prop) (w':World),(∀ b,S b→w'.heap[b]?=w.heap[b]?)→(∀ b,S b→¬ T b)→¬ T p.1→(Z a).inv q T w'→T q.1→(Y a).inv p (fun b=>S b∨T b) w'
 keep:=fun {p S w w'} h hb=>fun a T w2 h2 hd hp hz hq=>h a T w2 (fun b hb'=>(h2 b hb').trans (hb b hb')) hd hp hz hq
def Lens {α:Type} (Y Z:α→Ext) (q:Nat×Nat) (a:α):Prop:=
 ∀ p S w,(Y a).inv p S w→∃ S0 T:Nat→Prop,(∀ b,S b↔S0 b∨T b)∧(∀ b,S0 b→¬ T b)∧¬ T p.1∧(Z a).inv q T w∧T q.1∧(wandX Y Z q).inv p S0 w
def FreeV (k:Nat) (v:Value):Prop:=∀ r r':Nat→Nat×Nat,(∀ j,j≠k→r j=r' j)→den r v=den r' v
def FreeC (k:Nat) (c:Chunk):Prop:=∀ l,l<c.n→∀ r r':Nat→Nat×Nat,(∀ j,j≠k→r j=r' j)→den1 r (c.f l)=den1 r' (c.f l)
theorem HOK.lensOut {α:Type} {X:Ctx} {ρ:Nat→Nat×Nat} {h:Hp} {w:World} {i k n:Nat} {o:Bool} {ps:List (Nat×Nat×Value)} {Y Z:α→Ext} {q:Nat×Nat} {a:α}
  (H:HOK X ρ h w) (hi:h[i]?=some (some (@Chunk.mk (Y a) o n ps))) (hk:h[k]?=some none) (hL:Lens Y Z q a) :
  ∃ ρ',AgreeOn (Fil h) ρ ρ'∧ρ' k=q∧HOK X ρ' ((h.set i (some (@Chunk.mk (wandX Y Z q) o n ps))).set k (some (@Chunk.mk (Z a) true 0 []))) w:=by
 obtain⟨S,E⟩:=H.ext
 have hil:=(List.getElem?_eq_some_iff.1 hi).1
 have hkl:=(List.getElem?_eq_some_iff.1 hk).1
 have hik:i≠k:=fun e=>by rw[e,hk] at hi;cases hi
 have nf:¬ Fil h k:=fun⟨d,hd⟩=>by rw[hk] at hd;cases hd
 obtain⟨S0,T,hS,hd0,hp,hz,hq,hw⟩:=hL _ _ _ (E.inv i _ hi)
 let ρ':Nat→Nat×Nat:=fun j=>if j=k then q else ρ j
 have ρk:ρ' k=q:=if_pos rfl
 have ρo:∀ j,j≠k→ρ' j=ρ j:=fun j hj=>if_neg hj
 have hag:AgreeOn (Fil h) ρ ρ':=fun j hj=>ρo j fun e=>nf (e▸hj)
 let hh:=(h.set i (some (@Chunk.mk (wandX Y Z q) o n ps))).set k (some (@Chunk.mk (Z a) true 0 []))
 have get:∀ j d,hh[j]?=some (some d)→(j=k∧d = @Chunk.mk (Z a) true 0 [])∨(j=i∧d = @Chunk.mk (wandX Y Z q) o n ps)∨(j≠i∧j≠k∧h[j]?=some (some d)):=fun j d hj=>by
  by_cases ej:k=j
  ·subst ej
   rw[List.getElem?_set_self (by simpa using hkl)] at hj
   exact .inl ⟨rfl,by simpa using hj.symm⟩
  ·rw[List.getElem?_set_ne ej] at hj
   by_cases ei:i=j
   ·subst ei
    rw[List.getElem?_set_self hil] at hj
    exact .inr (.inl ⟨rfl,by simpa using hj.symm⟩)
   ·rw[List.getElem?_set_ne ei] at hj
    exact .inr (.inr ⟨fun e=>ei e.symm,fun e=>ej e.symm,hj⟩)
 have fil:∀ j,Fil h j→Fil hh j:=fun j hj=>by
  obtain⟨d,hd⟩:=hj
  by_cases ej:k=j
  ·exact⟨_,by subst ej;rw[List.getElem?_set_self (by simpa using hkl)]⟩
  ·by_cases ei:i=j
   ·exact⟨_,by subst ei;rw[List.getElem?_set_ne ej,List.getElem?_set_self hil]⟩
   ·exact⟨d,by rw[List.getElem?_set_ne ej,List.getElem?_set_ne ei];exact hd⟩
 have Sq:S i q.1:=(hS _).2 (.inr hq)
 have qi:(ρ i).1≠q.1:=fun e=>hp (e▸hq)
 have qo:∀ j d,j≠i→h[j]?=some (some d)→(ρ j).1≠q.1:=fun j d hj hd=>(E.apart i _ _ j d hi Sq hd hj).1
 refine⟨ρ',hag,ρk,H.evo,fun j hj=>?_,fun j d hj=>?_,fun j d hj l hl=>?_,fun j d hj ho l hl=>?_,fun j d l e hj ho hl hne=>?_,fun j b=>(j=i∧S0 b)∨(j=k∧T b)∨(j≠i∧j≠k∧S j b),fun j d hj=>?_,fun j d b hj hb=>?_,fun j d b l e hj hb hl hne=>?_⟩
 ·obtain⟨hf,hr⟩:=H.base j hj
  exact⟨fil j hf,(hag j hf).trans hr⟩
 ·rcases get j d hj with ⟨rfl,rfl⟩|⟨rfl,rfl⟩|⟨h1,h2,h3⟩
  ·rw[ρk];exact(E.mine i _ _ hi Sq).2.1
  ·rw[ρo _ hik];exact H.lt _ _ hi
  ·rw[ρo _ h2];exact H.lt _ _ h3
 ·rcases get j d hj with ⟨rfl,rfl⟩|⟨rfl,rfl⟩|⟨h1,h2,h3⟩
  ·exact absurd hl (Nat.not_lt_zero l)
  ·rw[ρo _ hik]
   obtain⟨x,hx,hd⟩:=H.cell j _ hi l hl
   exact⟨x,hx,hd.more hag fil⟩
  ·rw[ρo _ h2]
   obtain⟨x,hx,hd⟩:=H.cell j _ h3 l hl
   exact⟨x,hx,hd.more hag fil⟩
 ·rcases get j d hj with ⟨rfl,rfl⟩|⟨rfl,rfl⟩|⟨h1,h2,h3⟩
  ·exact absurd hl (Nat.not_lt_zero l)
  ·rw[ρo _ hik];exact H.own j _ hi ho l hl
  ·rw[ρo _ h2];exact H.own j _ h3 ho l hl
 ·rcases get j d hj with ⟨rfl,rfl⟩|⟨rfl,rfl⟩|⟨h1,h2,h3⟩<;>rcases get l e hl with ⟨rfl,rfl⟩|⟨rfl,rfl⟩|⟨g1,g2,g3⟩
  ·exact absurd rfl hne
  ·rw[ρk,ρo _ hik];exact fun e=>qi e.symm
  ·rw[ρk,ρo _ g2];exact fun e=>qo l _ g1 g3 e.symm
  ·rw[ρk,ρo _ hik];exact qi
  ·exact absurd rfl hne
  ·rw[ρo _ hik,ρo _ g2];exact H.sep _ _ _ _ hi ho g3 hne
  ·rw[ρk,ρo _ h2];exact qo j _ h1 h3
  ·rw[ρo _ h2,ρo _ hik];exact H.sep _ _ _ _ h3 ho hi hne
  ·rw[ρo _ h2,ρo _ g2];exact H.sep _ _ _ _ h3 ho g3 hne
 ·rcases get j d hj with ⟨rfl,rfl⟩|⟨rfl,rfl⟩|⟨h1,h2,h3⟩
  ·have e1:(fun b=>(j=i∧S0 b)∨(j=j∧T b)∨(j≠i∧j≠j∧S j b))=T:=by
    funext b
    exact propext ⟨fun h=>by rcases h with h|h|h;exact absurd h.1.symm hik;exact h.2;exact absurd rfl h.2.1,fun h=>.inr (.inl ⟨rfl,h⟩)⟩
   rw[e1,ρk];exact hz
  ·have e1:(fun b=>(j=j∧S0 b)∨(j=k∧T b)∨(j≠j∧j≠k∧S j b))=S0:=by
    funext b
    exact propext ⟨fun h=>by rcases h with h|h|h;exact h.2;exact absurd h.1 hik;exact absurd rfl h.1,fun h=>.inl ⟨rfl,h⟩⟩
   rw[e1,ρo _ hik];exact hw
  ·have e1:(fun b=>(j=i∧S0 b)∨(j=k∧T b)∨(j≠i∧j≠k∧S j b))=S j:=by
    funext b
    exact propext ⟨fun h=>by rcases h with h|h|h;exact absurd h.1 h1;exact absurd h.1 h2;exact h.2.2,fun h=>.inr (.inr ⟨h1,h2,h⟩)⟩
   rw[e1,ρo _ h2];exact E.inv j _ h3
 ·rcases get j d hj with ⟨rfl,rfl⟩|⟨rfl,rfl⟩|⟨h1,h2,h3⟩
  ·rcases hb with hb|hb|hb
   ·exact absurd hb.1.symm hik
   ·exact⟨.inl rfl,(E.mine i _ _ hi ((hS b).2 (.inr hb.2))).2⟩
   ·exact absurd rfl hb.2.1
  ·rcases hb with hb|hb|hb
   ·rw[ρo _ hik]
    have m:=E.mine _ _ b hi ((hS b).2 (.inl hb.2))
    exact m
   ·exact absurd hb.1 hik
   ·exact absurd rfl hb.1
  ·rcases hb with hb|hb|hb
   ·exact absurd hb.1 h1
   ·exact absurd hb.1 h2
   ·rw[ρo _ h2];exact E.mine _ _ _ h3 hb.2.2
 ·have lk:∀ b,T b→(l=i→(ρ' l).1≠b∧¬ S0 b):=fun b hT e=>by subst e;rw[ρo _ hik];exact⟨fun e=>hp (e▸hT),fun h=>hd0 b h hT⟩
  rcases get j d hj with ⟨rfl,rfl⟩|⟨rfl,rfl⟩|⟨h1,h2,h3⟩<;>rcases get l e hl with ⟨rfl,rfl⟩|⟨rfl,rfl⟩|⟨g1,g2,g3⟩
  ·exact absurd rfl hne
  ·have hT:T b:=by
    rcases hb with hb|hb|hb
    ·exact absurd hb.1.symm hik
    ·exact hb.2
    ·exact absurd rfl hb.2.1
   refine⟨(lk b hT rfl).1,fun h=>?_⟩
   rcases h with h|h|h
   ·exact hd0 b h.2 hT
   ·exact hik h.1
   ·exact h.1 rfl
  ·have hT:T b:=by
    rcases hb with hb|hb|hb
    ·exact absurd hb.1.symm hik
    ·exact hb.2
    ·exact absurd rfl hb.2.1
   obtain⟨a1,a2⟩:=E.apart i _ b l _ hi ((hS b).2 (.inr hT)) g3 g1
   rw[ρo _ g2]
   refine⟨a1,fun h=>?_⟩
   rcases h with h|h|h
   ·exact g1 h.1
   ·exact g2 h.1
   ·exact a2 h.2.2
  ·have hB:S0 b:=by
    rcases hb with hb|hb|hb
    ·exact hb.2
    ·exact absurd hb.1 hik
    ·exact absurd rfl hb.1
   rw[ρk]
   refine⟨fun e=>hd0 b hB (e▸hq),fun h=>?_⟩
   rcases h with h|h|h
   ·exact hik h.1.symm
   ·exact hd0 b hB h.2
   ·exact h.2.1 rfl
  ·exact absurd rfl hne
  ·have hB:S0 b:=by
    rcases hb with hb|hb|hb
    ·exact hb.2
    ·exact absurd hb.1 hik
    ·exact absurd rfl hb.1
   obtain⟨a1,a2⟩:=E.apart _ _ b l _ hi ((hS b).2 (.inl hB)) g3 g1
   rw[ρo _ g2]
   refine⟨a1,fun h=>?_⟩
   rcases h with h|h|h
   ·exact g1 h.1
   ·exact g2 h.1
   ·exact a2 h.2.2
  ·have hB:S j b:=by
    rcases hb with hb|hb|hb
    ·exact absurd hb.1 h1
    ·exact absurd hb.1 h2
    ·exact hb.2.2
   have a2:=(E.apart j _ b i _ h3 hB hi (Ne.symm h1)).2
   rw[ρk]
   refine⟨fun e=>a2 (e▸Sq),fun h=>?_⟩
   rcases h with h|h|h
   ·exact hik h.1.symm
   ·exact a2 ((hS b).2 (.inr h.2))
   ·exact h.2.1 rfl
  ·have hB:S j b:=by
    rcases hb with hb|hb|hb
    ·exact absurd hb.1 h1
    ·exact absurd hb.1 h2
    ·exact hb.2.2
   obtain⟨a1,a2⟩:=E.apart j _ b _ _ h3 hB hi (Ne.symm h1)
   rw[ρo _ hik]
   refine⟨a1,fun h=>?_⟩
   rcases h with h|h|h
   ·exact a2 ((hS b).2 (.inl h.2))
   ·exact hik h.1
   ·exact h.1 rfl
  ·have hB:S j b:=by
    rcases hb with hb|hb|hb
    ·exact absurd hb.1 h1
    ·exact absurd hb.1 h2
    ·exact hb.2.2
   obtain⟨a1,a2⟩:=E.apart j _ b l _ h3 hB g3 hne
   rw[ρo _ g2]
   refine⟨a1,fun h=>?_⟩
   rcases h with h|h|h
   ·exact g1 h.1
   ·exact g2 h.1
   ·exact a2 h.2.2
theorem HOK.merge {X:Ctx} {ρ:Nat→Nat×Nat} {h:Hp} {w:World} {i k n:Nat} {o:Bool} {ps:List (Nat×Nat×Value)} {x y z:Ext}
  (H:HOK X ρ h w) (hi:h[i]?=some (some (@Chunk.mk x o n ps))) (hk:h[k]?=some (some (@Chunk.mk z true 0 []))) (hik:i≠k) (hb:X.n0≤k)
  (hy:∀ S T,x.inv (ρ i) S w→z.inv (ρ k) T w→(∀ b,S b→¬ T b)→¬ T (ρ i).1→y.inv (ρ i) (fun b=>S b∨T b) w)
  (hcell:∀ j c,j≠k→h[j]?=some (some c)→∀ l,l<c.n→∀ v,Den1 (Fil h) ρ (c.f l) v→Den1 (fun j=>j≠k∧Fil h j) ρ (c.f l) v) :
  HOK X ρ ((h.set i (some (@Chunk.mk y o n ps))).set k none) w:=by
 obtain⟨S,E⟩:=H.ext
 have hil:=(List.getElem?_eq_some_iff.1 hi).1
 have hkl:=(List.getElem?_eq_some_iff.1 hk).1
 let hh:=(h.set i (some (@Chunk.mk y o n ps))).set k none
 have get:∀ j d,hh[j]?=some (some d)→(j=i∧d = @Chunk.mk y o n ps)∨(j≠i∧j≠k∧h[j]?=some (some d)):=fun j d hj=>by
  by_cases ej:k=j
  ·subst ej
   rw[List.getElem?_set_self (by simpa using hkl)] at hj
   cases hj
  ·rw[List.getElem?_set_ne ej] at hj
   by_cases ei:i=j
   ·subst ei
    rw[List.getElem?_set_self hil] at hj
    exact .inl ⟨rfl,by simpa using hj.symm⟩
   ·rw[List.getElem?_set_ne ei] at hj
    exact .inr ⟨fun e=>ei e.symm,fun e=>ej e.symm,hj⟩
 have fil:∀ j,j≠k∧Fil h j→Fil hh j:=fun j ⟨hne,hj⟩=>by
  obtain⟨d,hd⟩:=hj
  by_cases ei:i=j
  ·exact⟨_,by subst ei;rw[List.getElem?_set_ne (Ne.symm hne),List.getElem?_set_self hil]⟩
  ·exact⟨d,by rw[List.getElem?_set_ne (Ne.symm hne),List.getElem?_set_ne ei];exact hd⟩
 have den:∀ {v x:Value},Den1 (fun j=>j≠k∧Fil h j) ρ v x→Den1 (Fil hh) ρ v x:=fun hd r hr=>hd r fun j hj=>hr j (fil j hj)
 have dis:∀ b,S i b→¬ S k b:=fun b h1=>(E.apart i _ b k _ hi h1 hk (Ne.symm hik)).2
 have pk:¬ S k (ρ i).1:=fun h1=>(E.apart k _ _ i _ hk h1 hi hik).1 rfl
 refine⟨H.evo,fun j hj=>?_,fun j d hj=>?_,fun j d hj l hl=>?_,fun j d hj ho l hl=>?_,fun j d l e hj ho hl hne=>?_,fun j b=>(j=i∧(S i b∨S k b))∨(j≠i∧j≠k∧S j b),fun j d hj=>?_,fun j d b hj hb=>?_,fun j d b l e hj hb hl hne=>?_⟩
 ·obtain⟨hf,hr⟩:=H.base j hj
  exact⟨fil j ⟨by omega,hf⟩,hr⟩
 ·rcases get j d hj with ⟨rfl,rfl⟩|⟨h1,h2,h3⟩
  ·exact H.lt _ _ hi
  ·exact H.lt _ _ h3
 ·rcases get j d hj with ⟨rfl,rfl⟩|⟨h1,h2,h3⟩
  ·obtain⟨x,hx,hd⟩:=H.cell j _ hi l hl
   exact⟨x,hx,den (hcell j _ hik hi l hl x hd)⟩
  ·obtain⟨x,hx,hd⟩:=H.cell j _ h3 l hl
   exact⟨x,hx,den (hcell j _ h2 h3 l hl x hd)⟩
 ·rcases get j d hj with ⟨rfl,rfl⟩|⟨h1,h2,h3⟩
  ·exact H.own j _ hi ho l hl
  ·exact H.own j _ h3 ho l hl
 ·rcases get j d hj with ⟨rfl,rfl⟩|⟨h1,h2,h3⟩<;>rcases get l e hl with ⟨rfl,rfl⟩|⟨g1,g2,g3⟩
  ·exact absurd rfl hne
  ·exact H.sep _ _ _ _ hi ho g3 hne
  ·exact H.sep _ _ _ _ h3 ho hi hne
  ·exact H.sep _ _ _ _ h3 ho g3 hne
 ·rcases get j d hj with ⟨rfl,rfl⟩|⟨h1,h2,h3⟩
  ·have e1:(fun b=>(j=j∧(S j b∨S k b))∨(j≠j∧j≠k∧S j b))=fun b=>S j b∨S k b:=by
    funext b
    exact propext ⟨fun h=>by rcases h with h|h;exact h.2;exact absurd rfl h.1,fun h=>.inl ⟨rfl,h⟩⟩
   rw[e1];exact hy _ _ (E.inv j _ hi) (E.inv k _ hk) dis pk
  ·have e1:(fun b=>(j=i∧(S i b∨S k b))∨(j≠i∧j≠k∧S j b))=S j:=by
    funext b
    exact propext ⟨fun h=>by rcases h with h|h;exact absurd h.1 h1;exact h.2.2,fun h=>.inr ⟨h1,h2,h⟩⟩
   rw[e1];exact E.inv j _ h3
 ·rcases get j d hj with ⟨rfl,rfl⟩|⟨h1,h2,h3⟩
  ·rcases hb with hb|hb
   ·rcases hb.2 with hb|hb
    ·have m:=E.mine _ _ b hi hb
     exact m
    ·exact⟨.inr fun e=>pk (e▸hb),(E.mine _ _ _ hk hb).2⟩
   ·exact absurd rfl hb.1
  ·rcases hb with hb|hb
   ·exact absurd hb.1 h1
   ·exact E.mine _ _ _ h3 hb.2.2
 ·rcases get j d hj with ⟨rfl,rfl⟩|⟨h1,h2,h3⟩<;>rcases get l e hl with ⟨rfl,rfl⟩|⟨g1,g2,g3⟩
  ·exact absurd rfl hne
  ·have hB:S j b∨S k b:=by
    rcases hb with hb|hb
    ·exact hb.2
    ·exact absurd rfl hb.1
   have a:(ρ l).1≠b∧¬ S l b:=by
    rcases hB with hB|hB
    ·exact E.apart _ _ b l _ hi hB g3 g1
    ·exact E.apart _ _ b l _ hk hB g3 g2
   refine⟨a.1,fun h=>?_⟩
   rcases h with h|h
   ·exact g1 h.1
   ·exact a.2 h.2.2
  ·have hB:S j b:=by
    rcases hb with hb|hb
    ·exact absurd hb.1 h1
    ·exact hb.2.2
   refine⟨(E.apart j _ b _ _ h3 hB hi (Ne.symm h1)).1,fun h=>?_⟩
   rcases h with h|h
   ·rcases h.2 with h|h
    ·exact(E.apart j _ b _ _ h3 hB hi (Ne.symm h1)).2 h
    ·exact(E.apart j _ b _ _ h3 hB hk (Ne.symm h2)).2 h
   ·exact h.1 rfl
  ·have hB:S j b:=by
    rcases hb with hb|hb
    ·exact absurd hb.1 h1
    ·exact hb.2.2
   obtain⟨a1,a2⟩:=E.apart j _ b l _ h3 hB g3 hne
   refine⟨a1,fun h=>?_⟩
   rcases h with h|h
   ·exact g1 h.1
   ·exact a2 h.2.2
section
variable {P:Program}
theorem qjt {X:Ctx} {ρ ρ2:Nat→Nat×Nat} {h H1:Hp} {w:World} {k:Nat} {rest:List (Nat×Chunk)} {h1:Hp} (H:HOK X ρ h w) (hk:h[k]?=some none) (hag:AgreeOn (Fil h) ρ ρ2) (hf:∀ j,Fil h j→Fil H1 j) (e:H1=modH h1 rest) (hfree:∀ m∈rest,FreeC k m.2)
  (hold:∀ j c,j≠k→h1[j]?=some (some c)→∃ c0,h[j]?=some (some c0)∧c.n=c0.n∧∀ l,c.f l=c0.f l) :
  ∀ j c,j≠k→H1[j]?=some (some c)→∀ l,l<c.n→∀ v,Den1 (Fil H1) ρ2 (c.f l) v→Den1 (fun j=>j≠k∧Fil H1 j) ρ2 (c.f l) v:=fun j c hjk hj l hl v hd r hr=>by
 have nf:¬ Fil h k:=fun⟨d,hd⟩=>by rw[hk] at hd;cases hd
 rw[e] at hj
 rcases qkn hj with ⟨m,hm,_,rfl⟩|⟨_,hj⟩
 ·let r2:Nat→Nat×Nat:=fun j=>if j=k then ρ2 k else r j
  have h1:den1 r2 (m.2.f l)=v:=hd r2 fun j hj=>by
   by_cases ejk:j=k
   ·subst ejk;exact if_pos rfl
   ·exact(if_neg ejk).trans (hr j ⟨ejk,hj⟩)
  rw[←h1]
  exact hfree m hm l hl r r2 fun j hj=>(if_neg hj).symm
 ·obtain⟨c0,hc0,hn,hcf⟩:=hold j c hjk hj
  obtain⟨x0,_,hd0⟩:=H.cell j c0 hc0 l (by omega)
  have e1:v=x0:=by rw[←hd ρ2 (AgreeOn.refl _ _),hcf l];exact hd0 ρ2 hag
  rw[e1,hcf l]
  exact hd0 r fun j hj=>(hr j ⟨fun e=>nf (e▸hj),hf j hj⟩).trans (hag j hj)
theorem qpu {F:Nat→Prop} {ρ:Nat→Nat×Nat} {k:Nat} {v x:Value} (hv:FreeV k v) (hd:Den F ρ v x):Den (fun j=>j≠k∧F j) ρ v x:=fun r hr=>by
 let r2:Nat→Nat×Nat:=fun j=>if j=k then ρ k else r j
 have h1:den r2 v=x:=hd r2 fun j hj=>by
  by_cases ejk:j=k
  ·subst ejk;exact if_pos rfl
  ·exact(if_neg ejk).trans (hr j ⟨ejk,hj⟩)
 rw[←h1]
 exact hv r r2 fun j hj=>(if_neg hj).symm
theorem qif {j:Nat}:∀ {ms:List (Nat×Chunk)} {h:Hp},Fil h j→Fil (modH h ms) j
 | [],h,hf=>hf
 | m::ms,h,hf=>qif (ms:=ms) (h:=h.set m.1 (some m.2)) (Fil.set hf)
theorem qdg {α:Type} {g:FuncId} {vs vs':List Value} {h:Hp} {R R':Value→List (Nat×Chunk)→Prop} {Y Z:α→Ext} {q:Nat×Nat} {a:α} (i k:Nat) {o:Bool} {n:Nat} {ps:List (Nat×Nat×Value)}
  (hi:h[i]?=some (some (@Chunk.mk (Y a) o n ps))) (hk:h[k]?=some none) (hL:Lens Y Z q a) (hsel:∀ a,Selfish (Z a)) (hvs:All2 (AtRe q k) vs vs')
  (hc:CallAll P g vs' ((h.set i (some (@Chunk.mk (wandX Y Z q) o n ps))).set k (some (@Chunk.mk (Z a) true 0 []))) R')
  (hR:∀ v ms,R' v ms→∃ a' rest,modH ((h.set i (some (@Chunk.mk (wandX Y Z q) o n ps))).set k (some (@Chunk.mk (Z a) true 0 []))) ms=modH ((h.set i (some (@Chunk.mk (wandX Y Z q) o n ps))).set k (some (@Chunk.mk (Z a') true 0 []))) rest∧(∀ m∈rest,m.1≠i∧m.1≠k∧FreeC k m.2)∧FreeV k v∧R v ((i,@Chunk.mk (Y a') o n ps)::rest)):CallAll P g vs h R:=fun X ρ w xs H hxs=>by
 have hil:=(List.getElem?_eq_some_iff.1 hi).1
 have hkl:=(List.getElem?_eq_some_iff.1 hk).1
 have hik:i≠k:=fun e=>by rw[e,hk] at hi;cases hi
 have nf:¬ Fil h k:=fun⟨d,hd⟩=>by rw[hk] at hd;cases hd
 have hn0:X.n0≤k:=by
  rcases Nat.lt_or_ge k X.n0 with h1|h1
  ·exact absurd (H.base k h1).1 nf
  ·exact h1
 obtain⟨ρ1,hag1,hρ1,H1⟩:=H.lensOut hi hk hL
 have fil1:∀ j,Fil h j→Fil ((h.set i (some (@Chunk.mk (wandX Y Z q) o n ps))).set k (some (@Chunk.mk (Z a) true 0 []))) j:=fun j hj=>(hj.set).set
 have filk:Fil ((h.set i (some (@Chunk.mk (wandX Y Z q) o n ps))).set k (some (@Chunk.mk (Z a) true 0 []))) k:=⟨_,List.getElem?_set_self (by simpa using hkl)⟩
 have hxs1:=qtt filk hρ1 hvs (qf3 hxs fun v _ x hd=>hd.more hag1 fil1)
 have close:∀ x w',(∃ v ms ρ',R' v ms∧AgreeOn (Fil ((h.set i (some (@Chunk.mk (wandX Y Z q) o n ps))).set k (some (@Chunk.mk (Z a) true 0 [])))) ρ1 ρ'∧HOK X ρ' (modH ((h.set i (some (@Chunk.mk (wandX Y Z q) o n ps))).set k (some (@Chunk.mk (Z a) true 0 []))) ms) w'∧Den (Fil (modH ((h.set i (some (@Chunk.mk (wandX Y Z q) o n ps))).set k (some (@Chunk.mk (Z a) true 0 []))) ms)) ρ' v x)→∃ v ms ρ',R v ms∧AgreeOn (Fil h) ρ ρ'∧HOK X ρ' (modH h ms) w'∧Den (Fil (modH h ms)) ρ' v x:=fun x w' ⟨v,ms,ρ2,hr,hag2,H2,hd⟩=>by
  obtain⟨a',rest,he,hfr,hfv,hRR⟩:=hR v ms hr
  rw[he] at H2 hd
  have hag:AgreeOn (Fil h) ρ ρ2:=fun j hj=>(hag2 j (fil1 j hj)).trans (hag1 j hj)
  have hρ2:ρ2 k=q:=(hag2 k filk).trans hρ1
  have nk:k∉rest.map (·.1):=fun hm=>by
   obtain⟨m,hm,e⟩:=List.mem_map.1 hm
   exact(hfr m hm).2.1 e
  have ni:i∉rest.map (·.1):=fun hm=>by
   obtain⟨m,hm,e⟩:=List.mem_map.1 hm
   exact(hfr m hm).1 e
  generalize hbase:(h.set i (some (@Chunk.mk (wandX Y Z q) o n ps))).set k (some (@Chunk.mk (Z a') true 0 []))=hb at H2 hd
  have bi:hb[i]?=some (some (@Chunk.mk (wandX Y Z q) o n ps)):=by rw[←hbase,List.getElem?_set_ne (Ne.symm hik),List.getElem?_set_self hil]
  have bk:hb[k]?=some (some (@Chunk.mk (Z a') true 0 [])):=by rw[←hbase,List.getElem?_set_self (by simpa using hkl)]
  have bo:∀ j,j≠i→j≠k→hb[j]?=h[j]?:=fun j h1 h2=>by rw[←hbase,List.getElem?_set_ne (Ne.symm h2),List.getElem?_set_ne (Ne.symm h1)]
  have Hi:(modH hb rest)[i]?=some (some (@Chunk.mk (wandX Y Z q) o n ps)):=(qbv ni).trans bi
  have Hk:(modH hb rest)[k]?=some (some (@Chunk.mk (Z a') true 0 [])):=(qbv nk).trans bk
  have filb:∀ j,Fil h j→Fil (modH hb rest) j:=fun j hj=>qif (by
   obtain⟨d,hd⟩:=hj
   by_cases ei:j=i
   ·subst ei;exact⟨_,bi⟩
   ·by_cases ek:j=k
    ·subst ek;exact⟨_,bk⟩
    ·exact⟨d,(bo j ei ek).trans hd⟩)
  have H3:=H2.merge (y:=Y a') Hi Hk hik hn0 (fun S T hx hz hdis hp=>hx a' T w' (fun _ _=>rfl) hdis hp (by rw[hρ2] at hz;exact hz) (by have:=hsel a' _ _ _ hz;rw[hρ2] at this;exact this)) (qjt H hk hag filb rfl (fun m hm=>(hfr m hm).2.2) fun j c hjk hj=>by
   by_cases ei:j=i
   ·subst ei
    rw[bi] at hj
    obtain rfl:=Option.some.inj (Option.some.inj hj)
    exact⟨_,hi,rfl,fun _=>rfl⟩
   ·exact⟨c,(bo j ei hjk).symm.trans hj,rfl,fun _=>rfl⟩)
  have eq:((modH hb rest).set i (some (@Chunk.mk (Y a') o n ps))).set k none=modH h ((i,@Chunk.mk (Y a') o n ps)::rest):=by
   have hbl:hb.length=h.length:=by rw[←hbase,List.length_set,List.length_set]
   refine List.ext_getElem? fun j=>?_
   show _=(modH (h.set i (some (@Chunk.mk (Y a') o n ps))) rest)[j]?
   by_cases ek:k=j
   ·subst ek
    rw[List.getElem?_set_self (by rw[List.length_set,qf4,hbl];exact hkl),qbv nk,List.getElem?_set_ne hik,hk]
   ·rw[List.getElem?_set_ne ek]
    by_cases ei:i=j
    ·subst ei
     rw[List.getElem?_set_self (by rw[qf4,hbl];exact hil),qbv ni,List.getElem?_set_self hil]
    ·rw[List.getElem?_set_ne ei]
     exact qfz (by rw[bo j (Ne.symm ei) (Ne.symm ek),List.getElem?_set_ne ei])
  rw[eq] at H3
  refine⟨v,_,ρ2,hRR,hag,H3,?_⟩
  rw[←eq]
  refine(qpu hfv hd).more (AgreeOn.refl _ _) fun j ⟨hne,d,hd⟩=>?_
  by_cases ei:i=j
  ·exact⟨@Chunk.mk (Y a') o n ps,by subst ei;rw[List.getElem?_set_ne (Ne.symm hne),List.getElem?_set_self (List.getElem?_eq_some_iff.1 hd).1]⟩
  ·exact⟨d,by rw[List.getElem?_set_ne (Ne.symm hne),List.getElem?_set_ne ei];exact hd⟩
 rcases hc X ρ1 w xs H1 hxs1 with ⟨x,w',hr,hq⟩|⟨hr,hcl⟩
 ·exact .inl ⟨x,w',hr,close x w' hq⟩
 ·exact .inr ⟨hr,hcl.mono fun e w' ⟨x,he,hq⟩=>⟨x,he,close x w' hq⟩⟩
theorem qtv {α:Type} {g:FuncId} {vs:List Value} {h:Hp} {R R':Value→List (Nat×Chunk)→Prop} {Y0:Ext} {Y:Nat×Nat→α→Ext} {Z:α→Ext} (i k:Nat) {o:Bool} {n:Nat} {ps:List (Nat×Nat×Value)}
  (hi:h[i]?=some (some (@Chunk.mk Y0 o n ps))) (hk:h[k]?=some none) (hsel:∀ a,Selfish (Z a))
  (hA:∀ p q S T a w,Y0.inv p S w→(Z a).inv q T w→T q.1→(∀ b,S b→¬ T b)→¬ T p.1→(Y q a).inv p (fun b=>S b∨T b) w)
  (hc:CallAll P g vs h R')
  (hR:∀ v ms,R' v ms→R v ms∨∃ (a:α) (rest:List (Nat×Chunk)) (v':Nat×Nat→Value),modH h ms=modH (h.set k (some (@Chunk.mk (Z a) true 0 []))) rest∧(∀ m∈rest,m.1≠i∧m.1≠k∧FreeC k m.2)∧(∀ r,den r v=den r (v' (r k)))∧(∀ q,FreeV k (v' q))∧∀ q,R (v' q) ((i,@Chunk.mk (Y q a) o n ps)::rest)):CallAll P g vs h R:=fun X ρ w xs H hxs=>by
 have hil:=(List.getElem?_eq_some_iff.1 hi).1
 have hkl:=(List.getElem?_eq_some_iff.1 hk).1
 have hik:i≠k:=fun e=>by rw[e,hk] at hi;cases hi
 have nf:¬ Fil h k:=fun⟨d,hd⟩=>by rw[hk] at hd;cases hd
 have hn0:X.n0≤k:=by
  rcases Nat.lt_or_ge k X.n0 with h1|h1
  ·exact absurd (H.base k h1).1 nf
  ·exact h1
 have close:∀ x w',(∃ v ms ρ',R' v ms∧AgreeOn (Fil h) ρ ρ'∧HOK X ρ' (modH h ms) w'∧Den (Fil (modH h ms)) ρ' v x)→∃ v ms ρ',R v ms∧AgreeOn (Fil h) ρ ρ'∧HOK X ρ' (modH h ms) w'∧Den (Fil (modH h ms)) ρ' v x:=fun x w' ⟨v,ms,ρ2,hr,hag,H2,hd⟩=>by
  rcases hR v ms hr with h0|⟨a',rest,v',he,hfr,hvv,hfv,hRR⟩
  ·exact⟨v,ms,ρ2,h0,hag,H2,hd⟩
  rw[he] at H2 hd
  have nk:k∉rest.map (·.1):=fun hm=>by
   obtain⟨m,hm,e⟩:=List.mem_map.1 hm
   exact(hfr m hm).2.1 e
  have ni:i∉rest.map (·.1):=fun hm=>by
   obtain⟨m,hm,e⟩:=List.mem_map.1 hm
   exact(hfr m hm).1 e
  generalize hbase:h.set k (some (@Chunk.mk (Z a') true 0 []))=hb at H2 hd
  have bi:hb[i]?=some (some (@Chunk.mk Y0 o n ps)):=by rw[←hbase,List.getElem?_set_ne (Ne.symm hik),hi]
  have bk:hb[k]?=some (some (@Chunk.mk (Z a') true 0 [])):=by rw[←hbase,List.getElem?_set_self hkl]
  have bo:∀ j,j≠k→hb[j]?=h[j]?:=fun j h2=>by rw[←hbase,List.getElem?_set_ne (Ne.symm h2)]
  have Hi:(modH hb rest)[i]?=some (some (@Chunk.mk Y0 o n ps)):=(qbv ni).trans bi
  have Hk:(modH hb rest)[k]?=some (some (@Chunk.mk (Z a') true 0 [])):=(qbv nk).trans bk
  have filb:∀ j,Fil h j→Fil (modH hb rest) j:=fun j hj=>qif (by
   obtain⟨d,hd⟩:=hj
   by_cases ek:j=k
   ·subst ek;exact⟨_,bk⟩
   ·exact⟨d,(bo j ek).trans hd⟩)
  have H3:=H2.merge (y:=Y (ρ2 k) a') Hi Hk hik hn0 (fun S T hx hz hdis hp=>hA _ _ S T a' w' hx hz (hsel a' _ _ _ hz) hdis hp) (qjt H hk hag filb rfl (fun m hm=>(hfr m hm).2.2) fun j c hjk hj=>⟨c,(bo j hjk).symm.trans hj,rfl,fun _=>rfl⟩)
  have eq:((modH hb rest).set i (some (@Chunk.mk (Y (ρ2 k) a') o n ps))).set k none=modH h ((i,@Chunk.mk (Y (ρ2 k) a') o n ps)::rest):=by
   have hbl:hb.length=h.length:=by rw[←hbase,List.length_set]
   refine List.ext_getElem? fun j=>?_
   show _=(modH (h.set i (some (@Chunk.mk (Y (ρ2 k) a') o n ps))) rest)[j]?
   by_cases ek:k=j
   ·subst ek
    rw[List.getElem?_set_self (by rw[List.length_set,qf4,hbl];exact hkl),qbv nk,List.getElem?_set_ne hik,hk]
   ·rw[List.getElem?_set_ne ek]
    by_cases ei:i=j
    ·subst ei
     rw[List.getElem?_set_self (by rw[qf4,hbl];exact hil),qbv ni,List.getElem?_set_self hil]
    ·rw[List.getElem?_set_ne ei]
     exact qfz (by rw[bo j (Ne.symm ek),List.getElem?_set_ne ei])
  rw[eq] at H3
  refine⟨v' (ρ2 k),_,ρ2,hRR _,hag,H3,?_⟩
  rw[←eq]
  have hd2:Den (Fil (modH hb rest)) ρ2 (v' (ρ2 k)) x:=fun r hr=>by
   have e1:r k=ρ2 k:=hr k ⟨_,Hk⟩
   rw[←hd r hr,hvv r,e1]
  refine(qpu (hfv _) hd2).more (AgreeOn.refl _ _) fun j ⟨hne,d,hd⟩=>?_
  by_cases ei:i=j
  ·exact⟨@Chunk.mk (Y (ρ2 k) a') o n ps,by subst ei;rw[List.getElem?_set_ne (Ne.symm hne),List.getElem?_set_self (List.getElem?_eq_some_iff.1 hd).1]⟩
  ·exact⟨d,by rw[List.getElem?_set_ne (Ne.symm hne),List.getElem?_set_ne ei];exact hd⟩
 rcases hc X ρ w xs H hxs with ⟨x,w',hr,hq⟩|⟨hr,hcl⟩
 ·exact .inl ⟨x,w',hr,close x w' hq⟩
 ·exact .inr ⟨hr,hcl.mono fun e w' ⟨x,he,hq⟩=>⟨x,he,close x w' hq⟩⟩
end
def upd {α:Type} (s:Nat→α) (i:Nat) (a:α) (j:Nat):α:=if j=i then a else s j
theorem qb7 {α:Type} (s:Nat→α) (i:Nat) (a:α):upd s i a i=a:=if_pos rfl
theorem qbz {α:Type} (s:Nat→α) {i j:Nat} (a:α) (h:j≠i):upd s i a j=s j:=if_neg h
theorem qco {α:Type} (s:Nat→α) (i:Nat):upd s i (s i)=s:=funext fun j=>by
 by_cases h:j=i
 ·subst h;exact if_pos rfl
 ·exact if_neg h
structure ManyT {α:Type} (Z:α→Ext) (n:Nat) (g:Nat→Nat×Nat) (s:Nat→α) (S:Nat→Prop) (T:Nat→Nat→Prop) (w:World):Prop where
 sub:∀ i b,i<n→T i b→S b
 inv:∀ i,i<n→(Z (s i)).inv (g i) (T i) w
 blk:∀ i,i<n→T i (g i).1
 sep:∀ i j b,i<n→j<n→i≠j→T i b→¬ T j b
abbrev manyX {α:Type} (Z:α→Ext) (n:Nat) (g:Nat→Nat×Nat) (s:Nat→α):Ext where
 inv:=fun p S w=>¬ S p.1∧(n=0→∀ b,¬ S b)∧∃ T,ManyT Z n g s S T w
 keep:=fun {p S w w'} h hb=>⟨h.1,h.2.1,by
  obtain⟨T,h⟩:=h.2.2
  exact⟨T,h.sub,fun i hi=>(Z (s i)).keep (h.inv i hi) fun b hT=>hb b (h.sub i b hi hT),h.blk,h.sep⟩⟩
theorem q3y {x y:Ext} (h:∀ p S w,x.inv p S w↔y.inv p S w):x=y:=by
 cases x with
 | mk i k=>cases y with
  | mk i2 k2=>
   have:i=i2:=funext fun p=>funext fun S=>funext fun w=>propext (h p S w)
   subst this;rfl
theorem qrc {α:Type} (Z:α→Ext) (g:Nat→Nat×Nat) (s:Nat→α):manyX Z 0 g s=Ext.none:=q3y fun p S w=>
 ⟨fun h=>h.2.1 rfl,fun h=>⟨h _,fun _=>h,fun _ _=>False,⟨fun i b hi=>absurd hi (Nat.not_lt_zero i),fun i hi=>absurd hi (Nat.not_lt_zero i),fun i hi=>absurd hi (Nat.not_lt_zero i),fun i j b hi=>absurd hi (Nat.not_lt_zero i)⟩⟩⟩
open Classical in
theorem qdh {α:Type} (Z:α→Ext) {n i:Nat} (g:Nat→Nat×Nat) (s:Nat→α) (hi:i<n) (a:α) (ha:s i=a):Lens (fun a=>manyX Z n g (upd s i a)) Z (g i) a:=fun p S w h=>by
 obtain⟨hp,hn0,T,h⟩:=h
 have h:ManyT Z n g (upd s i a) S T w:=h
 rw[←ha,qco] at h
 refine⟨fun b=>S b∧¬ T i b,T i,fun b=>⟨fun hb=>?_,fun hb=>?_⟩,fun b hb=>hb.2,fun hT=>hp (h.sub i _ hi hT),by rw[←ha];exact h.inv i hi,h.blk i hi,fun a2 T2 w2 h2 hd hp2 hz hq=>⟨fun hb=>?_,fun e=>by omega,fun j=>if j=i then T2 else T j,fun j b hj hT=>?_,fun j hj=>?_,fun j hj=>?_,fun j l b hj hl hne hT=>?_⟩⟩
 ·by_cases hT:T i b
  ·exact .inr hT
  ·exact .inl ⟨hb,hT⟩
 ·rcases hb with hb|hT
  ·exact hb.1
  ·exact h.sub i b hi hT
 ·rcases hb with hb|hT
  ·exact hp hb.1
  ·exact hp2 hT
 ·by_cases e:j=i
  ·rw[if_pos e] at hT;exact .inr hT
  ·rw[if_neg e] at hT;exact .inl ⟨h.sub j b hj hT,h.sep j i b hj hi e hT⟩
 ·by_cases e:j=i
  ·subst e
   rw[qb7]
   simp only[if_pos]
   exact hz
  ·rw[qbz _ _ e]
   simp only[if_neg e]
   exact(Z (s j)).keep (h.inv j hj) fun b hT=>h2 b ⟨h.sub j b hj hT,h.sep j i b hj hi e hT⟩
 ·by_cases e:j=i
  ·subst e;simp only[if_pos];exact hq
  ·simp only[if_neg e];exact h.blk j hj
 ·by_cases e:j=i<;>by_cases e':l=i
  ·exact absurd (e.trans e'.symm) hne
  ·rw[if_pos e] at hT;rw[if_neg e']
   exact fun hT'=>hd b ⟨h.sub l b hl hT',h.sep l i b hl hi e' hT'⟩ hT
  ·rw[if_neg e] at hT;rw[if_pos e']
   exact hd b ⟨h.sub j b hj hT,h.sep j i b hj hi e hT⟩
  ·rw[if_neg e] at hT;rw[if_neg e']
   exact h.sep j l b hj hl hne hT
theorem qw9 {α:Type} (Z:α→Ext) {n m n2:Nat} (g:Nat→Nat×Nat) (s:Nat→α) (hm:m<n2) (hn:∀ j,j<n2→j≠m→j<n) (p q:Nat×Nat) (S T:Nat→Prop) (a:α) (w:World) (h:(manyX Z n g s).inv p S w) (hz:(Z a).inv q T w) (hq:T q.1) (hd:∀ b,S b→¬ T b) (hp:¬ T p.1):(manyX Z n2 (upd g m q) (upd s m a)).inv p (fun b=>S b∨T b) w:=by
 obtain⟨hp0,hn0,U,h⟩:=h
 refine⟨fun hb=>hb.elim hp0 hp,fun e=>by omega,fun j=>if j=m then T else U j,fun j b hj hT=>?_,fun j hj=>?_,fun j hj=>?_,fun j l b hj hl hne hT=>?_⟩
 ·by_cases e:j=m
  ·rw[if_pos e] at hT;exact .inr hT
  ·rw[if_neg e] at hT;exact .inl (h.sub j b (hn j hj e) hT)
 ·by_cases e:j=m
  ·subst e
   rw[qb7,qb7]
   simp only[if_pos]
   exact hz
  ·rw[qbz _ _ e,qbz _ _ e]
   simp only[if_neg e]
   exact h.inv j (hn j hj e)
 ·by_cases e:j=m
  ·subst e;simp only[qb7,if_pos];exact hq
  ·simp only[if_neg e,qbz _ _ e];exact h.blk j (hn j hj e)
 ·by_cases e:j=m<;>by_cases e':l=m
  ·exact absurd (e.trans e'.symm) hne
  ·rw[if_pos e] at hT;rw[if_neg e']
   exact fun hU=>hd b (h.sub l b (hn l hl e') hU) hT
  ·rw[if_neg e] at hT;rw[if_pos e']
   exact hd b (h.sub j b (hn j hj e) hT)
  ·rw[if_neg e] at hT;rw[if_neg e']
   exact h.sep j l b (hn j hj e) (hn l hl e') hne hT
open Go Go.RowKit
@[reducible] def z0:ZW:=⟨none⟩
abbrev rowX (oe:Option Rw):Ext:=match oe with
 | none=>Ext.none
 | some r=>@rvX z0 [r]
section
variable {P:Program} {G:Tys} {o:Oper} {st:St}
end
structure PrOK (t:TypeId) (oe:Option Rw) (g:Nat→Nat×Nat) (k:Nat):Prop where
 n:rowN oe=k
 xs:rowXs oe=(List.range k).map fun i=>realP (g i)
 ty:∀ r,oe=some r→r.e=t∧r.k=1∧r.w=true
theorem PrOK.nil {t:TypeId} {g:Nat→Nat×Nat}:PrOK t none g 0:=⟨rfl,rfl,(fun r h=>by cases h)⟩
theorem PrOK.grew {t:TypeId} {oe oe':Option Rw} {g:Nat→Nat×Nat} {k:Nat} {q:Nat×Nat} (h:PrOK t oe g k) (hg:Grew oe oe' t 1 1 [realP q]):PrOK t oe' (upd g k q) (k+1):=by
 refine⟨by rw[hg.n,h.n],?_,hg.ty⟩
 rw[hg.xs,h.xs,List.range_succ,List.map_append]
 congr 1
 ·refine List.map_congr_left fun i hi=>?_
  rw[qbz _ _ (by have:=List.mem_range.1 hi;omega)]
 ·rw[List.map_singleton,qb7]
open Go
noncomputable def tys:Tys:=[(0,Tryz.t0,Tryz.t0.desc),
 (1,Tryz.t1,Tryz.t1.desc),
 (2,Tryz.t2,Tryz.t2.desc),
 (3,Tryz.t3,Tryz.t3.desc),
 (4,Tryz.t4,Tryz.t4.desc),
 (5,Tryz.t5,Tryz.t5.desc),
 (6,Tryz.t6,Tryz.t5.desc),
 (7,Tryz.t7,Tryz.t7.desc),
 (8,Tryz.t8,Tryz.t7.desc),
 (9,Tryz.t9,Tryz.t9.desc),
 (10,Tryz.t10,Tryz.t9.desc),
 (11,Tryz.t11,Tryz.t9.desc),
 (12,Tryz.t12,Tryz.t12.desc),
 (13,Tryz.t13,Tryz.t13.desc),
 (14,Tryz.t14,Tryz.t13.desc),
 (15,Tryz.t15,Tryz.t15.desc),
 (16,Tryz.t16,Tryz.t16.desc),
 (17,Tryz.t17,Tryz.t17.desc),
 (18,Tryz.t18,Tryz.t18.desc),
 (19,Tryz.t19,Tryz.t18.desc),
 (20,Tryz.t20,Tryz.t20.desc),
 (21,Tryz.t21,Tryz.t21.desc),
 (22,Tryz.t22,Tryz.t22.desc),
 (23,Tryz.t23,Tryz.t23.desc),
 (24,Tryz.t24,Tryz.t24.desc),
 (25,Tryz.t25,Tryz.t25.desc),
 (26,Tryz.t26,Tryz.t25.desc),
 (27,Tryz.t27,Tryz.t27.desc),
 (28,Tryz.t28,Tryz.t28.desc),
 (29,Tryz.t29,Tryz.t3.desc),
 (30,Tryz.t30,Tryz.t30.desc),
 (31,Tryz.t31,Tryz.t31.desc),
 (32,Tryz.t32,Tryz.t32.desc),
 (33,Tryz.t33,Tryz.t33.desc),
 (34,Tryz.t34,Tryz.t33.desc),
 (35,Tryz.t35,Tryz.t35.desc),
 (36,Tryz.t36,Tryz.t35.desc),
 (37,Tryz.t37,Tryz.t37.desc),
 (38,Tryz.t38,Tryz.t37.desc),
 (39,Tryz.t39,Tryz.t39.desc),
 (40,Tryz.t40,Tryz.t40.desc),
 (41,Tryz.t41,Tryz.t40.desc),
 (42,Tryz.t42,Tryz.t42.desc),
 (43,Tryz.t43,Tryz.t43.desc),
 (44,Tryz.t44,Tryz.t44.desc),
 (45,Tryz.t45,Tryz.t44.desc),
 (46,Tryz.t46,Tryz.t46.desc),
 (47,Tryz.t47,Tryz.t47.desc),
 (48,Tryz.t48,Tryz.t48.desc),
 (49,Tryz.t49,Tryz.t49.desc),
 (50,Tryz.t50,Tryz.t50.desc),
 (51,Tryz.t51,Tryz.t51.desc),
 (52,Tryz.t52,Tryz.t52.desc),
 (53,Tryz.t53,Tryz.t53.desc),
 (54,Tryz.t54,Tryz.t54.desc),
 (55,Tryz.t55,Tryz.t55.desc),
 (56,Tryz.t56,Tryz.t56.desc),
 (57,Tryz.t57,Tryz.t57.desc),
 (58,Tryz.t58,Tryz.t58.desc),
 (59,Tryz.t59,Tryz.t59.desc),
 (60,Tryz.t60,Tryz.t60.desc),
 (61,Tryz.t61,Tryz.t61.desc),
 (62,Tryz.t62,Tryz.t62.desc),
 (63,Tryz.t63,Tryz.t63.desc),
 (64,Tryz.t64,Tryz.t64.desc),
 (65,Tryz.t65,Tryz.t65.desc),
 (66,Tryz.t66,Tryz.t65.desc),
 (67,Tryz.t67,Tryz.t67.desc),
 (68,Tryz.t68,Tryz.t68.desc),
 (69,Tryz.t69,Tryz.t69.desc),
 (70,Tryz.t70,Tryz.t70.desc),
 (71,Tryz.t71,Tryz.t71.desc),
 (72,Tryz.t72,Tryz.t72.desc),
 (73,Tryz.t73,Tryz.t73.desc),
 (74,Tryz.t74,Tryz.t74.desc),
 (75,Tryz.t75,Tryz.t75.desc),
 (76,Tryz.t76,Tryz.t76.desc),
 (77,Tryz.t77,Tryz.t77.desc),
 (78,Tryz.t78,Tryz.t78.desc),
 (79,Tryz.t79,Tryz.t79.desc),
 (80,Tryz.t80,Tryz.t80.desc),
 (81,Tryz.t81,Tryz.t80.desc),
 (82,Tryz.t82,Tryz.t82.desc),
 (83,Tryz.t83,Tryz.t83.desc),
 (84,Tryz.t84,Tryz.t84.desc),
 (85,Tryz.t85,Tryz.t84.desc),
 (86,Tryz.t86,Tryz.t86.desc),
 (87,Tryz.t87,Tryz.t87.desc),
 (88,Tryz.t88,Tryz.t88.desc),
 (89,Tryz.t89,Tryz.t88.desc),
 (90,Tryz.t90,Tryz.t90.desc),
 (91,Tryz.t91,Tryz.t91.desc),
 (92,Tryz.t92,Tryz.t91.desc),
 (93,Tryz.t93,Tryz.t93.desc),
 (94,Tryz.t94,Tryz.t94.desc),
 (95,Tryz.t95,Tryz.t95.desc),
 (96,Tryz.t96,Tryz.t96.desc),
 (97,Tryz.t97,Tryz.t97.desc),
 (98,Tryz.t98,Tryz.t98.desc),
 (99,Tryz.t99,Tryz.t99.desc),
 (100,Tryz.t100,Tryz.t100.desc),
 (101,Tryz.t101,Tryz.t101.desc),
 (102,Tryz.t102,Tryz.t102.desc),
 (103,Tryz.t103,Tryz.t103.desc),
 (104,Tryz.t104,Tryz.t104.desc),
 (105,Tryz.t105,Tryz.t105.desc),
 (106,Tryz.t106,Tryz.t106.desc),
 (107,Tryz.t107,Tryz.t107.desc),
 (108,Tryz.t108,Tryz.t108.desc),
 (109,Tryz.t109,Tryz.t109.desc),
 (110,Tryz.t110,Tryz.t110.desc),
 (111,Tryz.t111,Tryz.t110.desc),
 (112,Tryz.t112,Tryz.t112.desc),
 (113,Tryz.t113,Tryz.t113.desc),
 (114,Tryz.t114,Tryz.t114.desc),
 (115,Tryz.t115,Tryz.t115.desc),
 (116,Tryz.t116,Tryz.t116.desc),
 (117,Tryz.t117,Tryz.t117.desc),
 (118,Tryz.t118,Tryz.t117.desc),
 (119,Tryz.t119,Tryz.t119.desc),
 (120,Tryz.t120,Tryz.t120.desc),
 (121,Tryz.t121,Tryz.t121.desc),
 (122,Tryz.t122,Tryz.t121.desc),
 (123,Tryz.t123,Tryz.t123.desc),
 (124,Tryz.t124,Tryz.t124.desc),
 (125,Tryz.t125,Tryz.t125.desc),
 (126,Tryz.t126,Tryz.t126.desc),
 (127,Tryz.t127,Tryz.t126.desc),
 (128,Tryz.t128,Tryz.t128.desc),
 (129,Tryz.t129,Tryz.t129.desc),
 (130,Tryz.t130,Tryz.t130.desc),
 (131,Tryz.t131,Tryz.t131.desc),
 (132,Tryz.t132,Tryz.t132.desc),
 (133,Tryz.t133,Tryz.t133.desc),
 (134,Tryz.t134,Tryz.t133.desc),
 (135,Tryz.t135,Tryz.t135.desc),
 (136,Tryz.t136,Tryz.t135.desc),
 (137,Tryz.t137,Tryz.t137.desc),
 (138,Tryz.t138,Tryz.t138.desc),
 (139,Tryz.t139,Tryz.t138.desc),
 (140,Tryz.t140,Tryz.t140.desc),
 (141,Tryz.t141,Tryz.t140.desc),
 (142,Tryz.t142,Tryz.t142.desc),
 (143,Tryz.t143,Tryz.t142.desc),
 (144,Tryz.t144,Tryz.t144.desc),
 (145,Tryz.t145,Tryz.t144.desc),
 (146,Tryz.t146,Tryz.t146.desc),
 (147,Tryz.t147,Tryz.t147.desc),
 (148,Tryz.t148,Tryz.t148.desc),
 (149,Tryz.t149,Tryz.t149.desc),
 (150,Tryz.t150,Tryz.t150.desc),
 (151,Tryz.t151,Tryz.t151.desc),
 (152,Tryz.t152,Tryz.t152.desc),
 (153,Tryz.t153,Tryz.t152.desc),
 (154,Tryz.t154,Tryz.t154.desc),
 (155,Tryz.t155,Tryz.t154.desc),
 (156,Tryz.t156,Tryz.t156.desc),
 (157,Tryz.t157,Tryz.t157.desc),
 (158,Tryz.t158,Tryz.t158.desc),
 (159,Tryz.t159,Tryz.t159.desc),
 (160,Tryz.t160,Tryz.t160.desc),
 (161,Tryz.t161,Tryz.t161.desc),
 (162,Tryz.t162,Tryz.t162.desc),
 (163,Tryz.t163,Tryz.t162.desc),
 (164,Tryz.t164,Tryz.t164.desc),
 (165,Tryz.t165,Tryz.t165.desc),
 (166,Tryz.t166,Tryz.t166.desc),
 (167,Tryz.t167,Tryz.t167.desc),
 (168,Tryz.t168,Tryz.t168.desc),
 (169,Tryz.t169,Tryz.t169.desc),
 (170,Tryz.t170,Tryz.t170.desc),
 (171,Tryz.t171,Tryz.t171.desc),
 (172,Tryz.t172,Tryz.t172.desc),
 (173,Tryz.t173,Tryz.t173.desc),
 (174,Tryz.t174,Tryz.t174.desc),
 (175,Tryz.t175,Tryz.t175.desc),
 (176,Tryz.t176,Tryz.t176.desc),
 (177,Tryz.t177,Tryz.t177.desc),
 (178,Tryz.t178,Tryz.t178.desc),
 (179,Tryz.t179,Tryz.t179.desc),
 (180,Tryz.t180,Tryz.t180.desc),
 (181,Tryz.t181,Tryz.t181.desc),
 (182,Tryz.t182,Tryz.t182.desc),
 (183,Tryz.t183,Tryz.t183.desc),
 (184,Tryz.t184,Tryz.t184.desc),
 (185,Tryz.t185,Tryz.t185.desc),
 (186,Tryz.t186,Tryz.t186.desc),
 (187,Tryz.t187,Tryz.t187.desc),
 (188,Tryz.t188,Tryz.t188.desc),
 (189,Tryz.t189,Tryz.t189.desc),
 (190,Tryz.t190,Tryz.t190.desc),
 (191,Tryz.t191,Tryz.t191.desc),
 (192,Tryz.t192,Tryz.t192.desc),
 (193,Tryz.t193,Tryz.t193.desc),
 (194,Tryz.t194,Tryz.t194.desc),
 (195,Tryz.t195,Tryz.t195.desc),
 (196,Tryz.t196,Tryz.t196.desc),
 (197,Tryz.t197,Tryz.t197.desc),
 (198,Tryz.t198,Tryz.t198.desc),
 (199,Tryz.t199,Tryz.t199.desc),
 (200,Tryz.t200,Tryz.t200.desc),
 (201,Tryz.t201,Tryz.t201.desc),
 (202,Tryz.t202,Tryz.t202.desc),
 (203,Tryz.t203,Tryz.t203.desc),
 (204,Tryz.t204,Tryz.t203.desc),
 (205,Tryz.t205,Tryz.t205.desc),
 (206,Tryz.t206,Tryz.t206.desc),
 (207,Tryz.t207,Tryz.t207.desc),
 (208,Tryz.t208,Tryz.t208.desc),
 (209,Tryz.t209,Tryz.t209.desc),
 (210,Tryz.t210,Tryz.t210.desc),
 (211,Tryz.t211,Tryz.t211.desc),
 (212,Tryz.t212,Tryz.t212.desc),
 (213,Tryz.t213,Tryz.t213.desc),
 (214,Tryz.t214,Tryz.t214.desc),
 (215,Tryz.t215,Tryz.t215.desc),
 (216,Tryz.t216,Tryz.t216.desc),
 (217,Tryz.t217,Tryz.t217.desc),
 (218,Tryz.t218,Tryz.t218.desc),
 (219,Tryz.t219,Tryz.t219.desc),
 (220,Tryz.t220,Tryz.t220.desc),
 (221,Tryz.t221,Tryz.t221.desc),
 (222,Tryz.t222,Tryz.t222.desc),
 (223,Tryz.t223,Tryz.t223.desc),
 (224,Tryz.t224,Tryz.t223.desc),
 (225,Tryz.t225,Tryz.t225.desc),
 (226,Tryz.t226,Tryz.t226.desc),
 (227,Tryz.t227,Tryz.t226.desc),
 (228,Tryz.t228,Tryz.t228.desc),
 (229,Tryz.t229,Tryz.t229.desc),
 (230,Tryz.t230,Tryz.t230.desc),
 (231,Tryz.t231,Tryz.t231.desc),
 (232,Tryz.t232,Tryz.t232.desc),
 (233,Tryz.t233,Tryz.t233.desc),
 (234,Tryz.t234,Tryz.t234.desc),
 (235,Tryz.t235,Tryz.t3.desc),
 (236,Tryz.t236,Tryz.t236.desc),
 (237,Tryz.t237,Tryz.t237.desc),
 (238,Tryz.t238,Tryz.t238.desc),
 (239,Tryz.t239,Tryz.t239.desc),
 (240,Tryz.t240,Tryz.t240.desc),
 (241,Tryz.t241,Tryz.t241.desc),
 (242,Tryz.t242,Tryz.t242.desc),
 (243,Tryz.t243,Tryz.t243.desc),
 (244,Tryz.t244,Tryz.t244.desc),
 (245,Tryz.t245,Tryz.t245.desc),
 (246,Tryz.t246,Tryz.t246.desc),
 (247,Tryz.t247,Tryz.t247.desc),
 (248,Tryz.t248,Tryz.t248.desc),
 (249,Tryz.t249,Tryz.t249.desc),
 (250,Tryz.t250,Tryz.t250.desc),
 (251,Tryz.t251,Tryz.t251.desc),
 (252,Tryz.t252,Tryz.t252.desc),
 (253,Tryz.t253,Tryz.t253.desc),
 (254,Tryz.t254,Tryz.t254.desc),
 (255,Tryz.t255,Tryz.t255.desc),
 (256,Tryz.t256,Tryz.t256.desc),
 (257,Tryz.t257,Tryz.t257.desc),
 (258,Tryz.t258,Tryz.t258.desc),
 (259,Tryz.t259,Tryz.t259.desc),
 (260,Tryz.t260,Tryz.t260.desc),
 (261,Tryz.t261,Tryz.t261.desc),
 (262,Tryz.t262,Tryz.t262.desc),
 (263,Tryz.t263,Tryz.t262.desc),
 (264,Tryz.t264,Tryz.t264.desc),
 (265,Tryz.t265,Tryz.t265.desc),
 (266,Tryz.t266,Tryz.t266.desc),
 (267,Tryz.t267,Tryz.t267.desc),
 (268,Tryz.t268,Tryz.t268.desc),
 (269,Tryz.t269,Tryz.t269.desc),
 (270,Tryz.t270,Tryz.t270.desc),
 (271,Tryz.t271,Tryz.t271.desc),
 (272,Tryz.t272,Tryz.t272.desc),
 (273,Tryz.t273,Tryz.t273.desc),
 (274,Tryz.t274,Tryz.t274.desc),
 (275,Tryz.t275,Tryz.t275.desc),
 (276,Tryz.t276,Tryz.t275.desc),
 (277,Tryz.t277,Tryz.t277.desc),
 (278,Tryz.t278,Tryz.t278.desc),
 (279,Tryz.t279,Tryz.t279.desc),
 (280,Tryz.t280,Tryz.t58.desc),
 (281,Tryz.t281,Tryz.t281.desc),
 (282,Tryz.t282,Tryz.t282.desc),
 (283,Tryz.t283,Tryz.t283.desc),
 (284,Tryz.t284,Tryz.t284.desc),
 (285,Tryz.t285,Tryz.t285.desc),
 (286,Tryz.t286,Tryz.t286.desc),
 (287,Tryz.t287,Tryz.t287.desc),
 (288,Tryz.t288,Tryz.t288.desc),
 (289,Tryz.t289,Tryz.t289.desc),
 (290,Tryz.t290,Tryz.t290.desc),
 (291,Tryz.t291,Tryz.t291.desc),
 (292,Tryz.t292,Tryz.t292.desc),
 (293,Tryz.t293,Tryz.t293.desc),
 (294,Tryz.t294,Tryz.t294.desc),
 (295,Tryz.t295,Tryz.t295.desc),
 (296,Tryz.t296,Tryz.t296.desc),
 (297,Tryz.t297,Tryz.t297.desc),
 (298,Tryz.t298,Tryz.t298.desc),
 (299,Tryz.t299,Tryz.t299.desc),
 (300,Tryz.t300,Tryz.t300.desc),
 (301,Tryz.t301,Tryz.t301.desc),
 (302,Tryz.t302,Tryz.t302.desc),
 (303,Tryz.t303,Tryz.t303.desc),
 (304,Tryz.t304,Tryz.t303.desc),
 (305,Tryz.t305,Tryz.t305.desc),
 (306,Tryz.t306,Tryz.t306.desc),
 (307,Tryz.t307,Tryz.t307.desc),
 (308,Tryz.t308,Tryz.t308.desc),
 (309,Tryz.t309,Tryz.t309.desc),
 (310,Tryz.t310,Tryz.t309.desc),
 (311,Tryz.t311,Tryz.t311.desc),
 (312,Tryz.t312,Tryz.t312.desc),
 (313,Tryz.t313,Tryz.t313.desc),
 (314,Tryz.t314,Tryz.t314.desc),
 (315,Tryz.t315,Tryz.t315.desc),
 (316,Tryz.t316,Tryz.t316.desc),
 (317,Tryz.t317,Tryz.t317.desc),
 (318,Tryz.t318,Tryz.t318.desc),
 (319,Tryz.t319,Tryz.t319.desc),
 (320,Tryz.t320,Tryz.t319.desc),
 (321,Tryz.t321,Tryz.t321.desc),
 (322,Tryz.t322,Tryz.t322.desc),
 (323,Tryz.t323,Tryz.t323.desc),
 (324,Tryz.t324,Tryz.t324.desc),
 (325,Tryz.t325,Tryz.t324.desc),
 (326,Tryz.t326,Tryz.t326.desc),
 (327,Tryz.t327,Tryz.t327.desc),
 (328,Tryz.t328,Tryz.t328.desc),
 (329,Tryz.t329,Tryz.t329.desc),
 (330,Tryz.t330,Tryz.t330.desc),
 (331,Tryz.t331,Tryz.t330.desc),
 (332,Tryz.t332,Tryz.t332.desc),
 (333,Tryz.t333,Tryz.t332.desc),
 (334,Tryz.t334,Tryz.t334.desc),
 (335,Tryz.t335,Tryz.t335.desc),
 (336,Tryz.t336,Tryz.t336.desc),
 (337,Tryz.t337,Tryz.t337.desc),
 (338,Tryz.t338,Tryz.t338.desc),
 (339,Tryz.t339,Tryz.t339.desc),
 (340,Tryz.t340,Tryz.t340.desc),
 (341,Tryz.t341,Tryz.t341.desc),
 (342,Tryz.t342,Tryz.t342.desc),
 (343,Tryz.t343,Tryz.t343.desc),
 (344,Tryz.t344,Tryz.t344.desc),
 (345,Tryz.t345,Tryz.t345.desc),
 (346,Tryz.t346,Tryz.t346.desc),
 (347,Tryz.t347,Tryz.t347.desc),
 (348,Tryz.t348,Tryz.t348.desc),
 (349,Tryz.t349,Tryz.t349.desc),
 (350,Tryz.t350,Tryz.t350.desc),
 (351,Tryz.t351,Tryz.t351.desc),
 (352,Tryz.t352,Tryz.t352.desc),
 (353,Tryz.t353,Tryz.t353.desc),
 (354,Tryz.t354,Tryz.t354.desc),
 (355,Tryz.t355,Tryz.t355.desc),
 (356,Tryz.t356,Tryz.t356.desc),
 (357,Tryz.t357,Tryz.t357.desc),
 (358,Tryz.t358,Tryz.t357.desc),
 (359,Tryz.t359,Tryz.t359.desc),
 (360,Tryz.t360,Tryz.t360.desc),
 (361,Tryz.t361,Tryz.t360.desc),
 (362,Tryz.t362,Tryz.t5.desc),
 (363,Tryz.t363,Tryz.t5.desc),
 (364,Tryz.t364,Tryz.t364.desc),
 (365,Tryz.t365,Tryz.t365.desc),
 (366,Tryz.t366,Tryz.t21.desc),
 (367,Tryz.t367,Tryz.t21.desc),
 (368,Tryz.t368,Tryz.t368.desc),
 (369,Tryz.t369,Tryz.t368.desc),
 (370,Tryz.t370,Tryz.t370.desc),
 (371,Tryz.t371,Tryz.t370.desc),
 (372,Tryz.t372,Tryz.t372.desc)]
theorem tysOK:TysOK Tryz.prog tys:=TysAll.ok (
 ⟨⟨Tryz.type0,Tryz.underlying0⟩,
 ⟨⟨Tryz.type1,Tryz.underlying1⟩,
 ⟨⟨Tryz.type2,Tryz.underlying2⟩,
 ⟨⟨Tryz.type3,Tryz.underlying3⟩,
 ⟨⟨Tryz.type4,Tryz.underlying4⟩,
 ⟨⟨Tryz.type5,Tryz.underlying5⟩,
 ⟨⟨Tryz.type6,Tryz.underlying6⟩,
 ⟨⟨Tryz.type7,Tryz.underlying7⟩,
 ⟨⟨Tryz.type8,Tryz.underlying8⟩,
 ⟨⟨Tryz.type9,Tryz.underlying9⟩,
 ⟨⟨Tryz.type10,Tryz.underlying10⟩,
 ⟨⟨Tryz.type11,Tryz.underlying11⟩,
 ⟨⟨Tryz.type12,Tryz.underlying12⟩,
 ⟨⟨Tryz.type13,Tryz.underlying13⟩,
 ⟨⟨Tryz.type14,Tryz.underlying14⟩,
 ⟨⟨Tryz.type15,Tryz.underlying15⟩,
 ⟨⟨Tryz.type16,Tryz.underlying16⟩,
 ⟨⟨Tryz.type17,Tryz.underlying17⟩,
 ⟨⟨Tryz.type18,Tryz.underlying18⟩,
 ⟨⟨Tryz.type19,Tryz.underlying19⟩,
 ⟨⟨Tryz.type20,Tryz.underlying20⟩,
 ⟨⟨Tryz.type21,Tryz.underlying21⟩,
 ⟨⟨Tryz.type22,Tryz.underlying22⟩,
 ⟨⟨Tryz.type23,Tryz.underlying23⟩,
 ⟨⟨Tryz.type24,Tryz.underlying24⟩,
 ⟨⟨Tryz.type25,Tryz.underlying25⟩,
 ⟨⟨Tryz.type26,Tryz.underlying26⟩,
 ⟨⟨Tryz.type27,Tryz.underlying27⟩,
 ⟨⟨Tryz.type28,Tryz.underlying28⟩,
 ⟨⟨Tryz.type29,Tryz.underlying29⟩,
 ⟨⟨Tryz.type30,Tryz.underlying30⟩,
 ⟨⟨Tryz.type31,Tryz.underlying31⟩,
 ⟨⟨Tryz.type32,Tryz.underlying32⟩,
 ⟨⟨Tryz.type33,Tryz.underlying33⟩,
 ⟨⟨Tryz.type34,Tryz.underlying34⟩,
 ⟨⟨Tryz.type35,Tryz.underlying35⟩,
 ⟨⟨Tryz.type36,Tryz.underlying36⟩,
 ⟨⟨Tryz.type37,Tryz.underlying37⟩,
 ⟨⟨Tryz.type38,Tryz.underlying38⟩,
 ⟨⟨Tryz.type39,Tryz.underlying39⟩,
 ⟨⟨Tryz.type40,Tryz.underlying40⟩,
 ⟨⟨Tryz.type41,Tryz.underlying41⟩,
 ⟨⟨Tryz.type42,Tryz.underlying42⟩,
 ⟨⟨Tryz.type43,Tryz.underlying43⟩,
 ⟨⟨Tryz.type44,Tryz.underlying44⟩,
 ⟨⟨Tryz.type45,Tryz.underlying45⟩,
 ⟨⟨Tryz.type46,Tryz.underlying46⟩,
 ⟨⟨Tryz.type47,Tryz.underlying47⟩,
 ⟨⟨Tryz.type48,Tryz.underlying48⟩,
 ⟨⟨Tryz.type49,Tryz.underlying49⟩,
 ⟨⟨Tryz.type50,Tryz.underlying50⟩,
 ⟨⟨Tryz.type51,Tryz.underlying51⟩,
 ⟨⟨Tryz.type52,Tryz.underlying52⟩,
 ⟨⟨Tryz.type53,Tryz.underlying53⟩,
 ⟨⟨Tryz.type54,Tryz.underlying54⟩,
 ⟨⟨Tryz.type55,Tryz.underlying55⟩,
 ⟨⟨Tryz.type56,Tryz.underlying56⟩,
 ⟨⟨Tryz.type57,Tryz.underlying57⟩,
 ⟨⟨Tryz.type58,Tryz.underlying58⟩,
 ⟨⟨Tryz.type59,Tryz.underlying59⟩,
 ⟨⟨Tryz.type60,Tryz.underlying60⟩,
 ⟨⟨Tryz.type61,Tryz.underlying61⟩,
 ⟨⟨Tryz.type62,Tryz.underlying62⟩,
 ⟨⟨Tryz.type63,Tryz.underlying63⟩,
 ⟨⟨Tryz.type64,Tryz.underlying64⟩,
 ⟨⟨Tryz.type65,Tryz.underlying65⟩,
 ⟨⟨Tryz.type66,Tryz.underlying66⟩,
 ⟨⟨Tryz.type67,Tryz.underlying67⟩,
 ⟨⟨Tryz.type68,Tryz.underlying68⟩,
 ⟨⟨Tryz.type69,Tryz.underlying69⟩,
 ⟨⟨Tryz.type70,Tryz.underlying70⟩,
 ⟨⟨Tryz.type71,Tryz.underlying71⟩,
 ⟨⟨Tryz.type72,Tryz.underlying72⟩,
 ⟨⟨Tryz.type73,Tryz.underlying73⟩,
 ⟨⟨Tryz.type74,Tryz.underlying74⟩,
 ⟨⟨Tryz.type75,Tryz.underlying75⟩,
 ⟨⟨Tryz.type76,Tryz.underlying76⟩,
 ⟨⟨Tryz.type77,Tryz.underlying77⟩,
 ⟨⟨Tryz.type78,Tryz.underlying78⟩,
 ⟨⟨Tryz.type79,Tryz.underlying79⟩,
 ⟨⟨Tryz.type80,Tryz.underlying80⟩,
 ⟨⟨Tryz.type81,Tryz.underlying81⟩,
 ⟨⟨Tryz.type82,Tryz.underlying82⟩,
 ⟨⟨Tryz.type83,Tryz.underlying83⟩,
 ⟨⟨Tryz.type84,Tryz.underlying84⟩,
 ⟨⟨Tryz.type85,Tryz.underlying85⟩,
 ⟨⟨Tryz.type86,Tryz.underlying86⟩,
 ⟨⟨Tryz.type87,Tryz.underlying87⟩,
 ⟨⟨Tryz.type88,Tryz.underlying88⟩,
 ⟨⟨Tryz.type89,Tryz.underlying89⟩,
 ⟨⟨Tryz.type90,Tryz.underlying90⟩,
 ⟨⟨Tryz.type91,Tryz.underlying91⟩,
 ⟨⟨Tryz.type92,Tryz.underlying92⟩,
 ⟨⟨Tryz.type93,Tryz.underlying93⟩,
 ⟨⟨Tryz.type94,Tryz.underlying94⟩,
 ⟨⟨Tryz.type95,Tryz.underlying95⟩,
 ⟨⟨Tryz.type96,Tryz.underlying96⟩,
 ⟨⟨Tryz.type97,Tryz.underlying97⟩,
 ⟨⟨Tryz.type98,Tryz.underlying98⟩,
 ⟨⟨Tryz.type99,Tryz.underlying99⟩,
 ⟨⟨Tryz.type100,Tryz.underlying100⟩,
 ⟨⟨Tryz.type101,Tryz.underlying101⟩,
 ⟨⟨Tryz.type102,Tryz.underlying102⟩,
 ⟨⟨Tryz.type103,Tryz.underlying103⟩,
 ⟨⟨Tryz.type104,Tryz.underlying104⟩,
 ⟨⟨Tryz.type105,Tryz.underlying105⟩,
 ⟨⟨Tryz.type106,Tryz.underlying106⟩,
 ⟨⟨Tryz.type107,Tryz.underlying107⟩,
 ⟨⟨Tryz.type108,Tryz.underlying108⟩,
 ⟨⟨Tryz.type109,Tryz.underlying109⟩,
 ⟨⟨Tryz.type110,Tryz.underlying110⟩,
 ⟨⟨Tryz.type111,Tryz.underlying111⟩,
 ⟨⟨Tryz.type112,Tryz.underlying112⟩,
 ⟨⟨Tryz.type113,Tryz.underlying113⟩,
 ⟨⟨Tryz.type114,Tryz.underlying114⟩,
 ⟨⟨Tryz.type115,Tryz.underlying115⟩,
 ⟨⟨Tryz.type116,Tryz.underlying116⟩,
 ⟨⟨Tryz.type117,Tryz.underlying117⟩,
 ⟨⟨Tryz.type118,Tryz.underlying118⟩,
 ⟨⟨Tryz.type119,Tryz.underlying119⟩,
 ⟨⟨Tryz.type120,Tryz.underlying120⟩,
 ⟨⟨Tryz.type121,Tryz.underlying121⟩,
 ⟨⟨Tryz.type122,Tryz.underlying122⟩,
 ⟨⟨Tryz.type123,Tryz.underlying123⟩,
 ⟨⟨Tryz.type124,Tryz.underlying124⟩,
 ⟨⟨Tryz.type125,Tryz.underlying125⟩,
 ⟨⟨Tryz.type126,Tryz.underlying126⟩,
 ⟨⟨Tryz.type127,Tryz.underlying127⟩,
 ⟨⟨Tryz.type128,Tryz.underlying128⟩,
 ⟨⟨Tryz.type129,Tryz.underlying129⟩,
 ⟨⟨Tryz.type130,Tryz.underlying130⟩,
 ⟨⟨Tryz.type131,Tryz.underlying131⟩,
 ⟨⟨Tryz.type132,Tryz.underlying132⟩,
 ⟨⟨Tryz.type133,Tryz.underlying133⟩,
 ⟨⟨Tryz.type134,Tryz.underlying134⟩,
 ⟨⟨Tryz.type135,Tryz.underlying135⟩,
 ⟨⟨Tryz.type136,Tryz.underlying136⟩,
 ⟨⟨Tryz.type137,Tryz.underlying137⟩,
 ⟨⟨Tryz.type138,Tryz.underlying138⟩,
 ⟨⟨Tryz.type139,Tryz.underlying139⟩,
 ⟨⟨Tryz.type140,Tryz.underlying140⟩,
 ⟨⟨Tryz.type141,Tryz.underlying141⟩,
 ⟨⟨Tryz.type142,Tryz.underlying142⟩,
 ⟨⟨Tryz.type143,Tryz.underlying143⟩,
 ⟨⟨Tryz.type144,Tryz.underlying144⟩,
 ⟨⟨Tryz.type145,Tryz.underlying145⟩,
 ⟨⟨Tryz.type146,Tryz.underlying146⟩,
 ⟨⟨Tryz.type147,Tryz.underlying147⟩,
 ⟨⟨Tryz.type148,Tryz.underlying148⟩,
 ⟨⟨Tryz.type149,Tryz.underlying149⟩,
 ⟨⟨Tryz.type150,Tryz.underlying150⟩,
 ⟨⟨Tryz.type151,Tryz.underlying151⟩,
 ⟨⟨Tryz.type152,Tryz.underlying152⟩,
 ⟨⟨Tryz.type153,Tryz.underlying153⟩,
 ⟨⟨Tryz.type154,Tryz.underlying154⟩,
 ⟨⟨Tryz.type155,Tryz.underlying155⟩,
 ⟨⟨Tryz.type156,Tryz.underlying156⟩,
 ⟨⟨Tryz.type157,Tryz.underlying157⟩,
 ⟨⟨Tryz.type158,Tryz.underlying158⟩,
 ⟨⟨Tryz.type159,Tryz.underlying159⟩,
 ⟨⟨Tryz.type160,Tryz.underlying160⟩,
 ⟨⟨Tryz.type161,Tryz.underlying161⟩,
 ⟨⟨Tryz.type162,Tryz.underlying162⟩,
 ⟨⟨Tryz.type163,Tryz.underlying163⟩,
 ⟨⟨Tryz.type164,Tryz.underlying164⟩,
 ⟨⟨Tryz.type165,Tryz.underlying165⟩,
 ⟨⟨Tryz.type166,Tryz.underlying166⟩,
 ⟨⟨Tryz.type167,Tryz.underlying167⟩,
 ⟨⟨Tryz.type168,Tryz.underlying168⟩,
 ⟨⟨Tryz.type169,Tryz.underlying169⟩,
 ⟨⟨Tryz.type170,Tryz.underlying170⟩,
 ⟨⟨Tryz.type171,Tryz.underlying171⟩,
 ⟨⟨Tryz.type172,Tryz.underlying172⟩,
 ⟨⟨Tryz.type173,Tryz.underlying173⟩,
 ⟨⟨Tryz.type174,Tryz.underlying174⟩,
 ⟨⟨Tryz.type175,Tryz.underlying175⟩,
 ⟨⟨Tryz.type176,Tryz.underlying176⟩,
 ⟨⟨Tryz.type177,Tryz.underlying177⟩,
 ⟨⟨Tryz.type178,Tryz.underlying178⟩,
 ⟨⟨Tryz.type179,Tryz.underlying179⟩,
 ⟨⟨Tryz.type180,Tryz.underlying180⟩,
 ⟨⟨Tryz.type181,Tryz.underlying181⟩,
 ⟨⟨Tryz.type182,Tryz.underlying182⟩,
 ⟨⟨Tryz.type183,Tryz.underlying183⟩,
 ⟨⟨Tryz.type184,Tryz.underlying184⟩,
 ⟨⟨Tryz.type185,Tryz.underlying185⟩,
 ⟨⟨Tryz.type186,Tryz.underlying186⟩,
 ⟨⟨Tryz.type187,Tryz.underlying187⟩,
 ⟨⟨Tryz.type188,Tryz.underlying188⟩,
 ⟨⟨Tryz.type189,Tryz.underlying189⟩,
 ⟨⟨Tryz.type190,Tryz.underlying190⟩,
 ⟨⟨Tryz.type191,Tryz.underlying191⟩,
 ⟨⟨Tryz.type192,Tryz.underlying192⟩,
 ⟨⟨Tryz.type193,Tryz.underlying193⟩,
 ⟨⟨Tryz.type194,Tryz.underlying194⟩,
 ⟨⟨Tryz.type195,Tryz.underlying195⟩,
 ⟨⟨Tryz.type196,Tryz.underlying196⟩,
 ⟨⟨Tryz.type197,Tryz.underlying197⟩,
 ⟨⟨Tryz.type198,Tryz.underlying198⟩,
 ⟨⟨Tryz.type199,Tryz.underlying199⟩,
 ⟨⟨Tryz.type200,Tryz.underlying200⟩,
 ⟨⟨Tryz.type201,Tryz.underlying201⟩,
 ⟨⟨Tryz.type202,Tryz.underlying202⟩,
 ⟨⟨Tryz.type203,Tryz.underlying203⟩,
 ⟨⟨Tryz.type204,Tryz.underlying204⟩,
 ⟨⟨Tryz.type205,Tryz.underlying205⟩,
 ⟨⟨Tryz.type206,Tryz.underlying206⟩,
 ⟨⟨Tryz.type207,Tryz.underlying207⟩,
 ⟨⟨Tryz.type208,Tryz.underlying208⟩,
 ⟨⟨Tryz.type209,Tryz.underlying209⟩,
 ⟨⟨Tryz.type210,Tryz.underlying210⟩,
 ⟨⟨Tryz.type211,Tryz.underlying211⟩,
 ⟨⟨Tryz.type212,Tryz.underlying212⟩,
 ⟨⟨Tryz.type213,Tryz.underlying213⟩,
 ⟨⟨Tryz.type214,Tryz.underlying214⟩,
 ⟨⟨Tryz.type215,Tryz.underlying215⟩,
 ⟨⟨Tryz.type216,Tryz.underlying216⟩,
 ⟨⟨Tryz.type217,Tryz.underlying217⟩,
 ⟨⟨Tryz.type218,Tryz.underlying218⟩,
 ⟨⟨Tryz.type219,Tryz.underlying219⟩,
 ⟨⟨Tryz.type220,Tryz.underlying220⟩,
 ⟨⟨Tryz.type221,Tryz.underlying221⟩,
 ⟨⟨Tryz.type222,Tryz.underlying222⟩,
 ⟨⟨Tryz.type223,Tryz.underlying223⟩,
 ⟨⟨Tryz.type224,Tryz.underlying224⟩,
 ⟨⟨Tryz.type225,Tryz.underlying225⟩,
 ⟨⟨Tryz.type226,Tryz.underlying226⟩,
 ⟨⟨Tryz.type227,Tryz.underlying227⟩,
 ⟨⟨Tryz.type228,Tryz.underlying228⟩,
 ⟨⟨Tryz.type229,Tryz.underlying229⟩,
 ⟨⟨Tryz.type230,Tryz.underlying230⟩,
 ⟨⟨Tryz.type231,Tryz.underlying231⟩,
 ⟨⟨Tryz.type232,Tryz.underlying232⟩,
 ⟨⟨Tryz.type233,Tryz.underlying233⟩,
 ⟨⟨Tryz.type234,Tryz.underlying234⟩,
 ⟨⟨Tryz.type235,Tryz.underlying235⟩,
 ⟨⟨Tryz.type236,Tryz.underlying236⟩,
 ⟨⟨Tryz.type237,Tryz.underlying237⟩,
 ⟨⟨Tryz.type238,Tryz.underlying238⟩,
 ⟨⟨Tryz.type239,Tryz.underlying239⟩,
 ⟨⟨Tryz.type240,Tryz.underlying240⟩,
 ⟨⟨Tryz.type241,Tryz.underlying241⟩,
 ⟨⟨Tryz.type242,Tryz.underlying242⟩,
 ⟨⟨Tryz.type243,Tryz.underlying243⟩,
 ⟨⟨Tryz.type244,Tryz.underlying244⟩,
 ⟨⟨Tryz.type245,Tryz.underlying245⟩,
 ⟨⟨Tryz.type246,Tryz.underlying246⟩,
 ⟨⟨Tryz.type247,Tryz.underlying247⟩,
 ⟨⟨Tryz.type248,Tryz.underlying248⟩,
 ⟨⟨Tryz.type249,Tryz.underlying249⟩,
 ⟨⟨Tryz.type250,Tryz.underlying250⟩,
 ⟨⟨Tryz.type251,Tryz.underlying251⟩,
 ⟨⟨Tryz.type252,Tryz.underlying252⟩,
 ⟨⟨Tryz.type253,Tryz.underlying253⟩,
 ⟨⟨Tryz.type254,Tryz.underlying254⟩,
 ⟨⟨Tryz.type255,Tryz.underlying255⟩,
 ⟨⟨Tryz.type256,Tryz.underlying256⟩,
 ⟨⟨Tryz.type257,Tryz.underlying257⟩,
 ⟨⟨Tryz.type258,Tryz.underlying258⟩,
 ⟨⟨Tryz.type259,Tryz.underlying259⟩,
 ⟨⟨Tryz.type260,Tryz.underlying260⟩,
 ⟨⟨Tryz.type261,Tryz.underlying261⟩,
 ⟨⟨Tryz.type262,Tryz.underlying262⟩,
 ⟨⟨Tryz.type263,Tryz.underlying263⟩,
 ⟨⟨Tryz.type264,Tryz.underlying264⟩,
 ⟨⟨Tryz.type265,Tryz.underlying265⟩,
 ⟨⟨Tryz.type266,Tryz.underlying266⟩,
 ⟨⟨Tryz.type267,Tryz.underlying267⟩,
 ⟨⟨Tryz.type268,Tryz.underlying268⟩,
 ⟨⟨Tryz.type269,Tryz.underlying269⟩,
 ⟨⟨Tryz.type270,Tryz.underlying270⟩,
 ⟨⟨Tryz.type271,Tryz.underlying271⟩,
 ⟨⟨Tryz.type272,Tryz.underlying272⟩,
 ⟨⟨Tryz.type273,Tryz.underlying273⟩,
 ⟨⟨Tryz.type274,Tryz.underlying274⟩,
 ⟨⟨Tryz.type275,Tryz.underlying275⟩,
 ⟨⟨Tryz.type276,Tryz.underlying276⟩,
 ⟨⟨Tryz.type277,Tryz.underlying277⟩,
 ⟨⟨Tryz.type278,Tryz.underlying278⟩,
 ⟨⟨Tryz.type279,Tryz.underlying279⟩,
 ⟨⟨Tryz.type280,Tryz.underlying280⟩,
 ⟨⟨Tryz.type281,Tryz.underlying281⟩,
 ⟨⟨Tryz.type282,Tryz.underlying282⟩,
 ⟨⟨Tryz.type283,Tryz.underlying283⟩,
 ⟨⟨Tryz.type284,Tryz.underlying284⟩,
 ⟨⟨Tryz.type285,Tryz.underlying285⟩,
 ⟨⟨Tryz.type286,Tryz.underlying286⟩,
 ⟨⟨Tryz.type287,Tryz.underlying287⟩,
 ⟨⟨Tryz.type288,Tryz.underlying288⟩,
 ⟨⟨Tryz.type289,Tryz.underlying289⟩,
 ⟨⟨Tryz.type290,Tryz.underlying290⟩,
 ⟨⟨Tryz.type291,Tryz.underlying291⟩,
 ⟨⟨Tryz.type292,Tryz.underlying292⟩,
 ⟨⟨Tryz.type293,Tryz.underlying293⟩,
 ⟨⟨Tryz.type294,Tryz.underlying294⟩,
 ⟨⟨Tryz.type295,Tryz.underlying295⟩,
 ⟨⟨Tryz.type296,Tryz.underlying296⟩,
 ⟨⟨Tryz.type297,Tryz.underlying297⟩,
 ⟨⟨Tryz.type298,Tryz.underlying298⟩,
 ⟨⟨Tryz.type299,Tryz.underlying299⟩,
 ⟨⟨Tryz.type300,Tryz.underlying300⟩,
 ⟨⟨Tryz.type301,Tryz.underlying301⟩,
 ⟨⟨Tryz.type302,Tryz.underlying302⟩,
 ⟨⟨Tryz.type303,Tryz.underlying303⟩,
 ⟨⟨Tryz.type304,Tryz.underlying304⟩,
 ⟨⟨Tryz.type305,Tryz.underlying305⟩,
 ⟨⟨Tryz.type306,Tryz.underlying306⟩,
 ⟨⟨Tryz.type307,Tryz.underlying307⟩,
 ⟨⟨Tryz.type308,Tryz.underlying308⟩,
 ⟨⟨Tryz.type309,Tryz.underlying309⟩,
 ⟨⟨Tryz.type310,Tryz.underlying310⟩,
 ⟨⟨Tryz.type311,Tryz.underlying311⟩,
 ⟨⟨Tryz.type312,Tryz.underlying312⟩,
 ⟨⟨Tryz.type313,Tryz.underlying313⟩,
 ⟨⟨Tryz.type314,Tryz.underlying314⟩,
 ⟨⟨Tryz.type315,Tryz.underlying315⟩,
 ⟨⟨Tryz.type316,Tryz.underlying316⟩,
 ⟨⟨Tryz.type317,Tryz.underlying317⟩,
 ⟨⟨Tryz.type318,Tryz.underlying318⟩,
 ⟨⟨Tryz.type319,Tryz.underlying319⟩,
 ⟨⟨Tryz.type320,Tryz.underlying320⟩,
 ⟨⟨Tryz.type321,Tryz.underlying321⟩,
 ⟨⟨Tryz.type322,Tryz.underlying322⟩,
 ⟨⟨Tryz.type323,Tryz.underlying323⟩,
 ⟨⟨Tryz.type324,Tryz.underlying324⟩,
 ⟨⟨Tryz.type325,Tryz.underlying325⟩,
 ⟨⟨Tryz.type326,Tryz.underlying326⟩,
 ⟨⟨Tryz.type327,Tryz.underlying327⟩,
 ⟨⟨Tryz.type328,Tryz.underlying328⟩,
 ⟨⟨Tryz.type329,Tryz.underlying329⟩,
 ⟨⟨Tryz.type330,Tryz.underlying330⟩,
 ⟨⟨Tryz.type331,Tryz.underlying331⟩,
 ⟨⟨Tryz.type332,Tryz.underlying332⟩,
 ⟨⟨Tryz.type333,Tryz.underlying333⟩,
 ⟨⟨Tryz.type334,Tryz.underlying334⟩,
 ⟨⟨Tryz.type335,Tryz.underlying335⟩,
 ⟨⟨Tryz.type336,Tryz.underlying336⟩,
 ⟨⟨Tryz.type337,Tryz.underlying337⟩,
 ⟨⟨Tryz.type338,Tryz.underlying338⟩,
 ⟨⟨Tryz.type339,Tryz.underlying339⟩,
 ⟨⟨Tryz.type340,Tryz.underlying340⟩,
 ⟨⟨Tryz.type341,Tryz.underlying341⟩,
 ⟨⟨Tryz.type342,Tryz.underlying342⟩,
 ⟨⟨Tryz.type343,Tryz.underlying343⟩,
 ⟨⟨Tryz.type344,Tryz.underlying344⟩,
 ⟨⟨Tryz.type345,Tryz.underlying345⟩,
 ⟨⟨Tryz.type346,Tryz.underlying346⟩,
 ⟨⟨Tryz.type347,Tryz.underlying347⟩,
 ⟨⟨Tryz.type348,Tryz.underlying348⟩,
 ⟨⟨Tryz.type349,Tryz.underlying349⟩,
 ⟨⟨Tryz.type350,Tryz.underlying350⟩,
 ⟨⟨Tryz.type351,Tryz.underlying351⟩,
 ⟨⟨Tryz.type352,Tryz.underlying352⟩,
 ⟨⟨Tryz.type353,Tryz.underlying353⟩,
 ⟨⟨Tryz.type354,Tryz.underlying354⟩,
 ⟨⟨Tryz.type355,Tryz.underlying355⟩,
 ⟨⟨Tryz.type356,Tryz.underlying356⟩,
 ⟨⟨Tryz.type357,Tryz.underlying357⟩,
 ⟨⟨Tryz.type358,Tryz.underlying358⟩,
 ⟨⟨Tryz.type359,Tryz.underlying359⟩,
 ⟨⟨Tryz.type360,Tryz.underlying360⟩,
 ⟨⟨Tryz.type361,Tryz.underlying361⟩,
 ⟨⟨Tryz.type362,Tryz.underlying362⟩,
 ⟨⟨Tryz.type363,Tryz.underlying363⟩,
 ⟨⟨Tryz.type364,Tryz.underlying364⟩,
 ⟨⟨Tryz.type365,Tryz.underlying365⟩,
 ⟨⟨Tryz.type366,Tryz.underlying366⟩,
 ⟨⟨Tryz.type367,Tryz.underlying367⟩,
 ⟨⟨Tryz.type368,Tryz.underlying368⟩,
 ⟨⟨Tryz.type369,Tryz.underlying369⟩,
 ⟨⟨Tryz.type370,Tryz.underlying370⟩,
 ⟨⟨Tryz.type371,Tryz.underlying371⟩,
 ⟨⟨Tryz.type372,Tryz.underlying372⟩,trivial⟩⟩⟩⟩⟩⟩⟩⟩⟩⟩⟩⟩⟩⟩⟩⟩⟩⟩⟩⟩⟩⟩⟩⟩⟩⟩⟩⟩⟩⟩⟩⟩⟩⟩⟩⟩⟩⟩⟩⟩⟩⟩⟩⟩⟩⟩⟩⟩⟩⟩⟩⟩⟩⟩⟩⟩⟩⟩⟩⟩⟩⟩⟩⟩⟩⟩⟩⟩⟩⟩⟩⟩⟩⟩⟩⟩⟩⟩⟩⟩⟩⟩⟩⟩⟩⟩⟩⟩⟩⟩⟩⟩⟩⟩⟩⟩⟩⟩⟩⟩⟩⟩⟩⟩⟩⟩⟩⟩⟩⟩⟩⟩⟩⟩⟩⟩⟩⟩⟩⟩⟩⟩⟩⟩⟩⟩⟩⟩⟩⟩⟩⟩⟩⟩⟩⟩⟩⟩⟩⟩⟩⟩⟩⟩⟩⟩⟩⟩⟩⟩⟩⟩⟩⟩⟩⟩⟩⟩⟩⟩⟩⟩⟩⟩⟩⟩⟩⟩⟩⟩⟩⟩⟩⟩⟩⟩⟩⟩⟩⟩⟩⟩⟩⟩⟩⟩⟩⟩⟩⟩⟩⟩⟩⟩⟩⟩⟩⟩⟩⟩⟩⟩⟩⟩⟩⟩⟩⟩⟩⟩⟩⟩⟩⟩⟩⟩⟩⟩⟩⟩⟩⟩⟩⟩⟩⟩⟩⟩⟩⟩⟩⟩⟩⟩⟩⟩⟩⟩⟩⟩⟩⟩⟩⟩⟩⟩⟩⟩⟩⟩⟩⟩⟩⟩⟩⟩⟩⟩⟩⟩⟩⟩⟩⟩⟩⟩⟩⟩⟩⟩⟩⟩⟩⟩⟩⟩⟩⟩⟩⟩⟩⟩⟩⟩⟩⟩⟩⟩⟩⟩⟩⟩⟩⟩⟩⟩⟩⟩⟩⟩⟩⟩⟩⟩⟩⟩⟩⟩⟩⟩⟩⟩⟩⟩⟩⟩⟩⟩⟩⟩⟩⟩⟩⟩⟩⟩⟩⟩⟩⟩⟩⟩⟩⟩⟩⟩⟩⟩⟩⟩⟩⟩⟩⟩⟩⟩⟩⟩⟩⟩⟩⟩⟩⟩⟩⟩⟩⟩⟩⟩⟩⟩⟩⟩⟩⟩⟩⟩⟩⟩⟩⟩⟩)
theorem mixed:Tryz.prog.follows .mixedOrders=true:=by kernel_rfl
end Go.Proofs.YtdljelmbjdjpjaaGreat.Sx


namespace Go.Proofs.YtdljelmbjdjpjaaGreat
open Go Go.RowKit Sx
theorem N.min2 {ts:Array TypeId} {t:TypeId} {k:IntKind} {x y:Int} {K:Value→Prop} (h:K (.int k (min x y))):N (qo4 Tryz.prog .min ts t [.int k x,.int k y] K):=by
 refine N.mk ⟨.int k (min x y),⟨rfl,rfl,fun cs w=>?_⟩,h⟩
 have e:(if y<x then y else x)=min x y:=by split<;>omega
 show(do pure (Next.value (←Builtin.min_ ts t #[.int k x,.int k y])):Sem _).run Tryz.prog w=_
 rw[Sem.run_bind,run_min_int2,e];rfl
theorem N.max2 {ts:Array TypeId} {t:TypeId} {k:IntKind} {x y:Int} {K:Value→Prop} (h:K (.int k (max x y))):N (qo4 Tryz.prog .max ts t [.int k x,.int k y] K):=by
 refine N.mk ⟨.int k (max x y),⟨rfl,rfl,fun cs w=>?_⟩,h⟩
 have e:(if y > x then y else x)=max x y:=by split<;>omega
 show(do pure (Next.value (←Builtin.max_ ts t #[.int k x,.int k y])):Sem _).run Tryz.prog w=_
 rw[Sem.run_bind,run_max_int2,e];rfl
noncomputable def Roll (A:CodeT) (Q:Exit→St→Prop) (k:Nat):St→Prop:=Nat.rec (motive:=fun _=>St→Prop) (fun _=>False) (fun _ W st=>A (thenQ W Q) st) k
theorem N.roll {P:Program} {G:Tys} {n0:Nat} {c:Code} {A:(Exit→St→Prop)→St→Prop} {Q:Exit→St→Prop} {st:St} (k:Nat) (h:Roll A Q k st):N (LoopN P G n0 c A Q st):=
 N.mk ⟨(k:Nat)×{s:St // Roll A Q k s},fun x=>x.2.1,fun _=>True,fun x=>x.1,fun x s=>∃ j,x.1=j+1∧Roll A Q j s,fun x s hx=>by
  obtain⟨j,hj,hr⟩:=hx
  refine⟨⟨j,s,hr⟩,trivial,?_,by show j<x.1;omega⟩
  exact(Wk.refl _ _).g,⟨⟨k,st,h⟩,trivial,(Wk.refl _ _).g⟩,fun x _=>by
  obtain⟨k,s,hs⟩:=x
  cases k with
  | zero=>exact hs.elim
  | succ j=>
   have:(fun s'=>∃ i,j+1=i+1∧Roll A Q i s')=Roll A Q j:=by
    funext s'
    refine propext ⟨fun⟨i,hi,hr⟩=>?_,fun hr=>⟨j,rfl,hr⟩⟩
    have:j=i:=by simpa using hi
    subst this;exact hr
   show A (thenQ (fun s'=>∃ i,j+1=i+1∧Roll A Q i s') Q) s
   rw[this];exact hs⟩
theorem Tryz.own:ownKnob Tryz.prog.godebug=none:=by kernel_rfl
theorem Tryz.laidOut:laidOutB Tryz.prog=true:=by kernel_rfl
theorem q3z (x:Int) (m:Int) (h0:0<m) (h1:m≤9223372036854775807):0≤IntKind.i64.wrap ((IntKind.u64.wrap x).tmod m)∧IntKind.i64.wrap ((IntKind.u64.wrap x).tmod m)<m:=by
 have e:0≤IntKind.u64.wrap x:=by rw[IntKind.wrap_u64];omega
 rw[Int.tmod_eq_emod_of_nonneg e]
 have a:=Int.emod_nonneg (IntKind.u64.wrap x) (by omega:m≠0)
 have b:=Int.emod_lt_of_pos (IntKind.u64.wrap x) h0
 rw[IntKind.wrap_i64,show(IntKind.u64.wrap x%m+9223372036854775808)%18446744073709551616-9223372036854775808=IntKind.u64.wrap x%m from by omega]
 exact⟨a,b⟩
abbrev serOK (s:Int):Prop:=0≤s∧s≤65535
theorem qxa (x:Int):IntKind.i64.wrap ((BitVec.ofInt IntKind.i64.bits x &&& BitVec.ofInt IntKind.i64.bits 65535).toNat:Nat)=x%65536:=by
 have h1:(BitVec.ofInt IntKind.i64.bits 65535).toNat=2^16-1:=by decide
 have h2:(BitVec.ofInt IntKind.i64.bits x &&& BitVec.ofInt IntKind.i64.bits 65535).toNat=(BitVec.ofInt IntKind.i64.bits x).toNat%65536:=by
  rw[BitVec.toNat_and,h1,Nat.and_two_pow_sub_one_eq_mod]
 have h3:((BitVec.ofInt IntKind.i64.bits x).toNat:Int)=x%18446744073709551616:=by
  rw[BitVec.toNat_ofInt]
  have:(0:Int)≤x%((2^IntKind.i64.bits:Nat):Int):=Int.emod_nonneg _ (by decide)
  rw[Int.toNat_of_nonneg this]
  rfl
 rw[h2,IntKind.wrap_i64]
 omega
theorem qxb (s:Int)  (w:World):Calls Tryz.prog 42 #[.int .i64 s] w fun e w'=>e=.returned (.bool (decide (serOK s)))∧Below w.heap.size w w':=by
 refine qaf (G:=tys) w tysOK mixed Tryz.func42 (by rfl) (by first|rfl|(simp only[List.all_cons,List.all_nil,qaa,qab,qac];rfl)) (by first|exact qag _|exact qak _ _ _|rfl|(simp only[qap,List.all_cons,List.all_nil,qaa,qab,qac];rfl)) ?_
 repeat' (refine N.go ?_;first|with_reducible (first|refine N.eq ?_|refine N.forkT ?_|refine N.forkF ?_)|with_reducible refine N.fork (fun hb=>?_) (fun hb=>?_)|fail)
 all_goals
  refine boolD ?_
  simp only[decide_eq_true_eq,decide_eq_false_iff_not,Bool.false_eq_true,false_iff,true_iff,iff_true,iff_false,reduceCtorEq,not_true_eq_false,not_false_eq_true,ge_iff_le,gt_iff_lt] at *
  omega
theorem qkt (s:Int) (h:Hp):qad Tryz.prog 42 [.int .i64 s] h (.bool (decide (serOK s))) [] []:=qai rfl rfl (Tryz.call42 _) (qxb s)
open Go Go.RowKit Sx
abbrev noC:Chunk:=⟨false,0,[]⟩
structure Win where
 any:Bool
 last:Int
 seen:Nat
def Win.zero:Win:=⟨false,0,0⟩
structure Ent where
 node:Int
 boot:Int
 heard:Int
 has:Bool
 x:Int
 y:Int
 a:Int
 b:Int
 d:Int
 when_:Int
def Ent.zero:Ent:=⟨0,0,0,false,0,0,0,0,0,0⟩
abbrev entV (e:Ent):Value:=.agg ⟨[.int .i64 e.node,.int .i64 e.boot,.int .i64 e.heard,.bool e.has,.int .i64 e.x,.int .i64 e.y,.int .i64 e.a,.int .i64 e.b,.int .i64 e.d,.int .i64 e.when_]⟩
structure LifR where
 boot:Int
 left:Bool
 q:Nat×Nat
abbrev lifV (l:LifR):Value:=.agg ⟨[.int .i64 l.boot,.bool l.left,realP l.q]⟩
structure Life where
 boot:Int
 left:Bool
 W:Win
structure Tbl where
 most:Int
 E:List (Int×Ent)
 lives:Int→Option Life
def winF (W:Win) (j:Nat):Value:=match j with
 | 0=>.bool W.any
 | 1=>.int .i64 W.last
 | _=>.int .u64 (W.seen:Int)
structure LB where
 D:List (Int×LifR)
 F:List ((Nat×Nat)×Win)
def qg0 (lv:Int→Option Life) (β:LB):Prop:=
 (∀ n,dGet β.D n=none→lv n=none)∧(∀ n r,dGet β.D n=some r→∃ W,(r.q,W)∈β.F∧lv n=some ⟨r.boot,r.left,W⟩)∧
 ∀ n m r s,dGet β.D n=some r→dGet β.D m=some s→r.q=s.q→n=m
abbrev mainC (F:List ((Nat×Nat)×Win)) (most:Int):Chunk:=@Chunk.mk (famX 3 winF F) true 3 [(0,3,.agg ⟨[.int .i64 most,.map (some 1),.map (some 2)]⟩)]
abbrev tblH (T:Tbl) (β:LB):Hp:=[some (mainC β.F T.most),some (mapC entV T.E),some (mapC lifV β.D)]
abbrev tblC (T:Tbl):Chunk:=packC (qg0 T.lives) (tblH T)
def Tbl.new (most:Int):Tbl:=⟨max 1 (min most 64),[],fun _=>none⟩
theorem q1l {ix:List (Nat×Nat)} {F:List ((Nat×Nat)×Win)} {most:Int} {c:Chunk} {i j:Nat} (h0:c.f 0=.int .i64 most) (h1:c.f 1=.map (some i)) (h2:c.f 2=.map (some j)) (hi:ixK ix 1=some i) (hj:ixK ix 2=some j):∀ l,l<3→Re1 ix (c.f l) ((mainC F most).f l):=fun l hl=>by
 match l,hl with
 | 0,_=>rw[h0];exact .plain rfl
 | 1,_=>rw[h1];exact .map hi
 | 2,_=>rw[h2];exact .map hj
theorem qku {ss:List Piece} {h:Hp} {v:Value} {K:Value→Hp→Prop} (T:Tbl) (β:LB) (m i j:Nat) (keep:List Nat) {c:Chunk} (hpc:∀ l,(l=m∨l=i∨l=j)→l<ss.length→∃ s,ss[l]?=some s∧s.e.x≠Ext.none∧Selfish s.e.x) (hbs:∀ i,i<ss.length→i=m∨i∈keep) (hok:qg0 T.lives β)
  (hm:h[m]?=some (some c)) (ho:c.own=true) (hn:c.n=3) (hx:c.x=famX 3 winF β.F) (h0:c.f 0=.int .i64 T.most) (h1:c.f 1=.map (some i)) (h2:c.f 2=.map (some j)) (hi:h[i]?=some (some (mapC entV T.E))) (hj:h[j]?=some (some (mapC lifV β.D))) (hd:m≠i∧m≠j∧i≠j)
  (hkk:∀ k∈keep,k≠m∧k≠i∧k≠j) (hkd:∀ k∈keep,∀ (d:Chunk),h[k]?=some (some d)→∀ l,l<d.n→Safe1 (qa7 (tblC T) m keep h 0) (d.f l))
  (hv:∀ ρ ρ',AgreeOn (Fil (qa7 (tblC T) m keep h 0)) ρ ρ'→den ρ' v=den ρ v) (kk:K v (qa7 (tblC T) m keep h 0)):N (EndN ss h v K):=by
 refine qhc (ok:=qg0 T.lives) (hB:=tblH T) β m [(0,m),(1,i),(2,j)] keep (fun k l hk hl=>hpc l ?_ hl) hbs hok rfl ⟨_,rfl⟩ ?_ rfl ?_ (fun k hk l i' hm'=>?_) hkd hv (List.getElem?_eq_some_iff.1 hm).1 kk
 ·simp only[List.mem_cons,Prod.mk.injEq,List.not_mem_nil,or_false] at hk
  omega
 ·have nb:∀ a b:Nat,a≠b→Nat.beq a b=false:=fun a b hab=>by
   cases e:Nat.beq a b with
   | false=>rfl
   | true=>exact absurd (Nat.eq_of_beq_eq_true e) hab
  simp only[ixOne,List.all_cons,List.all_nil,nb _ _ hd.1.symm,nb _ _ hd.2.1.symm,nb _ _ hd.2.2.symm]
  rfl
 ·intro k d hk
  match k,hk with
  | 0,hk=>
   obtain rfl:_=d:=by simpa using hk
   exact⟨m,c,rfl,hm,ho,by rw[hn];exact nlr _,q1l h0 h1 h2 rfl rfl,.inr hx.symm,.inl (by omega)⟩
  | 1,hk=>
   obtain rfl:_=d:=by simpa using hk
   exact⟨i,_,rfl,hi,rfl,nlr _,nzj,.inr rfl,.inr qhb⟩
  | 2,hk=>
   obtain rfl:_=d:=by simpa using hk
   exact⟨j,_,rfl,hj,rfl,nlr _,nzj,.inr rfl,.inr qhb⟩
  | k+3,hk=>simp at hk
 ·have:=hkk k hk
  simp only[List.mem_cons,Prod.mk.injEq,List.not_mem_nil,or_false] at hm'
  omega
theorem qxc:qg0 (fun _=>none) ⟨[],[]⟩:=⟨fun _ _=>rfl,fun _ _ h=>by simp[dGet] at h,fun _ _ _ _ h=>by simp[dGet] at h⟩
theorem qfa {v:Value} (h:qap v=true) {F:Nat→Prop}:∀ ρ ρ',AgreeOn F ρ ρ'→den ρ' v=den ρ v:=fun ρ ρ' _=>by rw[qbg h,qbg h]
theorem q1m (T:Tbl):(tblC T).x≠Ext.none:=fun e=>by
 have h1:∀ p S w,(tblC T).x.inv p S w→S p.1:=qah
 rw[e] at h1
 exact(h1 (0,0) (fun _=>False) default fun _ h=>h).elim
theorem qmu {i:Nat} {T T':Tbl}:∀ l,(l=0∨l=1∨l=2)→l<[(⟨i,tblC T,tblC T,tblC T'⟩:Piece)].length→∃ s,[(⟨i,tblC T,tblC T,tblC T'⟩:Piece)][l]?=some s∧s.e.x≠Ext.none∧Selfish s.e.x:=fun l _ hl=>by
 obtain rfl:l=0:=by simpa using hl
 exact⟨_,rfl,q1m T,qah⟩
theorem safe0 {h:Hp} {T:Tbl} {m:Nat}:∀ k∈([]:List Nat),∀ (d:Chunk),h[k]?=some (some d)→∀ l,l<d.n→Safe1 (qa7 (tblC T) m [] h 0) (d.f l):=fun k hk=>by cases hk
theorem cNewT (most:Int) (k:Nat) (h:Hp) (hk:h[k]?=some none) :
  qad Tryz.prog 46 [.int .i64 most] h (.pointer (some ⟨k,0,some 0⟩)) [(k,tblC (Tbl.new most))] []:=by
 refine qax (G:=tys) (fun _:Unit=>True) (fun _=>[]) [] [⟨k,10,tblC (Tbl.new most)⟩] [.int .i64 most] tysOK mixed Tryz.func46 (by rfl) (Tryz.call46) trivial trivial trivial trivial ⟨⟨hk,rfl,.inr qah,by simp⟩,trivial⟩ ⟨.plain rfl,trivial⟩ Opens.same ?_
 rintro⟨⟩ -
 repeat' (refine N.go ?_;first|with_reducible (first|refine N.min2 ?_|refine N.max2 ?_)|fail)
 refine N.go ?_
 refine qte entV ?_
 skip
 refine N.go ?_
 refine qte lifV ?_
 repeat' (refine N.go ?_;first|with_reducible refine N.obl rfl ?_|fail)
 refine N.go ?_
 refine qw8 3 winF (k:=10) (by rfl) ?_
 refine qku (Tbl.new most) ⟨[],[]⟩ 10 8 9 [] (fun _ _ hl=>absurd hl (by simp)) (fun i hi=>absurd hi (by simp)) qxc (by rfl) (by rfl) (by rfl) (by rfl) (by rfl) (by rfl) (by rfl) (by rfl) (by rfl) (by decide) (fun k hk=>by cases hk) safe0 (fun ρ ρ' ha=>by have:=ha 10 ⟨_,rfl⟩;simp[den,den2,den1,den0,denA,this]) ?_
 refine N.obl (.one (.ptr rfl)) ?_
 refine N.obl trivial ?_
 refine N.obl ⟨⟨Nat.zero_le _,_,rfl,id,nlr _,nzj⟩,trivial⟩ ?_
 refine N.obl ⟨trivial,.inr ⟨_,rfl,rfl⟩,trivial⟩ ?_
 exact N.true
end Go.Proofs.YtdljelmbjdjpjaaGreat


namespace Go.Proofs
open Go.Shelf
def Tryz.keysA_ren:Go.Shelf.Ren:=⟨fun|7=>67|10=>101|n=>n,fun|23=>124|26=>3|3=>85|28=>122|0=>0|27=>121|33=>55|4=>4|n=>n,fun|n=>n⟩
theorem Tryz.keysA:Go.Proofs.SlLaysZI.n7 Tryz.prog Tryz.keysA_ren:={
 mixed:=by kernel_rfl
 f7:=⟨Tryz.f67.name,by decide,Tryz.func67.trans (congrArg some (by kernel_rfl))⟩
 f10:=⟨Tryz.f101.name,by decide,Tryz.func101.trans (congrArg some (by kernel_rfl))⟩
 t0:=Tryz.underlying0
 a0:=Tryz.isAgg0
 z0:=Tryz.sizeOf0
 v0:=Tryz.zeroValue0
 t4:=Tryz.underlying4
 a4:=Tryz.isAgg4
 z4:=Tryz.sizeOf4
 v4:=Tryz.zeroValue4
 t23:=Tryz.underlying124
 a23:=Tryz.isAgg124
 z23:=Tryz.sizeOf124
 v23:=Tryz.zeroValue124
 t26:=Tryz.underlying3
 a26:=Tryz.isAgg3
 z26:=Tryz.sizeOf3
 v26:=Tryz.zeroValue3
 t27:=Tryz.underlying121
 a27:=Tryz.isAgg121
 z27:=Tryz.sizeOf121
 v27:=Tryz.zeroValue121
 t28:=Tryz.underlying122
 a28:=Tryz.isAgg122
 z28:=Tryz.sizeOf122
 v28:=Tryz.zeroValue122
 t33:=Tryz.underlying55
 a33:=Tryz.isAgg55
 z33:=Tryz.sizeOf55
 v33:=Tryz.zeroValue55 }
def Tryz.sortedA_ren:Go.Shelf.Ren:=⟨fun|6=>66|8=>99|9=>100|11=>126|13=>128|12=>127|23=>168|24=>169|14=>159|15=>160|16=>161|17=>162|18=>163|19=>164|20=>165|21=>166|22=>167|25=>204|26=>205|27=>206|28=>207|29=>208|30=>209|31=>229|n=>n,fun|26=>3|28=>122|24=>119|0=>0|3=>3|37=>209|48=>187|50=>58|4=>4|40=>236|39=>235|45=>191|5=>5|9=>9|51=>280|55=>284|57=>299|58=>300|33=>55|n=>n,fun|n=>n⟩
theorem Tryz.sortedA:Go.Proofs.SlLaysZI.n6 Tryz.prog Tryz.sortedA_ren:={
 mixed:=by kernel_rfl
 f6:=⟨Tryz.f66.name,by decide,Tryz.func66.trans (congrArg some (by kernel_rfl))⟩
 f8:=⟨Tryz.f99.name,by decide,Tryz.func99.trans (congrArg some (by kernel_rfl))⟩
 f11:=⟨Tryz.f126.name,by decide,Tryz.func126.trans (congrArg some (by kernel_rfl))⟩
 t0:=Tryz.underlying0
 a0:=Tryz.isAgg0
 z0:=Tryz.sizeOf0
 v0:=Tryz.zeroValue0
 t24:=Tryz.underlying119
 a24:=Tryz.isAgg119
 z24:=Tryz.sizeOf119
 v24:=Tryz.zeroValue119
 t26:=Tryz.underlying3
 a26:=Tryz.isAgg3
 z26:=Tryz.sizeOf3
 v26:=Tryz.zeroValue3
 t28:=Tryz.underlying122
 a28:=Tryz.isAgg122
 z28:=Tryz.sizeOf122
 v28:=Tryz.zeroValue122
 i26:=by kernel_rfl }
def Tryz.sortA_ren:Go.Shelf.Ren:=⟨fun|5=>100|8=>128|7=>127|19=>168|20=>169|10=>159|11=>160|12=>161|13=>162|14=>163|15=>164|16=>165|17=>166|18=>167|30=>204|31=>205|32=>206|33=>207|34=>208|35=>209|40=>229|n=>n,fun|23=>119|25=>3|3=>3|32=>209|22=>119|0=>0|44=>187|46=>58|4=>4|36=>236|35=>235|41=>191|5=>5|9=>9|53=>280|57=>284|63=>299|64=>300|n=>n,fun|n=>n⟩
theorem Tryz.sortA:Go.Proofs.SlLaysM.n5 Tryz.prog Tryz.sortA_ren:={
 mixed:=by kernel_rfl
 f5:=⟨Tryz.f100.name,by decide,Tryz.func100.trans (congrArg some (by kernel_rfl))⟩
 f7:=⟨Tryz.f127.name,by decide,Tryz.func127.trans (congrArg some (by kernel_rfl))⟩
 f8:=Tryz.func128.trans (congrArg some (by kernel_rfl))
 f10:=⟨Tryz.f159.name,by decide,Tryz.func159.trans (congrArg some (by kernel_rfl))⟩
 f11:=⟨Tryz.f160.name,by decide,Tryz.func160.trans (congrArg some (by kernel_rfl))⟩
 f12:=⟨Tryz.f161.name,by decide,Tryz.func161.trans (congrArg some (by kernel_rfl))⟩
 f13:=⟨Tryz.f162.name,by decide,Tryz.func162.trans (congrArg some (by kernel_rfl))⟩
 f14:=⟨Tryz.f163.name,by decide,Tryz.func163.trans (congrArg some (by kernel_rfl))⟩
 f15:=⟨Tryz.f164.name,by decide,Tryz.func164.trans (congrArg some (by kernel_rfl))⟩
 f16:=⟨Tryz.f165.name,by decide,Tryz.func165.trans (congrArg some (by kernel_rfl))⟩
 f17:=⟨Tryz.f166.name,by decide,Tryz.func166.trans (congrArg some (by kernel_rfl))⟩
 f18:=⟨Tryz.f167.name,by decide,Tryz.func167.trans (congrArg some (by kernel_rfl))⟩
 f19:=Tryz.func168.trans (congrArg some (by kernel_rfl))
 f20:=Tryz.func169.trans (congrArg some (by kernel_rfl))
 f30:=⟨Tryz.f204.name,by decide,Tryz.func204.trans (congrArg some (by kernel_rfl))⟩
 f31:=Tryz.func205.trans (congrArg some (by kernel_rfl))
 f32:=Tryz.func206.trans (congrArg some (by kernel_rfl))
 f33:=⟨Tryz.f207.name,by decide,Tryz.func207.trans (congrArg some (by kernel_rfl))⟩
 f34:=⟨Tryz.f208.name,by decide,Tryz.func208.trans (congrArg some (by kernel_rfl))⟩
 f35:=⟨Tryz.f209.name,by decide,Tryz.func209.trans (congrArg some (by kernel_rfl))⟩
 f40:=⟨Tryz.f229.name,by decide,Tryz.func229.trans (congrArg some (by kernel_rfl))⟩
 t0:=Tryz.underlying0
 a0:=Tryz.isAgg0
 z0:=Tryz.sizeOf0
 v0:=Tryz.zeroValue0
 t3:=Tryz.underlying3
 a3:=Tryz.isAgg3
 z3:=Tryz.sizeOf3
 v3:=Tryz.zeroValue3
 t4:=Tryz.underlying4
 a4:=Tryz.isAgg4
 z4:=Tryz.sizeOf4
 v4:=Tryz.zeroValue4
 t5:=Tryz.underlying5
 a5:=Tryz.isAgg5
 z5:=Tryz.sizeOf5
 v5:=Tryz.zeroValue5
 t9:=Tryz.underlying9
 a9:=Tryz.isAgg9
 z9:=Tryz.sizeOf9
 v9:=Tryz.zeroValue9
 t22:=Tryz.underlying119
 a22:=Tryz.isAgg119
 z22:=Tryz.sizeOf119
 v22:=Tryz.zeroValue119
 t23:=Tryz.underlying119
 a23:=Tryz.isAgg119
 z23:=Tryz.sizeOf119
 v23:=Tryz.zeroValue119
 t25:=Tryz.underlying3
 a25:=Tryz.isAgg3
 z25:=Tryz.sizeOf3
 v25:=Tryz.zeroValue3
 t32:=Tryz.underlying209
 a32:=Tryz.isAgg209
 z32:=Tryz.sizeOf209
 v32:=Tryz.zeroValue209
 t35:=Tryz.underlying235
 a35:=Tryz.isAgg235
 z35:=Tryz.sizeOf235
 v35:=Tryz.zeroValue235
 t36:=Tryz.underlying236
 a36:=Tryz.isAgg236
 z36:=Tryz.sizeOf236
 v36:=Tryz.zeroValue236
 t41:=Tryz.underlying191
 a41:=Tryz.isAgg191
 z41:=Tryz.sizeOf191
 v41:=Tryz.zeroValue191
 t44:=Tryz.underlying187
 a44:=Tryz.isAgg187
 z44:=Tryz.sizeOf187
 v44:=Tryz.zeroValue187
 t46:=Tryz.underlying58
 a46:=Tryz.isAgg58
 z46:=Tryz.sizeOf58
 v46:=Tryz.zeroValue58
 t53:=Tryz.underlying280
 a53:=Tryz.isAgg280
 z53:=Tryz.sizeOf280
 v53:=Tryz.zeroValue280
 t57:=Tryz.underlying284
 a57:=Tryz.isAgg284
 z57:=Tryz.sizeOf284
 v57:=Tryz.zeroValue284
 t63:=Tryz.underlying299
 a63:=Tryz.isAgg299
 z63:=Tryz.sizeOf299
 v63:=Tryz.zeroValue299
 t64:=Tryz.underlying300
 a64:=Tryz.isAgg300
 z64:=Tryz.sizeOf300
 v64:=Tryz.zeroValue300 }
end Go.Proofs


namespace Go.Proofs.YtdljelmbjdjpjaaGreat
open Go Go.RowKit Sx
theorem HOK.newB {X:Ctx} {ρ:Nat→Nat×Nat} {h:Hp} {w w':World} {i g:Nat} {d:Chunk} (H:HOK X ρ h w) (hi:h[i]?=some none) (hB:Below w.heap.size w w') (hg:w.heap.size≤g∧g<w'.heap.size) (hx:d.x=Ext.none)
  (hc:∀ j,j<d.n→w'.cell? ⟨g,j,none⟩=some (d.f j)∧qa3 (d.f j)=true∧w'.frozen? ⟨g,j,none⟩=false):∃ ρ',AgreeOn (Fil h) ρ ρ'∧ρ' i=(g,0)∧HOK X ρ' (h.set i (some d)) w':=by
 have H2:=H.frame hB
 obtain⟨S,E⟩:=H.ext
 obtain⟨S2,E2⟩:=H2.ext
 have hl:=(List.getElem?_eq_some_iff.1 hi).1
 have nf:¬ Fil h i:=fun⟨d,hd⟩=>by rw[hi] at hd;cases hd
 let ρ':Nat→Nat×Nat:=fun k=>if k=i then (g,0) else ρ k
 have hag:AgreeOn (Fil h) ρ ρ':=fun k hk=>by
  show(if k=i then _ else _)=_
  rw[if_neg];rintro rfl;exact nf hk
 have hρi:ρ' i=(g,0):=if_pos rfl
 have hρk:∀ k,k≠i→ρ' k=ρ k:=fun k hk=>if_neg hk
 have get:∀ k e,(h.set i (some d))[k]?=some (some e)→(k=i∧e=d)∨(k≠i∧h[k]?=some (some e)):=fun k e hk=>by
  by_cases ek:i=k
  ·subst ek
   rw[List.getElem?_set_self hl] at hk
   exact .inl ⟨rfl,by simpa using hk.symm⟩
  ·rw[List.getElem?_set_ne ek] at hk
   exact .inr ⟨fun h=>ek h.symm,hk⟩
 have fil:∀ k,Fil h k→Fil (h.set i (some d)) k:=fun k hk=>hk.set
 refine⟨ρ',hag,hρi,H2.evo,fun k hk=>⟨fil k (H2.base k hk).1,?_⟩,fun k e hk=>?_,fun k e hk j hj=>?_,fun k e hk hoe j hj=>?_,fun k e l f hk hoe hlf hne=>?_,?_⟩
 ·rw[hag k (H2.base k hk).1];exact(H2.base k hk).2
 ·rcases get k e hk with ⟨rfl,rfl⟩|⟨hne,hk⟩
  ·rw[hρi];exact hg.2
  ·rw[hρk k hne];exact H2.lt _ _ hk
 ·rcases get k e hk with ⟨rfl,rfl⟩|⟨hne,hk⟩
  ·rw[hρi]
   obtain⟨h1,h2,_⟩:=hc j hj
   exact⟨_,by simpa using h1,Den1.plain h2⟩
  ·rw[hρk k hne]
   obtain⟨y,hy,hd⟩:=H2.cell _ _ hk j hj
   exact⟨y,hy,hd.more hag fil⟩
 ·rcases get k e hk with ⟨rfl,rfl⟩|⟨hne,hk⟩
  ·rw[hρi]
   exact⟨by simpa using (hc j hj).2.2,.inl (Nat.le_trans H.evo.size hg.1)⟩
  ·rw[hρk k hne];exact H2.own _ _ hk hoe j hj
 ·rcases get k e hk with ⟨rfl,rfl⟩|⟨hk1,hk'⟩<;>rcases get l f hlf with ⟨rfl,rfl⟩|⟨hl1,hl'⟩
  ·exact absurd rfl hne
  ·rw[hρi,hρk l hl1];have:=H.lt _ _ hl';simp;omega
  ·rw[hρi,hρk k hk1];have:=H.lt _ _ hk';simp;omega
  ·rw[hρk k hk1,hρk l hl1];exact H2.sep _ _ _ _ hk' hoe hl' hne
 ·refine⟨fun k b=>k≠i∧S k b,fun k e hk=>?_,fun k e b hk hS=>?_,fun k e b l f hk hS hl' hne=>?_⟩
  ·rcases get k e hk with ⟨rfl,rfl⟩|⟨hne,hk⟩
   ·rw[hx];exact fun b hb=>hb.1 rfl
   ·have:(fun b=>k≠i∧S k b)=S k:=by funext b;exact propext ⟨fun h=>h.2,fun h=>⟨hne,h⟩⟩
    rw[this,hρk k hne]
    exact e.x.keep (E.inv k e hk) fun b hSb=>hB.block b (E.mine k e b hk hSb).2.1
  ·rcases get k e hk with ⟨rfl,rfl⟩|⟨hne,hk⟩
   ·exact absurd rfl hS.1
   ·obtain⟨g1,g2,g3⟩:=E.mine k e b hk hS.2
    exact⟨by rw[hρk k hne];exact g1,Nat.lt_of_lt_of_le g2 hB.size,g3⟩
  ·rcases get k e hk with ⟨rfl,rfl⟩|⟨hk1,hk⟩
   ·exact absurd rfl hS.1
   ·have hlt:=(E.mine k e b hk hS.2).2.1
    rcases get l f hl' with ⟨hli,hfd⟩|⟨hl1,hl'⟩
    ·refine⟨by rw[hli,hρi];show g≠b;omega,fun h=>h.1 hli⟩
    ·obtain⟨a1,a2⟩:=E.apart _ _ b _ _ hk hS.2 hl' hne
     exact⟨by rw[hρk l hl1];exact a1,fun h=>a2 h.2⟩
theorem wfI {a:Int} (h : -9223372036854775808≤a∧a≤9223372036854775807):(Lit.int .i64 a).wf=true:=by
 have h1:IntKind.min .i64 = -9223372036854775808:=by decide
 have h2:IntKind.max .i64=9223372036854775807:=by decide
 simp only[Lit.wf,h1,h2,Bool.and_eq_true,decide_eq_true_eq];exact h
theorem Tryz.sortsA (m:Nat):AnyZI.SortsIn Tryz.prog Tryz.sortedA_ren Fence.wide m:=
 ⟨fun blk off cap ss W hH hblk hsz=>callsIn_wide.2 (AnyM.slices_Sort_int Tryz.sortA blk off cap ss W hH hblk hsz),
  fun p cap W=>callsIn_wide.2 (AnyM.slices_Sort_int_none Tryz.sortA p cap W)⟩
abbrev q0a:FuncId:=67
abbrev qmv:FuncId:=101
abbrev qpv:FuncId:=66
theorem q30 (mb:Option Nat) (W:World):Calls Tryz.prog q0a #[.map mb] W fun e w'=>e=.returned (.func (.func qmv) #[] #[.pointer (some ⟨W.heap.size,0,none⟩)])∧w'=W.alloc (.cells #[.map mb] 124):=
 callsIn_wide.1 (AnyZI.keys_in Tryz.keysA Fence.wide 5 trivial rfl mb W)
theorem qg1 {H:Type}:∀ l:List (Lit×DataW H),(l.foldr DataW.insert []).Perm l
 | []=>.nil
 | x::l=>(WideShapes.insert_perm x _).trans ((qg1 l).cons x)
abbrev leZ:Int→Int→Bool:=fun x y=>decide (x≤y)
def sortK {α:Type} (D:List (Int×α)):List Int:=(D.map (·.1)).mergeSort leZ
theorem qmw {α:Type} (D:List (Int×α)):(sortK D).length=D.length:=by simp[sortK]
theorem qrd {α:Type} (D:List (Int×α)):(sortK D).Perm (D.map (·.1)):=List.mergeSort_perm _ _
theorem qxd {α:Type} {enc:α→Value} (D:List (Int×α)) (B b:Nat) (W:World) (hB:B<W.heap.size) (hc:W.cell? ⟨B,0,none⟩=some (.map (some b))) {es:Array MapEntry} {clock:Nat} (hb:W.heap[b]?=some (.map es clock)) (M:MapIs enc D es clock) (hl:D.length≤100000) :
  Calls Tryz.prog qpv #[.func (.func qmv) #[] #[.pointer (some ⟨B,0,none⟩)]] W fun e w'=>∃ v,e=.returned v∧w'.ownsRow W.heap.size 3 1 v D.length ((sortK D).map encZ)∧(v=.slice none 0 0↔D=[])∧Below W.heap.size W w':=by
 let R:Value→Option (DataW Unit×List MemPlace):=fun _=>some (.nil,[])
 let D0:DataW Unit:=.map ((es.toList.map (Go.WideElems.rg Tryz.prog 3 R)).foldr DataW.insert [])
 have hk:=Tryz.underlying3
 have hrd:∀ x∈es.toList,∃ k,x.key=.int .i64 k∧Go.WideElems.rd Tryz.prog 3 R x=some (.int .i64 k,.nil):=fun x hx=>by
  have:(x.key,x.val)∈es.toList.map (fun e=>(e.key,e.val)):=List.mem_map.2 ⟨x,hx,rfl⟩
  rw[M.ents] at this
  obtain⟨q,hq,e⟩:=List.mem_map.1 this
  have e1:=(Prod.mk.inj e).1.symm
  have hw:=M.wf q hq
  refine⟨q.1,e1,?_⟩
  unfold Go.WideElems.rd
  rw[e1,Maps.keyOf_int_mk hk (wfI hw)]
  rfl
 have hsz:=M.size
 have hown:W.ownsMap Tryz.prog 3 R b es.size D0:=⟨es,clock,hb,⟨by rw[hsz];exact Nat.le_trans hl (by decide),M.stamped,fun x hx=>by obtain⟨k,_,h2⟩:=hrd x hx;exact⟨_,h2⟩⟩,nlr _,rfl⟩
 have hD0:Maps.size D0=D.length:=by
  show((es.toList.map (Go.WideElems.rg Tryz.prog 3 R)).foldr DataW.insert []).length=_
  rw[(qg1 _).length_eq]
  simp[hsz]
 have hkeys:(intKeys D0).Perm (D.map (·.1)):=by
  show(((es.toList.map (Go.WideElems.rg Tryz.prog 3 R)).foldr DataW.insert []).map fun p=>Go.intOf p.1).Perm _
  refine((qg1 _).map _).trans ?_
  have e1:((es.toList.map (Go.WideElems.rg Tryz.prog 3 R)).map fun p=>Go.intOf p.1)=(es.toList.map (fun e=>e.key)).map fun v=>match v with|.int _ a=>a|_=>0:=by
   rw[List.map_map,List.map_map]
   refine List.map_congr_left fun x hx=>?_
   obtain⟨k,h1,h2⟩:=hrd x hx
   simp only[Function.comp_def,Go.WideElems.rg,h2,h1,Option.getD_some,Go.intOf]
  have e2:es.toList.map (fun e=>e.key)=D.map fun q=>(.int .i64 q.1:Value):=by
   have:=congrArg (fun l=>l.map Prod.fst) M.ents
   simpa[List.map_map,Function.comp_def] using this
  rw[e1,e2,List.map_map]
  exact .refl _
 have hseq:=AnyZI.keys_gives (ρ:=Tryz.keysA_ren) { Tryz.keysA with } Fence.wide 2 trivial rfl (by omega) B b es.size D0 W hB hc hown
 have cS:=AnyZI.sorted_in Tryz.sortedA Fence.wide 5 trivial trivial trivial trivial rfl (by omega) (Tryz.sortsA _) (enters_of Tryz.func100 (by kernel_rfl) rfl) qmv #[.pointer (some ⟨B,0,none⟩)] trivial (enters_of Tryz.func101 (by kernel_rfl) rfl) _ _ (by rw[hD0];exact Nat.le_trans hl (by decide)) (by rw[hD0];omega) W hseq
 refine(callsIn_wide.1 cS).mono ?_
 rintro e w' ⟨v,ss,rfl,hS,hrow,hnil,hbel⟩
 have hp:ss.Perm (D.map (·.1)):=hS.trans hkeys
 have hlen:ss.length=D.length:=by rw[hp.length_eq];simp
 have hsort:ss.mergeSort (fun x y=>decide (x≤y))=sortK D:=mergeSort_of_perm_i hp
 rw[hsort,hlen] at hrow
 refine⟨v,rfl,hrow,hnil.trans ⟨fun h=>?_,fun h=>?_⟩,hbel⟩
 ·rw[h] at hlen;exact List.length_eq_zero_iff.1 hlen.symm
 ·rw[h] at hlen;exact List.length_eq_zero_iff.1 hlen
abbrev seqV (k:Nat):Value:=.func (.func qmv) ⟨[]⟩ ⟨[.pointer (some ⟨k,0,some 0⟩)]⟩
abbrev keyC (i:Nat):Chunk:=@Chunk.mk atZ true 1 [(0,1,.map (some i))]
theorem q0b (i k:Nat) (c:Chunk) (h:Hp) (hi:h[i]?=some (some c)) (hk:h[k]?=some none):qad Tryz.prog q0a [.map (some i)] h (seqV k) [(k,keyC i)] [i]:=fun h₂ hr hm X ρ w xs H hx=>by
 have hi2:h₂[i]?=some (some c):=(hr i (by simp)).trans hi
 have hk2:h₂[k]?=some none:=(hm _ (List.mem_singleton.2 rfl)).trans hk
 obtain⟨x,rfl⟩:∃ x,xs=[x]:=by
  match xs,hx with
  | [x],_=>exact⟨x,rfl⟩
 have hx1:x=.map (some (ρ i).1):=hx.1.self.symm
 refine .inr ⟨Tryz.call67 _ w,?_⟩
 rw[hx1]
 refine(q30 (some (ρ i).1) w).mono ?_
 rintro e w' ⟨rfl,rfl⟩
 obtain⟨ρ',ha,hρ,H'⟩:=H.alloc (c:=⟨true,1,[(0,1,.map (some i))]⟩) (xs:=#[.map (some (ρ i).1)]) (ty:=124) hk2 rfl (fun j y hy=>by
  cases j with
  | zero=>
   simp at hy;subst hy
   exact fun r hr=>by
    have:=hr i ⟨c,hi2⟩
    show den1 r (.map (some i))=_
    simp[den1,den0,this]
  | succ j=>simp at hy)
 have H3:=H'.setX (k:=k) (List.getElem?_set_self (List.getElem?_eq_some_iff.1 hk2).1) atZ fun S hS=>⟨by rw[hρ],hS⟩
 rw[List.set_set] at H3
 refine⟨_,rfl,ρ',ha,H3,fun r hr=>?_⟩
 have:=hr k ⟨keyC i,by show(h₂.set k _)[k]?=_;rw[List.getElem?_set_self (List.getElem?_eq_some_iff.1 hk2).1]⟩
 simp[den,den2,den1,den0,denA,this,hρ]
abbrev intsC (l:List Int):Chunk:=⟨true,l.length,[(0,l.length,.agg ⟨l.map (Value.int .i64)⟩)]⟩
theorem qnx {l:List Int} {j:Nat} {x:Int} (h:l[j]?=some x):(intsC l).f j=.int .i64 x:=by
 have hl:=(List.getElem?_eq_some_iff.1 h).1
 show qa5 [(0,l.length,.agg ⟨l.map (Value.int .i64)⟩)] j=_
 rw[qao,if_pos (by omega)]
 simp[cellIn,h]
def sortR {α:Type} (D:List (Int×α)) (k:Nat) (v:Value) (ms:List (Nat×Chunk)):Prop:=
 (D=[]∧v=.slice none 0 0∧ms=[])∨∃ cap,0<D.length∧D.length≤cap∧v=.slice (some ⟨k,0,some 0⟩) D.length cap∧ms=[(k,intsC (sortK D))]
theorem qpw {α:Type} {enc:α→Value} (D:List (Int×α)) (i l k:Nat) (c:Chunk) (h:Hp) (hi:h[i]?=some (some c)) (hc:c.x=mapX enc D) (hl:h[l]?=some (some (keyC i))) (hk:h[k]?=some none) (hlen:D.length≤100000):CallAll Tryz.prog qpv [seqV l] h (sortR D k):=fun X ρ w xs H hx=>by
 obtain⟨x,rfl⟩:∃ x,xs=[x]:=by
  match xs,hx with
  | [x],_=>exact⟨x,rfl⟩
 obtain⟨S,E⟩:=H.ext
 have hz:(ρ l).2=0:=(E.inv l _ hl).1
 have hx1:x=.func (.func qmv) #[] #[.pointer (some ⟨(ρ l).1,0,none⟩)]:=by
  rw[←hx.1.self];simp[den,den2,den1,den0,denA,hz]
 obtain⟨hS,es,clock,hb,M⟩:(∀ b,S i b↔b=(ρ i).1)∧∃ es clock,w.heap[(ρ i).1]?=some (.map es clock)∧MapIs enc D es clock:=by have:=E.inv i c hi;rw[hc] at this;exact this
 have hcell:w.cell? ⟨(ρ l).1,0,none⟩=some (.map (some (ρ i).1)):=by
  obtain⟨y,hy,hd⟩:=H.cell l _ hl 0 (by show 0<1;decide)
  rw[hz] at hy
  have:=hd.self
  rw[hy,←this]
  rfl
 refine .inr ⟨Tryz.call66 _ w,?_⟩
 rw[hx1]
 refine(qxd D (ρ l).1 (ρ i).1 w (H.lt l _ hl) hcell hb M hlen).mono ?_
 rintro e w' ⟨v,rfl,⟨_,hrow⟩,hnil,hbel⟩
 rcases hrow with ⟨rfl,h0⟩|⟨g,cap,cur,rfl,hbase,hg,hcap,hmax,hsz,htake⟩
 ·exact⟨_,rfl,.slice none 0 0,[],ρ,.inl ⟨List.length_eq_zero_iff.1 h0,rfl,rfl⟩,AgreeOn.refl _ _,H.frame hbel,fun r _=>rfl⟩
 ·have hpos:0<D.length:=by
   rcases Nat.eq_zero_or_pos D.length with h0|h0
   ·have:=hnil.2 (List.length_eq_zero_iff.1 h0);cases this
   ·exact h0
  have hlt:g<w'.heap.size:=(Array.getElem?_eq_some_iff.1 hg).1
  rw[Nat.mul_one] at htake hsz
  obtain⟨ρ',ha,hρ,H'⟩:=HOK.newB (d:=intsC (sortK D)) H hk hbel ⟨hbase,hlt⟩ rfl (fun j hj=>by
   have hj:j<(sortK D).length:=hj
   have e1:(sortK D)[j]?=some (sortK D)[j]:=by simp[hj]
   rw[qnx e1]
   refine⟨?_,rfl,by simp[World.frozen?,hg]⟩
   have h1:(cur.toList.take D.length)[j]?=((sortK D).map encZ)[j]?:=by rw[htake]
   rw[List.getElem?_take_of_lt (by rw[←qmw D];exact hj)] at h1
   simp only[World.cell?,hg]
   simp only[Option.isSome_none,Bool.false_eq_true,if_false]
   rw[←Array.getElem?_toList,h1]
   simp[hj])
  refine⟨_,rfl,.slice (some ⟨k,0,some 0⟩) D.length cap,[(k,intsC (sortK D))],ρ',.inr ⟨cap,hpos,hcap,rfl,rfl⟩,ha,H',fun r hr=>?_⟩
  have:=hr k ⟨intsC (sortK D),by show(h.set k _)[k]?=_;rw[List.getElem?_set_self (List.getElem?_eq_some_iff.1 hk).1]⟩
  simp[den,den2,den1,den0,denA,this,hρ]
end Go.Proofs.YtdljelmbjdjpjaaGreat


namespace Go.Proofs.YtdljelmbjdjpjaaGreat.Sx
open Go Go.RowKit
def ixI:List (Nat×Nat)→Nat→Option Nat
 | [],_=>none
 | (k,i)::r,n=>match Nat.beq i n with
  | true=>some k
  | false=>ixI r n
def qpx:List (Nat×Nat)→Nat→Nat→Bool
 | [],_,_=>true
 | (k,i)::r,a,b=>(!Nat.beq k a && !Nat.beq i b)&&qpx r a b
def ixNo:List (Nat×Nat)→Bool
 | []=>true
 | (k,i)::r=>qpx r k i&&ixNo r
def qmx (ix:List (Nat×Nat)):Nat→Bool
 | 0=>true
 | n+1=>(match ixI ix n with
  | some k=>Nat.beq k n
  | none=>false)&&qmx ix n
def ixFil (h:Hp):List (Nat×Nat)→Bool
 | []=>true
 | (_,i)::r=>filB h i&&ixFil h r
theorem qg2:∀ {ix:List (Nat×Nat)} {a b:Nat},qpx ix a b=true→∀ k i,(k,i)∈ix→k≠a∧i≠b
 | [],_,_,_,k,i,h=>by simp at h
 | (x,y)::r,a,b,h,k,i,hm=>by
  simp only[qpx,Bool.and_eq_true,Bool.not_eq_true'] at h
  rcases List.mem_cons.1 hm with e|hm
  ·simp only[Prod.mk.injEq] at e
   obtain⟨rfl,rfl⟩:=e
   exact⟨fun e=>by subst e;simp at h,fun e=>by subst e;simp at h⟩
  ·exact qg2 h.2 k i hm
theorem qdp:∀ {ix:List (Nat×Nat)},ixNo ix=true→∀ k i k' i',(k,i)∈ix→(k',i')∈ix→((k=k'∨i=i')→k=k'∧i=i')
 | [],_,k,i,k',i',h,_,_=>by simp at h
 | (x,y)::r,hn,k,i,k',i',h,h',he=>by
  simp only[ixNo,Bool.and_eq_true] at hn
  rcases List.mem_cons.1 h with e|hm<;>rcases List.mem_cons.1 h' with e'|hm'
  ·simp only[Prod.mk.injEq] at e e';omega
  ·simp only[Prod.mk.injEq] at e
   have:=qg2 hn.1 k' i' hm'
   omega
  ·simp only[Prod.mk.injEq] at e'
   have:=qg2 hn.1 k i hm
   omega
  ·exact qdp hn.2 k i k' i' hm hm' he
theorem qny:∀ {ix:List (Nat×Nat)} {i k:Nat},ixI ix i=some k→(k,i)∈ix
 | [],_,_,h=>by cases h
 | (a,b)::r,i,k,h=>by
  simp only[ixI] at h
  cases e:Nat.beq b i with
  | true=>
   rw[e] at h
   have:=Nat.eq_of_beq_eq_true e
   simp only[Option.some.injEq] at h
   subst this h;simp
  | false=>rw[e] at h;exact List.mem_cons_of_mem _ (qny h)
theorem q0c:∀ {ix:List (Nat×Nat)} {i k:Nat},ixNo ix=true→(k,i)∈ix→ixI ix i=some k
 | [],_,_,_,h=>by simp at h
 | (a,b)::r,i,k,hn,h=>by
  simp only[ixI]
  cases e:Nat.beq b i with
  | true=>
   have e:=Nat.eq_of_beq_eq_true e
   subst e
   have:=(qdp hn a b k b (by simp) h (.inr rfl)).1
   rw[this]
  | false=>
   simp only[ixNo,Bool.and_eq_true] at hn
   rcases List.mem_cons.1 h with e'|hm
   ·simp only[Prod.mk.injEq] at e'
    obtain⟨rfl,rfl⟩:=e'
    rw[Nat.beq_refl] at e;cases e
   ·exact q0c hn.2 hm
theorem qju {ix:List (Nat×Nat)}:∀ {n:Nat},qmx ix n=true→∀ i,i<n→ixI ix i=some i
 | 0,_,i,h=>absurd h (by omega)
 | n+1,hb,i,h=>by
  simp only[qmx,Bool.and_eq_true] at hb
  rcases Nat.lt_or_ge i n with h1|h1
  ·exact qju hb.2 i h1
  ·obtain rfl:i=n:=by omega
   cases e:ixI ix i with
   | none=>rw[e] at hb;simp at hb
   | some k=>rw[e] at hb;simp only at hb;rw[Nat.eq_of_beq_eq_true hb.1]
theorem qig {h:Hp}:∀ {ix:List (Nat×Nat)},ixFil h ix=true→∀ k i,(k,i)∈ix→Fil h i
 | [],_,k,i,hm=>by simp at hm
 | (a,b)::r,hb,k,i,hm=>by
  simp only[ixFil,Bool.and_eq_true] at hb
  rcases List.mem_cons.1 hm with e|hm
  ·simp only[Prod.mk.injEq] at e
   obtain⟨rfl,rfl⟩:=e
   exact filB_iff.1 hb.1
  ·exact qig hb.2 k i hm
class XLe (c' c:Chunk):Prop where
 le:c'.x=Ext.none∨c'.x=c.x
instance XLe.none {o:Bool} {n:Nat} {ps:List (Nat×Nat×Value)} {c:Chunk}:XLe (@Chunk.mk Ext.none o n ps) c:=⟨.inl rfl⟩
instance XLe.refl (c:Chunk):XLe c c:=⟨.inr rfl⟩
structure ChunkReLe (ix:List (Nat×Nat)) (c' c:Chunk):Prop where
 [x:XLe c' c]
 own:c'.own=true→c.own=true
 le:c'.n≤c.n
 re:∀ j,j<c'.n→Re1 ix (c'.f j) (c.f j)
theorem ChunkReLe.same {ix:List (Nat×Nat)} {o:Bool} {n:Nat} {ps:List (Nat×Nat×Value)} (hp:∀ j,j<n→qa3 (qa5 ps j)=true):ChunkReLe ix ⟨o,n,ps⟩ ⟨o,n,ps⟩:=⟨id,nlr _,fun j hj=>.plain (hp j hj)⟩
def renT (ix:List (Nat×Nat)):List (Option Value)→List (Option Value)→Prop→Prop
 | [],[],A=>A
 | _::a,none::b,A=>renT ix a b A
 | some u::a,some v::b,A=>N (Obl (Re ix v u) (renT ix a b A))
 | _,_,_=>False
def renH (ix:List (Nat×Nat)) (h:Hp):Hp→Nat→Prop→Prop
 | [],_,A=>A
 | none::b,i,A=>renH ix h b (i+1) A
 | some c'::b,i,A=>match ixI ix i with
  | some k=>getH h k fun c=>N (Obl (ChunkReLe ix c' c) (renH ix h b (i+1) A))
  | none=>False
def renK (n0:Nat) (ix:List (Nat×Nat)) (st s:St) (A:Prop):Prop:=
 match st,s with
 | ⟨t,h⟩,⟨t',h'⟩=>match ixNo ix&&qmx ix n0&&ixFil h' ix with
  | true=>renT ix t t' (renH ix h h' 0 A)
  | false=>False
theorem qkv {ix:List (Nat×Nat)}:∀ {t t':List (Option Value)} {A:Prop},renT ix t t' A→t'.length=t.length∧(∀ (i:Nat) (v:Value),t'[i]?=some (some v)→∃ u,t[i]?=some (some u)∧Re ix v u)∧A
 | [],[],A,h=>⟨rfl,fun i v hi=>by simp at hi,h⟩
 | x::a,none::b,A,h=>by
  have h:renT ix a b A:=by cases x<;>exact h
  obtain⟨h1,h2,h3⟩:=qkv h
  refine⟨by simp[h1],fun i v hi=>?_,h3⟩
  cases i with
  | zero=>simp at hi
  | succ i=>simpa using h2 i v (by simpa using hi)
 | some u::a,some v::b,A,h=>by
  obtain⟨e,h⟩:=N.out h
  obtain⟨h1,h2,h3⟩:=qkv h
  refine⟨by simp[h1],fun i w hi=>?_,h3⟩
  cases i with
  | zero=>simp at hi;subst hi;exact⟨u,rfl,e⟩
  | succ i=>simpa using h2 i w (by simpa using hi)
 | none::a,some v::b,A,h=>h.elim
 | [],_::_,A,h=>h.elim
 | _::_,[],A,h=>by cases ‹Option Value›<;>exact h.elim
theorem qkw {ix:List (Nat×Nat)} {h:Hp}:∀ {b:Hp} {i0:Nat} {A:Prop},renH ix h b i0 A→(∀ (i:Nat) (c':Chunk),b[i]?=some (some c')→∃ k c,ixI ix (i0+i)=some k∧h[k]?=some (some c)∧ChunkReLe ix c' c)∧A
 | [],i0,A,hh=>⟨fun i c' hi=>by simp at hi,hh⟩
 | none::b,i0,A,hh=>by
  obtain⟨h1,h2⟩:=qkw (b:=b) hh
  refine⟨fun i c' hi=>?_,h2⟩
  cases i with
  | zero=>simp at hi
  | succ i=>have:=h1 i c' (by simpa using hi);rwa[show i0+1+i=i0+(i+1) from by omega] at this
 | some c0::b,i0,A,hh=>by
  simp only[renH] at hh
  split at hh
  ·rename_i k hk
   obtain⟨c,hc,hh⟩:=qba hh
   obtain⟨e,hh⟩:=N.out hh
   obtain⟨h1,h2⟩:=qkw (b:=b) hh
   refine⟨fun i c' hi=>?_,h2⟩
   cases i with
   | zero=>simp at hi;subst hi;exact⟨k,c,hk,hc,e⟩
   | succ i=>have:=h1 i c' (by simpa using hi);rwa[show i0+1+i=i0+(i+1) from by omega] at this
  ·exact hh.elim
theorem qtw {n0:Nat} {ix:List (Nat×Nat)} {st s:St} {A:Prop} (hh:renK n0 ix st s A):Wkg n0 st s∧A:=by
 obtain⟨t,h⟩:=st
 obtain⟨t',h'⟩:=s
 simp only[renK] at hh
 cases hb:ixNo ix&&qmx ix n0&&ixFil h' ix with
 | false=>rw[hb] at hh;exact hh.elim
 | true=>
  rw[hb] at hh
  simp only[Bool.and_eq_true] at hb
  obtain⟨a1,a2,hh⟩:=qkv hh
  obtain⟨b1,hA⟩:=qkw hh
  refine⟨fun X ρ a w hn R=>?_,hA⟩
  subst hn
  let ρ':Nat→Nat×Nat:=fun i=>match ixI ix i with
   | some k=>ρ k
   | none=>ρ i
  have hρ:∀ k i,(k,i)∈ix→ρ' i=ρ k:=fun k i hm=>by
   show(match ixI ix i with|some k=>ρ k|none=>ρ i)=ρ k
   rw[q0c hb.1.1 hm]
  have hr:∀ r,AgreeOn (Fil h') ρ' r→∀ k i,(k,i)∈ix→r i=ρ k:=fun r hrr k i hm=>(hrr i (qig hb.2 k i hm)).trans (hρ k i hm)
  have hat:∀ i c',h'[i]?=some (some c')→∃ k c,(k,i)∈ix∧h[k]?=some (some c)∧ChunkReLe ix c' c:=fun i c' hi=>by
   obtain⟨k,c,h1,h2,h3⟩:=b1 i c' hi
   rw[Nat.zero_add] at h1
   exact⟨k,c,qny h1,h2,h3⟩
  refine⟨ρ',R.defers,R.size.trans a1.symm,fun i v hi=>?_,R.heap.evo,fun i hi=>?_,fun i c' hi=>?_,fun i c' hi j hj=>?_,fun i c' hi ho j hj=>?_,fun i c' j d' hi ho hj hne=>?_,?_⟩
  ·obtain⟨u,hu,hre⟩:=a2 i v hi
   obtain⟨x,hx,hd⟩:=R.slot i u hu
   exact⟨x,hx,fun r hrr=>(hre.den (hr r hrr)).trans hd.self⟩
  ·have hm:=qny (qju hb.1.2 i hi)
   exact⟨qig hb.2 i i hm,(hρ i i hm).trans (R.heap.base i hi).2⟩
  ·obtain⟨k,c,hm,hc,_⟩:=hat i c' hi
   rw[hρ k i hm];exact R.heap.lt k c hc
  ·obtain⟨k,c,hm,hc,L⟩:=hat i c' hi
   obtain⟨x,hx,hd⟩:=R.heap.cell k c hc j (Nat.lt_of_lt_of_le hj L.le)
   rw[hρ k i hm]
   exact⟨x,hx,fun r hrr=>((L.re j hj).den (hr r hrr)).trans hd.self⟩
  ·obtain⟨k,c,hm,hc,L⟩:=hat i c' hi
   rw[hρ k i hm]
   exact R.heap.own k c hc (L.own ho) j (Nat.lt_of_lt_of_le hj L.le)
  ·obtain⟨k,c,hm,hc,L⟩:=hat i c' hi
   obtain⟨l,d,hm',hd,_⟩:=hat j d' hj
   rw[hρ k i hm,hρ l j hm']
   exact R.heap.sep k c l d hc (L.own ho) hd fun e=>hne (qdp hb.1.1 k i l j hm hm' (.inl e)).2
  ·obtain⟨S,E⟩:=R.heap.ext
   refine⟨fun i b=>∃ k c',(k,i)∈ix∧h'[i]?=some (some c')∧c'.x≠Ext.none∧S k b,fun i c' hi=>?_,fun i c' b hi hS=>?_,fun i c' b j d' hi hS hj hne=>?_⟩
   ·obtain⟨k,c,hm,hc,L⟩:=hat i c' hi
    by_cases en:c'.x=Ext.none
    ·rw[en]
     rintro b ⟨_,c'',_,hi',h1,_⟩
     rw[hi] at hi'
     obtain rfl:c'=c'':=by simpa using hi'
     exact h1 en
    ·have:(fun b=>∃ k c',(k,i)∈ix∧h'[i]?=some (some c')∧c'.x≠Ext.none∧S k b)=S k:=by
      funext b
      refine propext ⟨?_,fun hb=>⟨k,c',hm,hi,en,hb⟩⟩
      rintro⟨k',_,hm',_,_,hb'⟩
      rw[(qdp hb.1.1 k i k' i hm hm' (.inr rfl)).1];exact hb'
     rw[this,hρ k i hm]
     rcases L.x.le with e|e
     ·exact absurd e en
     ·rw[e];exact E.inv k c hc
   ·obtain⟨k,c,hm,hc,L⟩:=hat i c' hi
    obtain⟨k',_,hm',_,_,hb'⟩:=hS
    rw[←(qdp hb.1.1 k i k' i hm hm' (.inr rfl)).1] at hb'
    obtain⟨h1,h2,h3⟩:=E.mine k c b hc hb'
    have:=L.le
    exact⟨by rw[hρ k i hm];omega,h2,h3⟩
   ·obtain⟨k,c,hm,hc,L⟩:=hat i c' hi
    obtain⟨k',_,hm',_,_,hb'⟩:=hS
    rw[←(qdp hb.1.1 k i k' i hm hm' (.inr rfl)).1] at hb'
    obtain⟨l,d,hml,hd,_⟩:=hat j d' hj
    obtain⟨a1,a2⟩:=E.apart k c b l d hc hb' hd fun e=>hne (qdp hb.1.1 l j k i hml hm (.inl e)).2
    refine⟨by rw[hρ l j hml];exact a1,?_⟩
    rintro⟨l',_,hml',_,_,hbl⟩
    rw[←(qdp hb.1.1 l j l' j hml hml' (.inr rfl)).1] at hbl
    exact a2 hbl
def NextR {α:Type} (p:α→Prop) (K:List (Nat×Nat)→α→Prop):Prop:=∃ y ix,p y∧K ix y
theorem N.nextR {α:Type} {p:α→Prop} {K:List (Nat×Nat)→α→Prop} (y:α) (ix:List (Nat×Nat)) (hp:p y) (k:K ix y):N (NextR p K):=N.mk ⟨y,ix,hp,k⟩
section
variable {P:Program} {G:Tys}
theorem qjv:∀ {n:Nat} {K:Hp→Prop},qpi n K↔K (List.replicate n none)
 | 0,K=>Iff.rfl
 | n+1,K=>qjv (n:=n) (K:=fun r=>K (none::r))
theorem appK_iff:∀ {h:Hp} {n:Nat} {K:Hp→Prop},appK h n K↔K (h++List.replicate n none)
 | [],n,K=>qjv
 | x::r,n,K=>appK_iff (h:=r) (n:=n) (K:=fun r'=>K (x::r'))
theorem N.loopR {n0:Nat} {c:Code} {A:(Exit→St→Prop)→St→Prop} {Q:Exit→St→Prop} {t:List (Option Value)} {h:Hp} {α:Type} (inv:α→Prop) (μ:α→Nat) (sets:α→List (Nat×Value)) (hs:α→List (Nat×Chunk)) (x0:α) (ix0:List (Nat×Nat)) (h0:inv x0)
  (hw:updK (maskC c) (sets x0) t 0 fun t'=>appK h 3 fun hp=>setM hp (hs x0) fun h'=>renK n0 ix0 ⟨t,h⟩ ⟨t',h'⟩ (N True))
  (hr:∀ x,inv x→updK (maskC c) (sets x) t 0 fun t'=>appK h 3 fun hp=>setM hp (hs x) fun h'=>A (thenQ (fun s=>N (NextR (fun y=>inv y∧μ y<μ x) fun ix y=>updK (maskC c) (sets y) t 0 fun t''=>appK h 3 fun hp=>setM hp (hs y) fun h''=>renK n0 ix s ⟨t'',h''⟩ (N True))) Q) ⟨t',h'⟩):N (LoopN P G n0 c A Q ⟨t,h⟩):=by
 refine N.mk ⟨α,fun x=>⟨updT (maskC c) (sets x) t 0,modH (h++List.replicate 3 none) (hs x)⟩,inv,μ,fun x s=>N (NextR (fun y=>inv y∧μ y<μ x) fun ix y=>updK (maskC c) (sets y) t 0 fun t''=>appK h 3 fun hp=>setM hp (hs y) fun h''=>renK n0 ix s ⟨t'',h''⟩ (N True)),fun x s hq=>?_,⟨x0,h0,(qtw (setM_iff.1 (appK_iff.1 (updK_iff.1 hw)))).1⟩,fun x hx=>setM_iff.1 (appK_iff.1 (updK_iff.1 (hr x hx)))⟩
 obtain⟨y,ix,⟨hy,hlt⟩,hk⟩:=N.out hq
 exact⟨y,hy,(qtw (setM_iff.1 (appK_iff.1 (updK_iff.1 hk)))).1,hlt⟩
end
end Go.Proofs.YtdljelmbjdjpjaaGreat.Sx
