
/-
  Maps from whole numbers: a stretch that is a map; its operations.
-/
import Derived.Test.YtbepibdjlajppaaDoorExt
import Derived.MapKept
set_option linter.unusedVariables false
set_option linter.unusedSimpArgs false
namespace Go.Proofs.YtbepibdjlajppaaDoor.Sx
open Go Go.RowKit Go.MapKept

section
variable {α : Type}
def dGet (D : List (Int × α)) (k : Int) : Option α := (D.find? fun q => decide (q.1 = k)).map (·.2)
def dPut (D : List (Int × α)) (k : Int) (a : α) : List (Int × α) := match dGet D k with
  | some _ => D.map fun q => if q.1 = k then (k, a) else q
  | none => D ++ [(k, a)]
def dDel (D : List (Int × α)) (k : Int) : List (Int × α) := D.filter fun q => !decide (q.1 = k)
theorem dGet_none {D : List (Int × α)} {k : Int} : dGet D k = none ↔ ∀ q ∈ D, q.1 ≠ k := by
  simp [dGet, List.find?_eq_none]
theorem dGet_some {D : List (Int × α)} {k : Int} {a : α} (h : dGet D k = some a) : (k, a) ∈ D := by
  simp only [dGet, Option.map_eq_some_iff] at h
  obtain ⟨q, hq, rfl⟩ := h
  have h1 := List.find?_some hq
  have h2 := List.mem_of_find?_eq_some hq
  simp only [decide_eq_true_eq] at h1
  rw [← h1]; exact h2
theorem dGet_mem {D : List (Int × α)} {k : Int} {a : α} (hd : (D.map (·.1)).Nodup) (h : (k, a) ∈ D) : dGet D k = some a := by
  induction D with
  | nil => cases h
  | cons q D ih =>
    simp only [List.map_cons, List.nodup_cons] at hd
    unfold dGet
    rw [List.find?_cons]
    by_cases e : q.1 = k
    · have : decide (q.1 = k) = true := by simp [e]
      rw [this]
      rcases List.mem_cons.1 h with rfl | h
      · rfl
      · exact absurd (List.mem_map.2 ⟨(k, a), h, rfl⟩) (e ▸ hd.1)
    · have : decide (q.1 = k) = false := by simp [e]
      rw [this]
      rcases List.mem_cons.1 h with rfl | h
      · exact absurd rfl e
      · exact ih hd.2 h
end

/-- An array of entries that reads as D. -/
structure MapIs {α : Type} (enc : α → Value) (D : List (Int × α)) (es : Array MapEntry) (clock : Nat) : Prop where
  ents : es.toList.map (fun e => (e.key, e.val)) = D.map fun q => (.int .i64 q.1, enc q.2)
  stamped : Stamped es clock
  wf : ∀ q ∈ D, -9223372036854775808 ≤ q.1 ∧ q.1 ≤ 9223372036854775807
section
variable {α : Type} {enc : α → Value} {D : List (Int × α)} {es : Array MapEntry} {clock : Nat}
theorem MapIs.at (M : MapIs enc D es clock) (j : Nat) : (es.toList[j]?).map (fun e => (e.key, e.val)) = (D[j]?).map fun q => ((.int .i64 q.1, enc q.2) : Value × Value) := by
  have := congrArg (fun l => l[j]?) M.ents
  simpa using this
theorem MapIs.keys (M : MapIs enc D es clock) : ∀ x ∈ es.toList, ∃ k, x.key = .int .i64 k := fun x hx => by
  have : (x.key, x.val) ∈ es.toList.map (fun e => (e.key, e.val)) := List.mem_map.2 ⟨x, hx, rfl⟩
  rw [M.ents] at this
  obtain ⟨q, _, e⟩ := List.mem_map.1 this
  exact ⟨q.1, (Prod.mk.inj e).1.symm⟩
theorem MapIs.isKey (M : MapIs enc D es clock) : ∀ x ∈ es.toList, IsKey (.int .i64) x.key := fun x hx => by
  obtain ⟨k, e⟩ := M.keys x hx
  rw [e]; exact rfl
theorem MapIs.nodup (M : MapIs enc D es clock) : (D.map (·.1)).Nodup := by
  have h := M.stamped.2.2
  have e : es.toList.map (·.key) = (D.map (·.1)).map (Value.int .i64) := by
    have := congrArg (fun l => l.map Prod.fst) M.ents
    simpa [List.map_map, Function.comp_def] using this
  rw [e] at h
  exact List.Pairwise.of_map (Value.int .i64) (fun a b hab e => hab (by rw [e])) h
theorem MapIs.find (M : MapIs enc D es clock) (k : Int) : (dGet D k = none ∧ Instr.findNow (.int .i64) (.int .i64 k) es.toList 0 = some none ∧ ∀ x ∈ es.toList, x.key ≠ .int .i64 k) ∨
    ∃ j a, dGet D k = some a ∧ D[j]? = some (k, a) ∧ (∃ e, es.toList[j]? = some e ∧ e.key = .int .i64 k) ∧ Instr.findNow (.int .i64) (.int .i64 k) es.toList 0 = some (some (j, enc a)) := by
  rcases findNow_spec (d := .int .i64) (k := .int .i64 k) rfl es.toList 0 M.isKey with ⟨h1, h2⟩ | ⟨j, e, h1, h2, h3⟩
  · refine .inl ⟨dGet_none.2 fun q hq e => ?_, h1, h2⟩
    have : ((.int .i64 q.1, enc q.2) : Value × Value) ∈ es.toList.map (fun e => (e.key, e.val)) := by rw [M.ents]; exact List.mem_map.2 ⟨q, hq, rfl⟩
    obtain ⟨x, hx, ex⟩ := List.mem_map.1 this
    exact h2 x hx (by rw [(Prod.mk.inj ex).1, e])
  · have hj := M.at j
    rw [h2] at hj
    simp only [Option.map_some] at hj
    cases hq : D[j]? with
    | none => rw [hq] at hj; cases hj
    | some q =>
      rw [hq] at hj
      simp only [Option.map_some, Option.some.injEq, Prod.mk.injEq] at hj
      have hk : q.1 = k := by
        have := hj.1
        rw [h3] at this
        simpa using this.symm
      obtain ⟨q1, a⟩ := q
      subst hk
      refine .inr ⟨j, a, dGet_mem M.nodup (List.mem_of_getElem? hq), hq, ⟨e, h2, h3⟩, ?_⟩
      rw [h1, Nat.zero_add, hj.2]
theorem MapIs.put (M : MapIs enc D es clock) {k : Int} (hk : -9223372036854775808 ≤ k ∧ k ≤ 9223372036854775807) (a : α) {j : Nat} {b : α} (hg : dGet D k = some b) (hj : D[j]? = some (k, b)) (hv : Value) (hve : hv = enc a) : MapIs enc (dPut D k a) (es.modify j fun e => { e with key := .int .i64 k, val := hv }) clock := by
  subst hve
  have hnd := M.nodup
  have hjl := (List.getElem?_eq_some_iff.1 hj).1
  refine ⟨?_, stamped_modify M.stamped j _ (fun _ _ => rfl) (fun e _ he => ?_), fun q hq => ?_⟩
  · unfold dPut
    rw [hg]
    apply List.ext_getElem?
    intro i
    simp only [List.getElem?_map, Array.getElem?_toList, Array.getElem?_modify]
    have hi := M.at i
    rw [Array.getElem?_toList] at hi
    by_cases e : j = i
    · subst e
      rw [hj] at hi ⊢
      cases he : es[j]? with
      | none => rw [he] at hi; cases hi
      | some x => simp
    · rw [if_neg e, hi]
      cases hq : D[i]? with
      | none => simp
      | some q =>
        have hne : q.1 ≠ k := fun h => by
          refine e ((List.getElem?_inj (l := D.map (·.1)) (by simpa using hjl) hnd).1 ?_)
          rw [List.getElem?_map, List.getElem?_map, hj, hq]; simp [h]
        simp [hne]
  · have hi := M.at j
    rw [Array.getElem?_toList, he, hj] at hi
    simp only [Option.map_some, Option.some.injEq, Prod.mk.injEq] at hi
    exact hi.1.symm
  · unfold dPut at hq
    rw [hg] at hq
    obtain ⟨q', hq', rfl⟩ := List.mem_map.1 hq
    split
    · exact hk
    · exact M.wf q' hq'
theorem MapIs.push (M : MapIs enc D es clock) {k : Int} (hk : -9223372036854775808 ≤ k ∧ k ≤ 9223372036854775807) (a : α) (hg : dGet D k = none) (hn : ∀ x ∈ es.toList, x.key ≠ .int .i64 k) : MapIs enc (dPut D k a) (es.push { key := .int .i64 k, val := enc a, born := clock }) (clock + 1) := by
  refine ⟨?_, stamped_push M.stamped hn, fun q hq => ?_⟩
  · unfold dPut
    rw [hg]
    simp only [Array.toList_push, List.map_append, M.ents, List.map_cons, List.map_nil]
  · unfold dPut at hq
    rw [hg] at hq
    rcases List.mem_append.1 hq with hq | hq
    · exact M.wf q hq
    · simp only [List.mem_singleton] at hq; subst hq; exact hk
theorem map_erase {β γ : Type} (f : β → γ) : ∀ (l : List β) (j : Nat), (l.eraseIdx j).map f = (l.map f).eraseIdx j
  | [], _ => by simp
  | x :: l, 0 => by simp
  | x :: l, j + 1 => by simp [map_erase f l j]
theorem filter_erase {D : List (Int × α)} {k : Int} {a : α} (hnd : (D.map (·.1)).Nodup) {j : Nat} (hj : D[j]? = some (k, a)) : D.eraseIdx j = dDel D k := by
  induction D generalizing j with
  | nil => simp at hj
  | cons q D ih =>
    simp only [List.map_cons, List.nodup_cons] at hnd
    cases j with
    | zero =>
      simp at hj
      subst hj
      have : D.filter (fun q => !decide (q.1 = k)) = D := List.filter_eq_self.2 fun q hq => by
        have : q.1 ≠ k := fun e => hnd.1 (e ▸ List.mem_map.2 ⟨q, hq, rfl⟩)
        simp [this]
      simp [dDel, this]
    | succ j =>
      have hj' : D[j]? = some (k, a) := by simpa using hj
      have hne : q.1 ≠ k := fun e => hnd.1 (e ▸ List.mem_map.2 ⟨(k, a), List.mem_of_getElem? hj', rfl⟩)
      simp only [List.eraseIdx_cons_succ, ih hnd.2 hj']
      simp [dDel, hne]
theorem MapIs.erase (M : MapIs enc D es clock) {k : Int} {a : α} {j : Nat} (hj : D[j]? = some (k, a)) : MapIs enc (dDel D k) (es.eraseIdxIfInBounds j) clock := by
  refine ⟨?_, stamped_erase M.stamped j, fun q hq => M.wf q (List.mem_filter.1 hq).1⟩
  have hl := (List.getElem?_eq_some_iff.1 hj).1
  have hsz : es.size = D.length := by have := congrArg List.length M.ents; simpa using this
  unfold Array.eraseIdxIfInBounds
  rw [dif_pos (by omega)]
  rw [Array.toList_eraseIdx, ← filter_erase M.nodup hj, map_erase, map_erase, M.ents]
theorem MapIs.size (M : MapIs enc D es clock) : es.size = D.length := by have := congrArg List.length M.ents; simpa using this
theorem MapIs.nil : MapIs enc ([] : List (Int × α)) #[] 0 := ⟨rfl, stamped_empty 0, fun q hq => by cases hq⟩
end

/-- The stretch is a map. -/
abbrev mapX {α : Type} (enc : α → Value) (D : List (Int × α)) : Ext where
  inv := fun p S w => (∀ b, S b ↔ b = p.1) ∧ ∃ es clock, w.heap[p.1]? = some (.map es clock) ∧ MapIs enc D es clock
  keep := fun h hb => ⟨h.1, by obtain ⟨es, clock, h1, h2⟩ := h.2; exact ⟨es, clock, (hb _ ((h.1 _).2 rfl)).trans h1, h2⟩⟩
theorem mapX_selfish {α : Type} {enc : α → Value} {D : List (Int × α)} : Selfish (mapX enc D) := fun p S w h => (h.1 _).2 rfl
abbrev mapC {α : Type} (enc : α → Value) (D : List (Int × α)) : Chunk := @Chunk.mk (mapX enc D) true 0 []

section
variable {P : Program} {G : Tys} {α : Type} {enc : α → Value} {D : List (Int × α)}
theorem run_zero {et : TypeId} {ei : TypeInfo} {z : Value} (he : P.info? et = some ei) (hz : ei.zero = some z) (w : World) : (zeroValue et).run P w = .ok z w := by
  simp [zeroValue, typeInfo, Sem.run_bind, run_program, Result.andThen_ok, he, hz]
theorem run_look {t kt et : TypeId} {ei : TypeInfo} {z : Value} {es : Array MapEntry} {clock : Nat} {w : World} {b : Nat} (ht : P.underlying t = some (.map kt et)) (hk : P.underlying kt = some (.int .i64)) (he : P.info? et = some ei) (hz : ei.zero = some z)
    (hb : w.heap[b]? = some (.map es clock)) (M : MapIs enc D es clock) (k : Int) (c : Bool) :
    (Instr.lookup t (.map (some b)) (.int .i64 k) c).run P w = .ok (if c then .tuple #[((dGet D k).map enc).getD z, .bool (dGet D k).isSome] else ((dGet D k).map enc).getD z) w := by
  rcases M.find k with ⟨h1, h2, _⟩ | ⟨j, a, h1, _, _, h2⟩
  · simp [Instr.lookup, run_underlying ht, MapKept.run_getObj_map hb, run_checkKey hk (k := .int .i64 k) rfl, run_findKey hk h2, run_zero he hz, h1, Result.andThen]
  · simp [Instr.lookup, run_underlying ht, MapKept.run_getObj_map hb, run_checkKey hk (k := .int .i64 k) rfl, run_findKey hk h2, h1, Result.andThen]
theorem N_look {t kt et : TypeId} {ei : TypeInfo} {z : Value} {c : Chunk} {k : Int} {b : Bool} {K : Value → Prop} (enc : α → Value) (D : List (Int × α)) (hc : c.x = mapX enc D) (ht : P.underlying t = some (.map kt et)) (hk : P.underlying kt = some (.int .i64)) (he : P.info? et = some ei) (hz : ei.zero = some z)
    (v : Value) (hv : v = (if b then .tuple #[((dGet D k).map enc).getD z, .bool (dGet D k).isSome] else ((dGet D k).map enc).getD z)) (hp : plain3 v = true) (h : K v) : N (LookN P t c (.int .i64 k) b K) :=
  N.mk ⟨v, den_plain3 hp, fun p S w hi => by
    rw [hc] at hi
    obtain ⟨_, es, clock, hb, M⟩ := hi
    rw [run_look ht hk he hz hb M k b, hv], h⟩
theorem turns_put {t kt et : TypeId} {c : Chunk} {k : Int} {a : α} {v : Value} (hc : c.x = mapX enc D) (ho : c.own = true) (hkk : -9223372036854775808 ≤ k ∧ k ≤ 9223372036854775807) (hv : v = enc a) (ht : P.underlying t = some (.map kt et)) (hk : P.underlying kt = some (.int .i64)) :
    Turns P c (mapC enc (dPut D k a)) (fun b => Instr.mapUpdate t (.map (some b)) (.int .i64 k) v) () := by
  refine ⟨fun _ => ho, rfl, fun p S w hi => ?_⟩
  rw [hc] at hi
  obtain ⟨hS, es, clock, hb, M⟩ := hi
  refine ⟨(hS _).2 rfl, ?_⟩
  have hlt : p.1 < w.heap.size := (Array.getElem?_eq_some_iff.1 hb).1
  rcases M.find k with ⟨h1, h2, h3⟩ | ⟨j, a', h1, hj, ⟨e, he1, he2⟩, h2⟩
  · refine ⟨{ w with heap := w.heap.setIfInBounds p.1 (.map (es.push { key := .int .i64 k, val := v, born := clock }) (clock + 1)) }, ?_, rfl, rfl, rfl, by simp, fun b hne => by simp [Ne.symm hne], hS, _, _, (heap_set hb).1, ?_⟩
    · simp [Instr.mapUpdate, run_underlying ht, MapKept.run_getObj_map hb, run_checkKey hk (k := .int .i64 k) rfl, run_findKey hk h2, MapKept.run_setObj_map _ hb, Result.andThen]
    · rw [hv]; exact M.push hkk a h1 h3
  · refine ⟨{ w with heap := w.heap.setIfInBounds p.1 (.map (es.modify j fun e => { e with key := .int .i64 k, val := v }) clock) }, ?_, rfl, rfl, rfl, by simp, fun b hne => by simp [Ne.symm hne], hS, _, _, (heap_set hb).1, ?_⟩
    · have hj2 : es[j]? = some e := by rw [← Array.getElem?_toList]; exact he1
      simp [Instr.mapUpdate, run_underlying ht, MapKept.run_getObj_map hb, run_checkKey hk (k := .int .i64 k) rfl, run_findKey hk h2, hj2, he2, run_keyThatStays (d := .int .i64) (k := .int .i64 k) rfl, MapKept.run_setObj_map _ hb, Result.andThen]
    · exact M.put hkk a h1 hj v hv
theorem turns_del {t kt et ty : TypeId} {ts : Array TypeId} {c : Chunk} {k : Int} (hc : c.x = mapX enc D) (ho : c.own = true) (hts : ts[0]? = some t) (ht : P.underlying t = some (.map kt et)) (hk : P.underlying kt = some (.int .i64)) :
    Turns P c (mapC enc (dDel D k)) (fun b => Builtin.delete_ ts ty #[.map (some b), .int .i64 k]) (.tuple #[]) := by
  refine ⟨fun _ => ho, rfl, fun p S w hi => ?_⟩
  rw [hc] at hi
  obtain ⟨hS, es, clock, hb, M⟩ := hi
  refine ⟨(hS _).2 rfl, ?_⟩
  have hlt : p.1 < w.heap.size := (Array.getElem?_eq_some_iff.1 hb).1
  rcases M.find k with ⟨h1, h2, h3⟩ | ⟨j, a', h1, hj, _, h2⟩
  · refine ⟨{ w with heap := w.heap.setIfInBounds p.1 (.map es clock) }, ?_, rfl, rfl, rfl, by simp, fun b hne => by simp [Ne.symm hne], hS, _, _, (heap_set hb).1, ?_⟩
    · simp [Builtin.delete_, hts, run_underlying ht, MapKept.run_getObj_map hb, run_checkKey hk (k := .int .i64 k) rfl, run_findKey hk h2, MapKept.run_setObj_map _ hb, Result.andThen]
    · have : dDel D k = D := List.filter_eq_self.2 fun q hq => by simp [dGet_none.1 h1 q hq]
      rw [this]; exact M
  · refine ⟨{ w with heap := w.heap.setIfInBounds p.1 (.map (es.eraseIdxIfInBounds j) clock) }, ?_, rfl, rfl, rfl, by simp, fun b hne => by simp [Ne.symm hne], hS, _, _, (heap_set hb).1, M.erase hj⟩
    simp [Builtin.delete_, hts, run_underlying ht, MapKept.run_getObj_map hb, run_checkKey hk (k := .int .i64 k) rfl, run_findKey hk h2, MapKept.run_setObj_map _ hb, Result.andThen]
theorem N_put {t kt et : TypeId} {c : Chunk} {k : Int} {v : Value} {K : Chunk → Prop} (enc : α → Value) (D : List (Int × α)) (a : α) (hc : c.x = mapX enc D) (ho : c.own = true) (hkk : -9223372036854775808 ≤ k ∧ k ≤ 9223372036854775807) (hv : v = enc a) (ht : P.underlying t = some (.map kt et)) (hk : P.underlying kt = some (.int .i64))
    (h : K (mapC enc (dPut D k a))) : N (TurnN P c (fun b => Instr.mapUpdate t (.map (some b)) (.int .i64 k) v) K) := N.mk ⟨_, turns_put hc ho hkk hv ht hk, h⟩
theorem N_del {t kt et ty : TypeId} {ts : Array TypeId} {c : Chunk} {k : Int} {A : Chunk → Prop} (enc : α → Value) (D : List (Int × α)) (hc : c.x = mapX enc D) (ho : c.own = true) (hts : ts[0]? = some t) (ht : P.underlying t = some (.map kt et)) (hk : P.underlying kt = some (.int .i64))
    (h : A (mapC enc (dDel D k))) : N (TurnV P c (fun b => Builtin.delete_ ts ty #[.map (some b), .int .i64 k]) fun v d => N (Obl (v = .tuple #[]) (A d))) :=
  N.mk ⟨.tuple #[], _, fun ρ => by simp [den], turns_del hc ho hts ht hk, N.obl rfl h⟩
theorem N_lenM {t kt et ty : TypeId} {ts : Array TypeId} {c : Chunk} {K : Value → Prop} (enc : α → Value) (D : List (Int × α)) (hc : c.x = mapX enc D) (hts : ts[0]? = some t) (ht : P.underlying t = some (.map kt et)) (h : K (.int .i64 (D.length : Nat))) : N (LenMN P ts ty c K) :=
  N.mk ⟨.int .i64 (D.length : Nat), fun ρ => by simp [den, den2, den1, den0], fun p S w hi => by
    rw [hc] at hi
    obtain ⟨_, es, clock, hb, M⟩ := hi
    simp [Builtin.len_, hts, run_underlying ht, MapKept.run_getObj_map hb, Result.andThen, M.size, goInt], h⟩
theorem N_mkMap {K : Chunk → Prop} (enc : α → Value) (h : K (mapC enc [])) : N (MkMapN K) :=
  N.mk ⟨mapC enc [], rfl, fun w => ⟨fun b => Iff.rfl, #[], 0, (heap_alloc w (.map #[] 0)).1, MapIs.nil⟩, h⟩
end
end Go.Proofs.YtbepibdjlajppaaDoor.Sx
