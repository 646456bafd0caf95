/-
  Maps from keys of any kind: a stretch that is a map; its operations.
-/
import Derived.Test.YtpafcfelaaibgaaMap
import Derived.MapKept
set_option linter.unusedVariables false
set_option linter.unusedSectionVars false
set_option linter.unusedSimpArgs false
namespace Go.Proofs.Ytpafcfelaaibgaa.Sx
open Go Go.RowKit Go.MapKept

section
variable {α κ : Type} [DecidableEq κ]
def kGet (D : List (κ × α)) (k : κ) : Option α := (D.find? fun q => decide (q.1 = k)).map (·.2)
def kPut (D : List (κ × α)) (k : κ) (a : α) : List (κ × α) := match kGet D k with
  | some _ => D.map fun q => if q.1 = k then (k, a) else q
  | none => D ++ [(k, a)]
def kDel (D : List (κ × α)) (k : κ) : List (κ × α) := D.filter fun q => !decide (q.1 = k)
theorem kGet_none {D : List (κ × α)} {k : κ} : kGet D k = none ↔ ∀ q ∈ D, q.1 ≠ k := by
  simp [kGet, List.find?_eq_none]
theorem kGet_some {D : List (κ × α)} {k : κ} {a : α} (h : kGet D k = some a) : (k, a) ∈ D := by
  simp only [kGet, Option.map_eq_some_iff] at h
  obtain ⟨q, hq, rfl⟩ := h
  have h1 := List.find?_some hq
  have h2 := List.mem_of_find?_eq_some hq
  simp only [decide_eq_true_eq] at h1
  rw [← h1]; exact h2
theorem kGet_mem {D : List (κ × α)} {k : κ} {a : α} (hd : (D.map (·.1)).Nodup) (h : (k, a) ∈ D) : kGet D k = some a := by
  induction D with
  | nil => cases h
  | cons q D ih =>
    simp only [List.map_cons, List.nodup_cons] at hd
    unfold kGet
    rw [List.find?_cons]
    by_cases e : q.1 = k
    · have : decide (q.1 = k) = true := by simp [e]
      rw [this]
      rcases List.mem_cons.1 h with rfl | h
      · rfl
      · exact absurd (List.mem_map.2 ⟨(k, a), h, rfl⟩) (e ▸ hd.1)
    · have : decide (q.1 = k) = false := by simp [e]
      rw [this]
      rcases List.mem_cons.1 h with rfl | h
      · exact absurd rfl e
      · exact ih hd.2 h
end

/-- An array of entries that reads as D. -/
structure KapIs {α κ : Type} (kenc : κ → Value) (enc : α → Value) (D : List (κ × α)) (es : Array MapEntry) (clock : Nat) : Prop where
  ents : es.toList.map (fun e => (e.key, e.val)) = D.map fun q => (kenc q.1, enc q.2)
  stamped : Stamped es clock
/-- What a kind of keys must be able to. -/
structure KeyOK {κ : Type} (P : Program) (kt : TypeId) (kenc : κ → Value) : Prop where
  inj : ∀ a b, kenc a = kenc b → a = b
  plain : ∀ k, plain3 (kenc k) = true
  check : ∀ k e w, (Instr.checkKey e 10000 kt (kenc k)).run P w = .ok () w
  stays : ∀ k w, (Instr.keyThatStays (kenc k) (kenc k)).run P w = .ok (kenc k) w
  find : ∀ (l : List MapEntry) (hl : ∀ x ∈ l, ∃ k, x.key = kenc k) k w, ((Instr.findKey kt (kenc k) l).run P w = .ok none w ∧ ∀ x ∈ l, x.key ≠ kenc k) ∨ ∃ j e, (Instr.findKey kt (kenc k) l).run P w = .ok (some (j, e.val)) w ∧ l[j]? = some e ∧ e.key = kenc k
section
variable {α κ : Type} [DecidableEq κ] {kenc : κ → Value} {enc : α → Value} {D : List (κ × α)} {es : Array MapEntry} {clock : Nat}
theorem KapIs.at (M : KapIs kenc enc D es clock) (j : Nat) : (es.toList[j]?).map (fun e => (e.key, e.val)) = (D[j]?).map fun q => ((kenc q.1, enc q.2) : Value × Value) := by
  have := congrArg (fun l => l[j]?) M.ents
  simpa using this
theorem KapIs.keys (M : KapIs kenc enc D es clock) : ∀ x ∈ es.toList, ∃ k, x.key = kenc k := fun x hx => by
  have : (x.key, x.val) ∈ es.toList.map (fun e => (e.key, e.val)) := List.mem_map.2 ⟨x, hx, rfl⟩
  rw [M.ents] at this
  obtain ⟨q, _, e⟩ := List.mem_map.1 this
  exact ⟨q.1, (Prod.mk.inj e).1.symm⟩
theorem KapIs.nodup (hinj : ∀ a b, kenc a = kenc b → a = b) (M : KapIs kenc enc D es clock) : (D.map (·.1)).Nodup := by
  have h := M.stamped.2.2
  have e : es.toList.map (·.key) = (D.map (·.1)).map (kenc) := by
    have := congrArg (fun l => l.map Prod.fst) M.ents
    simpa [List.map_map, Function.comp_def] using this
  rw [e] at h
  exact List.Pairwise.of_map (kenc) (fun a b hab e => hab (by rw [e])) h
theorem KapIs.find {P : Program} {kt : TypeId} (kk : KeyOK P kt kenc) (M : KapIs kenc enc D es clock) (k : κ) (w : World) : (kGet D k = none ∧ (Instr.findKey kt (kenc k) es.toList).run P w = .ok none w ∧ ∀ x ∈ es.toList, x.key ≠ kenc k) ∨
    ∃ j a, kGet D k = some a ∧ D[j]? = some (k, a) ∧ (∃ e, es.toList[j]? = some e ∧ e.key = kenc k) ∧ (Instr.findKey kt (kenc k) es.toList).run P w = .ok (some (j, enc a)) w := by
  rcases kk.find es.toList M.keys k w with ⟨h1, h2⟩ | ⟨j, e, h1, h2, h3⟩
  · refine .inl ⟨kGet_none.2 fun q hq e => ?_, h1, h2⟩
    have : ((kenc q.1, enc q.2) : Value × Value) ∈ es.toList.map (fun e => (e.key, e.val)) := by rw [M.ents]; exact List.mem_map.2 ⟨q, hq, rfl⟩
    obtain ⟨x, hx, ex⟩ := List.mem_map.1 this
    exact h2 x hx (by rw [(Prod.mk.inj ex).1, e])
  · have hj := M.at j
    rw [h2] at hj
    simp only [Option.map_some] at hj
    cases hq : D[j]? with
    | none => rw [hq] at hj; cases hj
    | some q =>
      rw [hq] at hj
      simp only [Option.map_some, Option.some.injEq, Prod.mk.injEq] at hj
      have hk : q.1 = k := kk.inj _ _ (hj.1.symm.trans h3)
      obtain ⟨q1, a⟩ := q
      subst hk
      refine .inr ⟨j, a, kGet_mem (M.nodup kk.inj) (List.mem_of_getElem? hq), hq, ⟨e, h2, h3⟩, ?_⟩
      rw [h1, hj.2]
theorem KapIs.put (hinj : ∀ a b, kenc a = kenc b → a = b) (M : KapIs kenc enc D es clock) {k : κ} (a : α) {j : Nat} {b : α} (hg : kGet D k = some b) (hj : D[j]? = some (k, b)) (hv : Value) (hve : hv = enc a) : KapIs kenc enc (kPut D k a) (es.modify j fun e => { e with key := kenc k, val := hv }) clock := by
  subst hve
  have hnd := M.nodup hinj
  have hjl := (List.getElem?_eq_some_iff.1 hj).1
  refine ⟨?_, stamped_modify M.stamped j _ (fun _ _ => rfl) (fun e _ he => ?_)⟩
  · unfold kPut
    rw [hg]
    apply List.ext_getElem?
    intro i
    simp only [List.getElem?_map, Array.getElem?_toList, Array.getElem?_modify]
    have hi := M.at i
    rw [Array.getElem?_toList] at hi
    by_cases e : j = i
    · subst e
      rw [hj] at hi ⊢
      cases he : es[j]? with
      | none => rw [he] at hi; cases hi
      | some x => simp
    · rw [if_neg e, hi]
      cases hq : D[i]? with
      | none => simp
      | some q =>
        have hne : q.1 ≠ k := fun h => by
          refine e ((List.getElem?_inj (l := D.map (·.1)) (by simpa using hjl) hnd).1 ?_)
          rw [List.getElem?_map, List.getElem?_map, hj, hq]; simp [h]
        simp [hne]
  · have hi := M.at j
    rw [Array.getElem?_toList, he, hj] at hi
    simp only [Option.map_some, Option.some.injEq, Prod.mk.injEq] at hi
    exact hi.1.symm
theorem KapIs.push (M : KapIs kenc enc D es clock) {k : κ} (a : α) (hg : kGet D k = none) (hn : ∀ x ∈ es.toList, x.key ≠ kenc k) : KapIs kenc enc (kPut D k a) (es.push { key := kenc k, val := enc a, born := clock }) (clock + 1) := by
  refine ⟨?_, stamped_push M.stamped hn⟩
  · unfold kPut
    rw [hg]
    simp only [Array.toList_push, List.map_append, M.ents, List.map_cons, List.map_nil]
theorem map_eraseK {β γ : Type} (f : β → γ) : ∀ (l : List β) (j : Nat), (l.eraseIdx j).map f = (l.map f).eraseIdx j
  | [], _ => by simp
  | x :: l, 0 => by simp
  | x :: l, j + 1 => by simp [map_eraseK f l j]
theorem filter_eraseK {D : List (κ × α)} {k : κ} {a : α} (hnd : (D.map (·.1)).Nodup) {j : Nat} (hj : D[j]? = some (k, a)) : D.eraseIdx j = kDel D k := by
  induction D generalizing j with
  | nil => simp at hj
  | cons q D ih =>
    simp only [List.map_cons, List.nodup_cons] at hnd
    cases j with
    | zero =>
      simp at hj
      subst hj
      have : D.filter (fun q => !decide (q.1 = k)) = D := List.filter_eq_self.2 fun q hq => by
        have : q.1 ≠ k := fun e => hnd.1 (e ▸ List.mem_map.2 ⟨q, hq, rfl⟩)
        simp [this]
      simp [kDel, this]
    | succ j =>
      have hj' : D[j]? = some (k, a) := by simpa using hj
      have hne : q.1 ≠ k := fun e => hnd.1 (e ▸ List.mem_map.2 ⟨(k, a), List.mem_of_getElem? hj', rfl⟩)
      simp only [List.eraseIdx_cons_succ, ih hnd.2 hj']
      simp [kDel, hne]
theorem KapIs.erase (hinj : ∀ a b, kenc a = kenc b → a = b) (M : KapIs kenc enc D es clock) {k : κ} {a : α} {j : Nat} (hj : D[j]? = some (k, a)) : KapIs kenc enc (kDel D k) (es.eraseIdxIfInBounds j) clock := by
  refine ⟨?_, stamped_erase M.stamped j⟩
  have hl := (List.getElem?_eq_some_iff.1 hj).1
  have hsz : es.size = D.length := by have := congrArg List.length M.ents; simpa using this
  unfold Array.eraseIdxIfInBounds
  rw [dif_pos (by omega)]
  rw [Array.toList_eraseIdx, ← filter_eraseK (M.nodup hinj) hj, map_eraseK, map_eraseK, M.ents]
theorem KapIs.size (M : KapIs kenc enc D es clock) : es.size = D.length := by have := congrArg List.length M.ents; simpa using this
theorem KapIs.nil : KapIs kenc enc ([] : List (κ × α)) #[] 0 := ⟨rfl, stamped_empty 0⟩
end

/-- The stretch is a map. -/
abbrev kapX {α κ : Type} (kenc : κ → Value) (enc : α → Value) (D : List (κ × α)) : Ext where
  inv := fun p S w => (∀ b, S b ↔ b = p.1) ∧ ∃ es clock, w.heap[p.1]? = some (.map es clock) ∧ KapIs kenc enc D es clock
  keep := fun h hb => ⟨h.1, by obtain ⟨es, clock, h1, h2⟩ := h.2; exact ⟨es, clock, (hb _ ((h.1 _).2 rfl)).trans h1, h2⟩⟩
theorem kapX_selfish {α κ : Type} {kenc : κ → Value} {enc : α → Value} {D : List (κ × α)} : Selfish (kapX kenc enc D) := fun p S w h => (h.1 _).2 rfl
abbrev kapC {α κ : Type} (kenc : κ → Value) (enc : α → Value) (D : List (κ × α)) : Chunk := @Chunk.mk (kapX kenc enc D) true 0 []

section
variable {P : Program} {G : Tys} {α κ : Type} [DecidableEq κ] {kenc : κ → Value} {enc : α → Value} {D : List (κ × α)}
theorem run_zeroK {et : TypeId} {ei : TypeInfo} {z : Value} (he : P.info? et = some ei) (hz : ei.zero = some z) (w : World) : (zeroValue et).run P w = .ok z w := by
  simp [zeroValue, typeInfo, Sem.run_bind, run_program, Result.andThen_ok, he, hz]
theorem run_lookK {t kt et : TypeId} {ei : TypeInfo} {z : Value} {es : Array MapEntry} {clock : Nat} {w : World} {b : Nat} (ht : P.underlying t = some (.map kt et)) (kk : KeyOK P kt kenc) (he : P.info? et = some ei) (hz : ei.zero = some z)
    (hb : w.heap[b]? = some (.map es clock)) (M : KapIs kenc enc D es clock) (k : κ) (c : Bool) :
    (Instr.lookup t (.map (some b)) (kenc k) c).run P w = .ok (if c then .tuple #[((kGet D k).map enc).getD z, .bool (kGet D k).isSome] else ((kGet D k).map enc).getD z) w := by
  rcases M.find kk k w with ⟨h1, h2, _⟩ | ⟨j, a, h1, _, _, h2⟩
  · simp [Instr.lookup, run_underlying ht, MapKept.run_getObj_map hb, kk.check, h2, run_zeroK he hz, h1, Result.andThen]
  · simp [Instr.lookup, run_underlying ht, MapKept.run_getObj_map hb, kk.check, h2, h1, Result.andThen]
theorem N_lookK {t kt et : TypeId} {ei : TypeInfo} {z : Value} {c : Chunk} {k : κ} {b : Bool} {K : Value → Prop} (enc : α → Value) (D : List (κ × α)) (hc : c.x = kapX kenc enc D) (ht : P.underlying t = some (.map kt et)) (kk : KeyOK P kt kenc) (he : P.info? et = some ei) (hz : ei.zero = some z)
    (v : Value) (hv : v = (if b then .tuple #[((kGet D k).map enc).getD z, .bool (kGet D k).isSome] else ((kGet D k).map enc).getD z)) (hp : plain3 v = true) (h : K v) : N (LookN P t c (kenc k) b K) :=
  N.mk ⟨v, den_plain3 hp, fun p S w hi => by
    rw [hc] at hi
    obtain ⟨_, es, clock, hb, M⟩ := hi
    rw [run_lookK ht kk he hz hb M k b, hv], h⟩
theorem turns_putK {t kt et : TypeId} {c : Chunk} {k : κ} {a : α} {v : Value} (hc : c.x = kapX kenc enc D) (ho : c.own = true) (hv : v = enc a) (ht : P.underlying t = some (.map kt et)) (kk : KeyOK P kt kenc) :
    Turns P c (kapC kenc enc (kPut D k a)) (fun b => Instr.mapUpdate t (.map (some b)) (kenc k) v) () := by
  refine ⟨fun _ => ho, rfl, fun p S w hi => ?_⟩
  rw [hc] at hi
  obtain ⟨hS, es, clock, hb, M⟩ := hi
  refine ⟨(hS _).2 rfl, ?_⟩
  have hlt : p.1 < w.heap.size := (Array.getElem?_eq_some_iff.1 hb).1
  rcases M.find kk k w with ⟨h1, h2, h3⟩ | ⟨j, a', h1, hj, ⟨e, he1, he2⟩, h2⟩
  · refine ⟨{ w with heap := w.heap.setIfInBounds p.1 (.map (es.push { key := kenc k, val := v, born := clock }) (clock + 1)) }, ?_, rfl, rfl, rfl, by simp, fun b hne => by simp [Ne.symm hne], hS, _, _, (heap_set hb).1, ?_⟩
    · simp [Instr.mapUpdate, run_underlying ht, MapKept.run_getObj_map hb, kk.check, h2, MapKept.run_setObj_map _ hb, Result.andThen]
    · rw [hv]; exact M.push a h1 h3
  · refine ⟨{ w with heap := w.heap.setIfInBounds p.1 (.map (es.modify j fun e => { e with key := kenc k, val := v }) clock) }, ?_, rfl, rfl, rfl, by simp, fun b hne => by simp [Ne.symm hne], hS, _, _, (heap_set hb).1, ?_⟩
    · have hj2 : es[j]? = some e := by rw [← Array.getElem?_toList]; exact he1
      simp [Instr.mapUpdate, run_underlying ht, MapKept.run_getObj_map hb, kk.check, h2, hj2, he2, kk.stays, MapKept.run_setObj_map _ hb, Result.andThen]
    · exact M.put kk.inj a h1 hj v hv
theorem turns_delK {t kt et ty : TypeId} {ts : Array TypeId} {c : Chunk} {k : κ} (hc : c.x = kapX kenc enc D) (ho : c.own = true) (hts : ts[0]? = some t) (ht : P.underlying t = some (.map kt et)) (kk : KeyOK P kt kenc) :
    Turns P c (kapC kenc enc (kDel D k)) (fun b => Builtin.delete_ ts ty #[.map (some b), kenc k]) (.tuple #[]) := by
  refine ⟨fun _ => ho, rfl, fun p S w hi => ?_⟩
  rw [hc] at hi
  obtain ⟨hS, es, clock, hb, M⟩ := hi
  refine ⟨(hS _).2 rfl, ?_⟩
  have hlt : p.1 < w.heap.size := (Array.getElem?_eq_some_iff.1 hb).1
  rcases M.find kk k w with ⟨h1, h2, h3⟩ | ⟨j, a', h1, hj, _, h2⟩
  · refine ⟨{ w with heap := w.heap.setIfInBounds p.1 (.map es clock) }, ?_, rfl, rfl, rfl, by simp, fun b hne => by simp [Ne.symm hne], hS, _, _, (heap_set hb).1, ?_⟩
    · simp [Builtin.delete_, hts, run_underlying ht, MapKept.run_getObj_map hb, kk.check, h2, MapKept.run_setObj_map _ hb, Result.andThen]
    · have : kDel D k = D := List.filter_eq_self.2 fun q hq => by simp [kGet_none.1 h1 q hq]
      rw [this]; exact M
  · refine ⟨{ w with heap := w.heap.setIfInBounds p.1 (.map (es.eraseIdxIfInBounds j) clock) }, ?_, rfl, rfl, rfl, by simp, fun b hne => by simp [Ne.symm hne], hS, _, _, (heap_set hb).1, M.erase kk.inj hj⟩
    simp [Builtin.delete_, hts, run_underlying ht, MapKept.run_getObj_map hb, kk.check, h2, MapKept.run_setObj_map _ hb, Result.andThen]
theorem N_putK {t kt et : TypeId} {c : Chunk} {k : κ} {v : Value} {K : Chunk → Prop} (enc : α → Value) (D : List (κ × α)) (a : α) (hc : c.x = kapX kenc enc D) (ho : c.own = true) (hv : v = enc a) (ht : P.underlying t = some (.map kt et)) (kk : KeyOK P kt kenc)
    (h : K (kapC kenc enc (kPut D k a))) : N (TurnN P c (fun b => Instr.mapUpdate t (.map (some b)) (kenc k) v) K) := N.mk ⟨_, turns_putK hc ho hv ht kk, h⟩
theorem N_delK {t kt et ty : TypeId} {ts : Array TypeId} {c : Chunk} {k : κ} {A : Chunk → Prop} (enc : α → Value) (D : List (κ × α)) (hc : c.x = kapX kenc enc D) (ho : c.own = true) (hts : ts[0]? = some t) (ht : P.underlying t = some (.map kt et)) (kk : KeyOK P kt kenc)
    (h : A (kapC kenc enc (kDel D k))) : N (TurnV P c (fun b => Builtin.delete_ ts ty #[.map (some b), kenc k]) fun v d => N (Obl (v = .tuple #[]) (A d))) :=
  N.mk ⟨.tuple #[], _, fun ρ => by simp [den], turns_delK hc ho hts ht kk, N.obl rfl h⟩
theorem N_lenMK {t kt et ty : TypeId} {ts : Array TypeId} {c : Chunk} {K : Value → Prop} (enc : α → Value) (D : List (κ × α)) (hc : c.x = kapX kenc enc D) (hts : ts[0]? = some t) (ht : P.underlying t = some (.map kt et)) (h : K (.int .i64 (D.length : Nat))) : N (LenMN P ts ty c K) :=
  N.mk ⟨.int .i64 (D.length : Nat), fun ρ => by simp [den, den2, den1, den0], fun p S w hi => by
    rw [hc] at hi
    obtain ⟨_, es, clock, hb, M⟩ := hi
    simp [Builtin.len_, hts, run_underlying ht, MapKept.run_getObj_map hb, Result.andThen, M.size, goInt], h⟩
theorem N_mkMapK {K : Chunk → Prop} (enc : α → Value) (h : K (kapC kenc enc [])) : N (MkMapN K) :=
  N.mk ⟨kapC kenc enc [], rfl, fun w => ⟨fun b => Iff.rfl, #[], 0, (heap_alloc w (.map #[] 0)).1, KapIs.nil⟩, h⟩
end
end Go.Proofs.Ytpafcfelaaibgaa.Sx
