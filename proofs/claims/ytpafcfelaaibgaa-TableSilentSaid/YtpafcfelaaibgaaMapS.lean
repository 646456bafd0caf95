/-
  Maps that nothing is deleted from: the stamps are the places.
-/
import Derived.Test.YtpafcfelaaibgaaMapK
set_option linter.unusedVariables false
set_option linter.unusedSectionVars false
set_option linter.unusedSimpArgs false
namespace Go.Proofs.Ytpafcfelaaibgaa.Sx
open Go Go.RowKit Go.MapKept

section
variable {α κ : Type} [DecidableEq κ] {kenc : κ → Value} {enc : α → Value} {D : List (κ × α)}
def esOf (kenc : κ → Value) (enc : α → Value) (D : List (κ × α)) : Array MapEntry := ⟨D.mapIdx fun j q => { key := kenc q.1, val := enc q.2, born := j }⟩
theorem esOf_get (j : Nat) : (esOf kenc enc D)[j]? = (D[j]?).map fun q => { key := kenc q.1, val := enc q.2, born := j } := by
  unfold esOf; simp [List.getElem?_mapIdx]
theorem esOf_size : (esOf kenc enc D).size = D.length := by unfold esOf; simp
theorem esOf_push (k : κ) (a : α) : esOf kenc enc (D ++ [(k, a)]) = (esOf kenc enc D).push { key := kenc k, val := enc a, born := D.length } := by
  unfold esOf
  simp [List.mapIdx_append]
theorem esOf_set {j : Nat} {k : κ} {b : α} (a : α) (hj : D[j]? = some (k, b)) : (esOf kenc enc D).modify j (fun e => { e with val := enc a }) = esOf kenc enc (D.set j (k, a)) := by
  apply Array.ext_getElem?
  intro i
  rw [Array.getElem?_modify, esOf_get, esOf_get, List.getElem?_set]
  by_cases e : j = i
  · subst e
    obtain ⟨hl, he⟩ := List.getElem?_eq_some_iff.1 hj
    simp [hl, he]
  · simp [e]
theorem esOf_key {j : Nat} {k : κ} {b : α} (hj : D[j]? = some (k, b)) : (esOf kenc enc D).modify j (fun e => { e with key := kenc k }) = esOf kenc enc D := by
  apply Array.ext_getElem?
  intro i
  rw [Array.getElem?_modify, esOf_get]
  by_cases e : j = i
  · subst e; simp [hj]
  · simp [e]
theorem esOf_is (hinj : ∀ a b, kenc a = kenc b → a = b) (hn : (D.map (·.1)).Nodup) : KapIs kenc enc D (esOf kenc enc D) D.length := by
  refine ⟨?_, fun x hx => ?_, ?_, ?_⟩
  · unfold esOf
    apply List.ext_getElem?
    intro i
    simp [List.getElem?_mapIdx]
    cases D[i]? <;> rfl
  · obtain ⟨j, hj, e⟩ := List.getElem_of_mem hx
    have : (esOf kenc enc D)[j]? = some x := by rw [← Array.getElem?_toList]; exact List.getElem?_eq_some_iff.2 ⟨hj, e⟩
    rw [esOf_get] at this
    cases hd : D[j]? with
    | none => rw [hd] at this; cases this
    | some q =>
      rw [hd] at this
      simp only [Option.map_some, Option.some.injEq] at this
      rw [← this]
      exact (List.getElem?_eq_some_iff.1 hd).1
  · have : (esOf kenc enc D).toList.map (·.born) = List.range D.length := by
      unfold esOf
      apply List.ext_getElem?
      intro i
      simp [List.getElem?_mapIdx, List.getElem?_range]
      by_cases h : i < D.length
      · simp [h]
      · simp [h, List.getElem?_eq_none (l := D) (i := i) (by omega)]
    rw [this]; exact List.nodup_range
  · have : (esOf kenc enc D).toList.map (·.key) = (D.map (·.1)).map kenc := by
      unfold esOf
      apply List.ext_getElem?
      intro i
      simp [List.getElem?_mapIdx]
      cases D[i]? <;> rfl
    rw [this]
    exact List.Pairwise.map kenc (fun a b hab e => hab (hinj _ _ e)) hn
end
/-- The stretch is such a map. -/
abbrev stX {α κ : Type} (kenc : κ → Value) (enc : α → Value) (D : List (κ × α)) : Ext where
  inv := fun p S w => (∀ b, S b ↔ b = p.1) ∧ w.heap[p.1]? = some (.map (esOf kenc enc D) D.length) ∧ (List.map (fun q : κ × α => q.1) D).Nodup
  keep := fun h hb => ⟨h.1, (hb _ ((h.1 _).2 rfl)).trans h.2.1, h.2.2⟩
theorem stX_selfish {α κ : Type} {kenc : κ → Value} {enc : α → Value} {D : List (κ × α)} : Selfish (stX kenc enc D) := fun p S w h => (h.1 _).2 rfl
abbrev stC {α κ : Type} (kenc : κ → Value) (enc : α → Value) (D : List (κ × α)) : Chunk := @Chunk.mk (stX kenc enc D) true 0 []
section
variable {P : Program} {G : Tys} {α κ : Type} [DecidableEq κ] {kenc : κ → Value} {enc : α → Value} {D : List (κ × α)}
theorem N_lookS {t kt et : TypeId} {ei : TypeInfo} {z : Value} {c : Chunk} {k : κ} {b : Bool} {K : Value → Prop} (enc : α → Value) (D : List (κ × α)) (hc : c.x = stX kenc enc D) (ht : P.underlying t = some (.map kt et)) (kk : KeyOK P kt kenc) (he : P.info? et = some ei) (hz : ei.zero = some z)
    (v : Value) (hv : v = (if b then .tuple #[((kGet D k).map enc).getD z, .bool (kGet D k).isSome] else ((kGet D k).map enc).getD z)) (hp : plain3 v = true) (h : K v) : N (LookN P t c (kenc k) b K) :=
  N.mk ⟨v, den_plain3 hp, fun p S w hi => by
    rw [hc] at hi
    obtain ⟨_, hb, hn⟩ := hi
    rw [run_lookK ht kk he hz hb (esOf_is kk.inj hn) k b, hv], h⟩
/-- m[k] for an entry that is written: it is there. -/
theorem N_entryS {t kt et : TypeId} {c : Chunk} {k : κ} {K : Value → Chunk → Prop} (enc : α → Value) (D : List (κ × α)) (hc : c.x = stX kenc enc D) (ho : c.own = true) (ht : P.underlying t = some (.map kt et)) (kk : KeyOK P kt kenc) (j : Nat) (a : α) (hj : D[j]? = some (k, a)) (hp : plain2 (enc a) = true)
    (h : K (.tuple #[enc a, .int .i64 (j : Nat)]) (stC kenc enc D)) : N (TurnV P c (fun b => Instr.mapEntry t (.map (some b)) (kenc k)) K) := by
  refine N.mk ⟨.tuple #[enc a, .int .i64 (j : Nat)], stC kenc enc D, den_plain3 (by simp [plain3, hp]; rfl), ⟨fun _ => ho, rfl, fun p S w hi => ?_⟩, h⟩
  rw [hc] at hi
  obtain ⟨hS, hb, hn⟩ := hi
  have M : KapIs kenc enc D (esOf kenc enc D) D.length := esOf_is kk.inj hn
  have hg : kGet D k = some a := kGet_mem hn (List.mem_of_getElem? hj)
  refine ⟨(hS _).2 rfl, ?_⟩
  rcases M.find kk k w with ⟨h1, _, _⟩ | ⟨j', a', h1, hj', ⟨e, he1, he2⟩, h2⟩
  · rw [hg] at h1; cases h1
  · obtain rfl : a = a' := by rw [hg] at h1; simpa using h1
    obtain rfl : j = j' := (List.getElem?_inj (l := D.map (·.1)) (by simpa using (List.getElem?_eq_some_iff.1 hj).1) hn).1 (by simp [hj, hj'])
    have hje := esOf_get (kenc := kenc) (enc := enc) (D := D) j
    rw [hj] at hje
    refine ⟨{ w with heap := w.heap.setIfInBounds p.1 (.map ((esOf kenc enc D).modify j fun e => { e with key := kenc k }) D.length) }, ?_, rfl, rfl, rfl, by simp, fun b hne => by simp [Ne.symm hne], hS, ?_, hn⟩
    · simp [Instr.mapEntry, run_underlying ht, MapKept.run_getObj_map hb, kk.check, h2, hje, kk.stays, MapKept.run_setObj_map _ hb, Result.andThen, goInt]
    · rw [(heap_set hb).1, esOf_key hj]
/-- m[k] for an entry that is written: it is new. -/
theorem N_entryNew {t kt et : TypeId} {ei : TypeInfo} {c : Chunk} {k : κ} {K : Value → Chunk → Prop} (enc : α → Value) (D : List (κ × α)) (hc : c.x = stX kenc enc D) (ho : c.own = true) (ht : P.underlying t = some (.map kt et)) (kk : KeyOK P kt kenc) (he : P.info? et = some ei) (a : α) (hz : ei.zero = some (enc a)) (hg : kGet D k = none) (hp : plain2 (enc a) = true)
    (h : K (.tuple #[enc a, .int .i64 (D.length : Nat)]) (stC kenc enc (D ++ [(k, a)]))) : N (TurnV P c (fun b => Instr.mapEntry t (.map (some b)) (kenc k)) K) := by
  refine N.mk ⟨.tuple #[enc a, .int .i64 (D.length : Nat)], stC kenc enc (D ++ [(k, a)]), den_plain3 (by simp [plain3, hp]; rfl), ⟨fun _ => ho, rfl, fun p S w hi => ?_⟩, h⟩
  rw [hc] at hi
  obtain ⟨hS, hb, hn⟩ := hi
  have M : KapIs kenc enc D (esOf kenc enc D) D.length := esOf_is kk.inj hn
  refine ⟨(hS _).2 rfl, ?_⟩
  rcases M.find kk k w with ⟨_, h2, _⟩ | ⟨j', a', h1, _⟩
  · refine ⟨{ w with heap := w.heap.setIfInBounds p.1 (.map ((esOf kenc enc D).push { key := kenc k, val := enc a, born := D.length }) (D.length + 1)) }, ?_, rfl, rfl, rfl, by simp, fun b hne => by simp [Ne.symm hne], hS, ?_, ?_⟩
    · simp [Instr.mapEntry, run_underlying ht, MapKept.run_getObj_map hb, kk.check, h2, run_zeroK he hz, MapKept.run_setObj_map _ hb, Result.andThen, goInt]
    · rw [(heap_set hb).1, esOf_push, List.length_append]; rfl
    · rw [List.map_append]
      refine List.nodup_append.2 ⟨hn, by simp, fun x hx y hy e => ?_⟩
      simp only [List.map_cons, List.map_nil, List.mem_singleton] at hy
      obtain ⟨q, hq, rfl⟩ := List.mem_map.1 hx
      exact kGet_none.1 hg q hq (e.trans hy)
  · rw [hg] at h1; cases h1
theorem N_storeS {t : TypeId} {c : Chunk} {k : κ} {v : Value} {K : Chunk → Prop} (enc : α → Value) (D : List (κ × α)) (hc : c.x = stX kenc enc D) (ho : c.own = true) (j : Nat) (b a : α) (hj : D[j]? = some (k, b)) (hv : v = enc a)
    (h : K (stC kenc enc (D.set j (k, a)))) : N (TurnN P c (fun b => Instr.entryStore t (.map (some b)) (.int .i64 (j : Nat)) v) K) := by
  subst hv
  refine N.mk ⟨stC kenc enc (D.set j (k, a)), ⟨fun _ => ho, rfl, fun p S w hi => ?_⟩, h⟩
  rw [hc] at hi
  obtain ⟨hS, hb, hn⟩ := hi
  refine ⟨(hS _).2 rfl, ?_⟩
  have hl := (List.getElem?_eq_some_iff.1 hj).1
  have hf : (esOf kenc enc D).findIdx? (fun e => (e.born : Int) == (j : Nat)) = some j := by
    rw [Array.findIdx?_eq_some_iff_getElem]
    have hb (i : Nat) (hi : i < (esOf kenc enc D).size) : (esOf kenc enc D)[i].born = i := by
      have h1 := esOf_get (kenc := kenc) (enc := enc) (D := D) i
      rw [Array.getElem?_eq_getElem hi] at h1
      cases hd : D[i]? with
      | none => rw [hd] at h1; cases h1
      | some q =>
        rw [hd] at h1
        simp only [Option.map_some, Option.some.injEq] at h1
        rw [h1]
    refine ⟨by rw [esOf_size]; exact hl, by rw [hb]; simp, fun i hi => ?_⟩
    rw [hb i (by rw [esOf_size]; omega)]
    simp; omega
  refine ⟨{ w with heap := w.heap.setIfInBounds p.1 (.map ((esOf kenc enc D).modify j fun e => { e with val := enc a }) D.length) }, ?_, rfl, rfl, rfl, by simp, fun b hne => by simp [Ne.symm hne], hS, ?_, ?_⟩
  · simp [Instr.entryStore, MapKept.run_getObj_map hb, hf, asInt, asIntOf, MapKept.run_setObj_map _ hb, Result.andThen]
  · rw [(heap_set hb).1, esOf_set a hj, List.length_set]
  · have : (D.set j (k, a)).map (·.1) = D.map (·.1) := by
      apply List.ext_getElem?
      intro i
      simp only [List.getElem?_map, List.getElem?_set]
      by_cases e : j = i
      · subst e; simp [hl, (List.getElem?_eq_some_iff.1 hj).2]
      · simp [e]
    rw [this]; exact hn
theorem N_mkMapS {K : Chunk → Prop} (kenc : κ → Value) (enc : α → Value) (h : K (stC kenc enc ([] : List (κ × α)))) : N (MkMapN K) :=
  N.mk ⟨stC kenc enc [], rfl, fun w => ⟨fun b => Iff.rfl, (heap_alloc w (.map #[] 0)).1, List.nodup_nil⟩, h⟩
end
end Go.Proofs.Ytpafcfelaaibgaa.Sx
