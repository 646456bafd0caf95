/-
  A map over which is ranged: the map and its iterator, told of as one stretch.
-/
import Derived.Test.YtpafcfelaaibgaaMap
import Derived.Maps.RangeRun
set_option linter.unusedVariables false
set_option linter.unusedSectionVars false
set_option linter.unusedSimpArgs false
namespace Go.Proofs.Ytpafcfelaaibgaa.Sx
open Go Go.RowKit Go.MapKept
open Go.ChangeMaps (setBlock)

/-- The stretch is a map that reads as D, over which an iterator at the block r goes; seen: the places that it has handed out. -/
abbrev itX {α : Type} (enc : α → Value) (D : List (Int × α)) (seen : List Nat) (r : Nat) : Ext where
  inv := fun p S w => (∀ b, S b ↔ b = p.1 ∨ b = r) ∧ r ≠ p.1 ∧ ∃ (es : Array MapEntry) (clock : Nat) (sn : Array Nat), w.heap[p.1]? = some (.map es clock) ∧ MapIs enc D es clock ∧ w.heap[r]? = some (.mapIter (some p.1) clock sn clock) ∧
    (∀ (j : Nat) (e : MapEntry), es[j]? = some e → (sn.contains e.born = true ↔ j ∈ seen)) ∧ ∀ (s : List Nat) (j : Nat), seen = s ++ [j] → ∃ e sn', es[j]? = some e ∧ sn = Array.push sn' e.born
  keep := fun h hb => ⟨h.1, h.2.1, by
    obtain ⟨es, clock, sn, h1, h2, h3, h4⟩ := h.2.2
    exact ⟨es, clock, sn, (hb _ ((h.1 _).2 (.inl rfl))).trans h1, h2, (hb _ ((h.1 _).2 (.inr rfl))).trans h3, h4⟩⟩
abbrev itC {α : Type} (enc : α → Value) (D : List (Int × α)) (seen : List Nat) (r : Nat) : Chunk := @Chunk.mk (itX enc D seen r) true 0 []
section
variable {P : Program} {G : Tys} {α : Type} {enc : α → Value} {D : List (Int × α)}
theorem iter_plain (r : Nat) {F : Nat → Prop} {ρ : Nat → Nat × Nat} : Den F ρ (.pointer (some ⟨r, 0, none⟩)) (.pointer (some ⟨r, 0, none⟩)) := Den.plain rfl
theorem N_range {o : Oper} {st : St} {K : Value → List (Nat × Chunk) → Prop} {t kt et : TypeId} {x : Operand} (i : Nat) (enc : α → Value) (D : List (Int × α)) (ho : o.op = .range t x) (hx : EvTo x st (.map (some i))) (hi : st.h[i]? = some (some (mapC enc D))) (ht : P.underlying t = some (.map kt et))
    (hk : ∀ r, K (.pointer (some ⟨r, 0, none⟩)) [(i, itC enc D [] r)]) : N (EffAll P o st K) := by
  refine N.mk fun X ρ a w R next Q hn => ?_
  have hx' : a.eval x = .map (some (ρ i).1) := (hx.den R).self.symm
  obtain ⟨S, E⟩ := R.heap.ext
  obtain ⟨hS, es, clock, hb, M⟩ := E.inv i _ hi
  have hlt := (Array.getElem?_eq_some_iff.1 hb).1
  have hrun : (execOp a.eval o).run P w = .ok (.value (.pointer (some ⟨w.heap.size, 0, none⟩))) (w.alloc (.mapIter (some (ρ i).1) clock #[] clock)) := by
    simp only [execOp, ho, hx', Sem.run_bind, run_range_map w t kt et (ρ i).1 es clock ht hb, Result.andThen_ok]
    rfl
  have hold : ∀ b, b < w.heap.size → (w.alloc (.mapIter (some (ρ i).1) clock #[] clock)).heap[b]? = w.heap[b]? := fun b hb => heap_alloc_old w _ hb
  have hsz : (w.alloc (.mapIter (some (ρ i).1) clock #[] clock)).heap.size = w.heap.size + 1 := by show (w.heap.push _).size = _; simp
  have H := R.heap.turnX E hi (d := itC enc D [] w.heap.size) (w' := w.alloc (.mapIter (some (ρ i).1) clock #[] clock)) (S' := fun b => b = (ρ i).1 ∨ b = w.heap.size) id (Nat.le_refl _) (fun j hj => absurd hj (Nat.not_lt_zero j)) rfl rfl rfl (by omega) (fun b hb _ => hold b hb)
    (fun b hb => ⟨by rcases hb with rfl | rfl <;> omega, .inl rfl, by rcases hb with rfl | rfl; exact .inl ((hS _).2 rfl); exact .inr (Nat.le_refl _)⟩)
    ⟨fun b => Iff.rfl, by omega, es, clock, #[], (hold _ hlt).trans hb, M, heap_alloc_new w _, fun j e he => by simp, fun s j hs => by simp at hs⟩
  unfold Oper.wp
  rw [hrun]
  exact hn _ _ ρ _ _ (hk _) ⟨AgreeOn.refl _ _, H, iter_plain _⟩
theorem N_next {o : Oper} {st : St} {K : Value → List (Nat × Chunk) → Prop} {x : Operand} {r : Nat} (i : Nat) (enc : α → Value) (D : List (Int × α)) (seen : List Nat) (ho : o.op = .next x false) (hx : EvTo x st (.pointer (some ⟨r, 0, none⟩))) (hi : st.h[i]? = some (some (itC enc D seen r))) (hp : ∀ a, plain2 (enc a) = true)
    (h0 : (∀ j, j < D.length → j ∈ seen) → K (.tuple #[.bool false]) []) (h1 : ∀ j k a, D[j]? = some (k, a) → j ∉ seen → K (.tuple #[.bool true, .int .i64 k, enc a]) [(i, itC enc D (seen ++ [j]) r)]) : N (EffAll P o st K) := by
  refine N.mk fun X ρ a w R next Q hn => ?_
  have hx' : a.eval x = .pointer (some ⟨r, 0, none⟩) := (hx.den R).self.symm
  obtain ⟨S, E⟩ := R.heap.ext
  obtain ⟨hS, hne, es, clock, sn, hb, M, hr, hsn, hlast⟩ := E.inv i _ hi
  have hbn : (es.toList.map (·.born)).Nodup := M.stamped.2.1
  have hbl : ∀ x ∈ es.toList, x.born < clock := M.stamped.1
  rcases run_next_at (P := P) w o.type r (ρ i).1 clock clock sn es clock hr hb hbl (Nat.le_refl _) with ⟨hz, hrun⟩ | ⟨e, he, w1, hw1, hrun⟩
  · have hrun2 : (execOp a.eval o).run P w = .ok (.value (.tuple #[.bool false])) w := by
      simp only [execOp, ho, hx', Sem.run_bind, hrun, Result.andThen_ok]
      rfl
    unfold Oper.wp
    rw [hrun2]
    refine hn _ _ ρ _ _ (h0 fun j hj => ?_) ⟨AgreeOn.refl _ _, R.heap, fun ρ' _ => by simp [den, den2, den1, den0]⟩
    have hjl : j < es.size := by rw [M.size]; exact hj
    have := all_seen es sn hz es[j] (by simp)
    exact (hsn j es[j] (by simp [hjl])).1 this
  · obtain ⟨he1, he2⟩ := mem_left he
    obtain ⟨j, hj, hej⟩ := List.getElem_of_mem he1
    have hje : es[j]? = some e := by rw [← Array.getElem?_toList]; exact List.getElem?_eq_some_iff.2 ⟨hj, hej⟩
    have hD := M.at j
    rw [Array.getElem?_toList, hje] at hD
    cases hDj : D[j]? with
    | none => rw [hDj] at hD; cases hD
    | some q =>
      obtain ⟨k, v⟩ := q
      rw [hDj] at hD
      simp only [Option.map_some, Option.some.injEq, Prod.mk.injEq] at hD
      obtain ⟨hk1, hv1⟩ := hD
      have hns : j ∉ seen := fun h => by
        have := (hsn j e hje).2 h
        rw [he2] at this; cases this
      have hrun2 : (execOp a.eval o).run P w = .ok (.value (.tuple #[.bool true, .int .i64 k, enc v])) (setBlock w1 r (.mapIter (some (ρ i).1) clock (sn.push e.born) clock)) := by
        simp only [execOp, ho, hx', Sem.run_bind, hrun, Result.andThen_ok, hk1, hv1]
        rfl
      have hw1h : w1.heap = w.heap := by rcases hw1 with rfl | rfl <;> rfl
      have hrl := (Array.getElem?_eq_some_iff.1 hr).1
      have hset : ∀ b, b ≠ r → (setBlock w1 r (.mapIter (some (ρ i).1) clock (sn.push e.born) clock)).heap[b]? = w.heap[b]? := fun b hbr => by
        show (w1.heap.setIfInBounds r _)[b]? = _
        rw [hw1h]; simp [Ne.symm hbr]
      have hsr : (setBlock w1 r (.mapIter (some (ρ i).1) clock (sn.push e.born) clock)).heap[r]? = some (.mapIter (some (ρ i).1) clock (sn.push e.born) clock) := by
        show (w1.heap.setIfInBounds r _)[r]? = _
        rw [hw1h]; simp [hrl]
      have hssz : (setBlock w1 r (.mapIter (some (ρ i).1) clock (sn.push e.born) clock)).heap.size = w.heap.size := by
        show (w1.heap.setIfInBounds r _).size = _
        rw [hw1h]; simp
      have H := R.heap.turnX E hi (d := itC enc D (seen ++ [j]) r) (w' := setBlock w1 r (.mapIter (some (ρ i).1) clock (sn.push e.born) clock)) (S' := S i) id (Nat.le_refl _) (fun j hj => absurd hj (Nat.not_lt_zero j))
        (by rcases hw1 with rfl | rfl <;> rfl) (by rcases hw1 with rfl | rfl <;> rfl) (by rcases hw1 with rfl | rfl <;> rfl) (by omega) (fun b _ hb => hset b fun e => hb ((hS b).2 (.inr e)))
        (fun b hb => ⟨by rw [hssz]; exact (E.mine i _ b hi hb).2.1, .inl rfl, .inl hb⟩)
        ⟨hS, hne, es, clock, sn.push e.born, (hset _ (Ne.symm hne)).trans hb, M, hsr, fun l x hl => ?_, fun s l hs => ?_⟩
      · unfold Oper.wp
        rw [hrun2]
        refine hn _ _ ρ _ _ (h1 j k v hDj hns) ⟨AgreeOn.refl _ _, H, fun ρ' _ => den_plain3 ?_ ρ'⟩
        simp only [plain3, List.all_cons, List.all_nil, hp v]; rfl
      · rw [contains_push]
        simp only [Bool.or_eq_true, hsn l x hl, List.mem_append, List.mem_singleton, beq_iff_eq]
        refine or_congr_right ⟨fun hx2 => ?_, fun hl2 => ?_⟩
        · have hl' := (Array.getElem?_eq_some_iff.1 hl).1
          refine (List.getElem?_inj (l := es.toList.map (·.born)) (i := l) (j := j) (by simpa using hl') hbn).1 ?_
          simp [hl, hje, hx2]
        · subst hl2
          rw [hje] at hl
          obtain rfl : e = x := by simpa using hl
          rfl
      · obtain ⟨rfl, h2⟩ := List.append_inj' hs rfl
        obtain rfl : j = l := by simpa using h2
        exact ⟨e, sn, hje, rfl⟩
/-- The round's key and value. -/
theorem N_entryI {o : Oper} {st : St} {slot : Nat} {K : Value → List (Nat × Chunk) → List Nat → Prop} {x : Operand} {r : Nat} (i : Nat) (enc : α → Value) (D : List (Int × α)) (s : List Nat) (j : Nat) (k : Int) (v : α) (ho : o.op = .entry x) (hx : EvTo x st (.pointer (some ⟨r, 0, none⟩))) (hi : st.h[i]? = some (some (itC enc D (s ++ [j]) r))) (hj : D[j]? = some (k, v)) (hp : plain2 (enc v) = true)
    (h : K (.tuple #[.int .i64 k, enc v]) [] [i]) : N (OpN P o st slot K) := by
  refine N.mk ⟨_, _, _, fun st₂ hs hh _ => eff_pure fun X ρ a w R => ?_, h⟩
  have hi2 : st₂.h[i]? = some (some (itC enc D (s ++ [j]) r)) := (hh i (List.mem_singleton.2 rfl)).trans hi
  have hx' : a.eval x = .pointer (some ⟨r, 0, none⟩) := ((hs x (by simp [ho, Op.operands]) _ hx).den R).self.symm
  obtain ⟨S, E⟩ := R.heap.ext
  obtain ⟨hS, hne, es, clock, sn, hb, M, hr, hsn, hlast⟩ := E.inv i _ hi2
  obtain ⟨e, sn', hje, rfl⟩ := hlast s j rfl
  have hD := M.at j
  rw [Array.getElem?_toList, hje, hj] at hD
  simp only [Option.map_some, Option.some.injEq, Prod.mk.injEq] at hD
  have hm : e ∈ es.toList := by
    have := (Array.getElem?_eq_some_iff.1 hje)
    rw [← this.2]; simp
  have hrun := run_entry_at (P := P) w r (ρ i).1 clock sn' es clock e hr hb hm M.stamped.2.1
  refine ⟨_, ?_, fun ρ' _ => den_plain3 (v := .tuple #[.int .i64 k, enc v]) (by simp only [plain3, List.all_cons, List.all_nil, hp]; rfl) ρ'⟩
  simp only [execOp, ho, hx', Sem.run_bind, hrun, Result.andThen_ok, hD.1, hD.2]
  rfl
end
end Go.Proofs.Ytpafcfelaaibgaa.Sx
