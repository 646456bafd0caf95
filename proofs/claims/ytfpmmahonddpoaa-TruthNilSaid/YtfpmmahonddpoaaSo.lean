/-
  Sx, its second part: what each operation of the model does to the slots and cells that a call knows of.
-/
import Derived.Test.YtfpmmahonddpoaaSx
set_option linter.unusedVariables false
set_option linter.unusedSimpArgs false
namespace Go.Proofs.Ytfpmmahonddpoaa.Sx
open Go Go.RowKit

/-! ### What an operation does -/

def After (X : Ctx) (ρ : Nat → Nat × Nat) (st : St) (v : Value) (ms : List (Nat × Chunk)) (ρ' : Nat → Nat × Nat) (x : Value) (w' : World) : Prop :=
  AgreeOn (Fil st.h) ρ ρ' ∧ HOK X ρ' (modH st.h ms) w' ∧ Den (Fil (modH st.h ms)) ρ' v x
def EffOK (P : Program) (o : Oper) (st : St) (v : Value) (ms : List (Nat × Chunk)) : Prop :=
  ∀ X ρ a w, Rel X ρ st a w → ∀ (next : Act → World → Prop) (Q : Exit → Act → World → Prop),
    (∀ ρ' x w', After X ρ st v ms ρ' x w' → next (a.put o.dst x) w') → o.wp P a w next Q
def OKs (P : Program) (o : Oper) (st : St) (v : Value) (ms : List (Nat × Chunk)) (rh : List Nat) : Prop :=
  ∀ st₂ : St, (∀ x ∈ o.op.operands.toList, ∀ u, EvTo x st u → EvTo x st₂ u) → (∀ i ∈ rh, st₂.h[i]? = st.h[i]?) → (∀ m ∈ ms, st₂.h[m.1]? = st.h[m.1]?) → EffOK P o st₂ v ms

theorem eff_value {P : Program} {o : Oper} {st : St} {v : Value} {ms : List (Nat × Chunk)}
    (h : ∀ X ρ a w, Rel X ρ st a w → ∃ ρ' x w', (execOp a.eval o).run P w = .ok (.value x) w' ∧ After X ρ st v ms ρ' x w') : EffOK P o st v ms := by
  intro X ρ a w R next Q hn
  obtain ⟨ρ', x, w', hr, ha⟩ := h X ρ a w R
  unfold Oper.wp
  rw [hr]
  exact hn ρ' x w' ha
theorem eff_pure {P : Program} {o : Oper} {st : St} {v : Value}
    (h : ∀ X ρ a w, Rel X ρ st a w → ∃ x, (execOp a.eval o).run P w = .ok (.value x) w ∧ Den (Fil st.h) ρ v x) : EffOK P o st v [] :=
  eff_value fun X ρ a w R => by
    obtain ⟨x, hr, hd⟩ := h X ρ a w R
    exact ⟨ρ, x, w, hr, AgreeOn.refl _ _, R.heap, hd⟩
theorem eff_skip {P : Program} {o : Oper} {st : St} {ms : List (Nat × Chunk)}
    (h : ∀ X ρ a w, Rel X ρ st a w → ∃ ρ' w', (execOp a.eval o).run P w = .ok .skip w' ∧ AgreeOn (Fil st.h) ρ ρ' ∧ HOK X ρ' (modH st.h ms) w') : EffOK P o st undef ms := by
  intro X ρ a w R next Q hn
  obtain ⟨ρ', w', hr, ha, hh⟩ := h X ρ a w R
  unfold Oper.wp
  rw [hr]
  exact hn ρ' undef w' ⟨ha, hh, fun r _ => by simp [undef, den]⟩

def mkp (i : Nat) : Value := .pointer (some ⟨i, 0, some 0⟩)
def isAggD : TypeDesc → Bool
  | .struct _ | .array _ _ => true
  | _ => false

section
variable {P : Program} {G : Tys} {o : Oper} {st : St}

theorem run_isAgg {t : TypeId} {d : TypeDesc} (h : P.underlying t = some d) (w : World) : (isAgg t).run P w = .ok (isAggD d) w := by
  simp only [isAgg, underlying, Sem.run_bind, run_program, Result.andThen_ok, h, Sem.run_pure]
  cases d <;> rfl
theorem run_sizeOf {t : TypeId} {i : TypeInfo} (h : P.info? t = some i) (w : World) : (sizeOf t).run P w = .ok i.size w := by
  simp [sizeOf, typeInfo, Sem.run_bind, run_program, Result.andThen_ok, h]

/-! #### moves -/
theorem ok_move {x : Operand} {v : Value} (ho : o.op = .move x) (hx : EvTo x st v) : OKs P o st v [] [] := fun st₂ hs _ _ =>
  eff_pure fun X ρ a w R => ⟨a.eval x, by simp only [execOp, ho]; rfl, (hs x (by simp [ho, Op.operands]) v hx).den R⟩
theorem ok_assign {x : Operand} {v : Value} (ho : o.op = .assign x) (hx : EvTo x st v) : OKs P o st v [] [] := fun st₂ hs _ _ =>
  eff_pure fun X ρ a w R => ⟨a.eval x, by simp only [execOp, ho]; rfl, (hs x (by simp [ho, Op.operands]) v hx).den R⟩
theorem ok_pick {c x y : Operand} {t : Bool} {v : Value} (ho : o.op = .pick c x y) (hc : EvTo c st (.bool t)) (hx : EvTo (if t then x else y) st v) : OKs P o st v [] [] := fun st₂ hs _ _ =>
  eff_pure fun X ρ a w R => by
    have hc' : a.eval c = .bool t := ((hs c (by simp [ho, Op.operands]) _ hc).den R).self.symm
    refine ⟨a.eval (if t then x else y), ?_, (hs _ (by cases t <;> simp [ho, Op.operands]) v hx).den R⟩
    simp only [execOp, ho, hc', asBool, Sem.run_bind, Sem.run_pure, Result.andThen_ok]
    cases t <;> rfl

/-! #### memory -/
def Reads (c : Chunk) (o : Nat) (agg : Bool) (n : Nat) (v : Value) : Prop :=
  match agg with
  | true => o + n ≤ c.n ∧ ∃ cs, v = .agg cs ∧ cs.toList.length = n ∧ ∀ j, j < n → c.f (o + j) = cs.toList.getD j undef
  | false => o < c.n ∧ v.oneCell' = true ∧ c.f o = v
theorem add_at (b o n : Nat) : (⟨b, o, none⟩ : Addr).add n = ⟨b, o + n, none⟩ := by
  unfold Addr.add
  split
  · rename_i h; subst h; rfl
  · rfl
theorem ok_load {t : TypeId} {x : Operand} {i f s : Nat} {c : Chunk} {ti : TypeInfo} {d : TypeDesc} {v : Value} (ho : o.op = .load t x) (hx : EvTo x st (.pointer (some ⟨i, f, some s⟩))) (hi : st.h[i]? = some (some c))
    (h1 : P.info? t = some ti) (h2 : P.underlying t = some d) (hr : Reads c f (isAggD d) ti.size v) : OKs P o st v [] [i] := fun st₂ hs hh _ =>
  eff_pure fun X ρ a w R => by
    have hi2 : st₂.h[i]? = some (some c) := (hh i (by simp)).trans hi
    have hx' : a.eval x = .pointer (some ⟨(ρ i).1, (ρ i).2 + f, none⟩) := ((hs x (by simp [ho, Op.operands]) _ hx).den R).self.symm
    cases hd : isAggD d with
    | false =>
      rw [hd] at hr
      obtain ⟨hl, hv, hf⟩ := hr
      obtain ⟨y, hy, hyd⟩ := R.heap.cell i c hi2 f hl
      refine ⟨y, ?_, by rw [hf] at hyd; exact Den.of_one hyd hv⟩
      simp only [execOp, ho, hx', Instr.loadAt, Instr.sureAddr, loadVar, Sem.run_bind, Sem.run_pure, Result.andThen_ok, run_isAgg h2, hd, Bool.false_eq_true, if_false, run_load, hy]
    | true =>
      rw [hd] at hr
      obtain ⟨hl, cs, rfl, hn, hf⟩ := hr
      have hcells : ∀ j v, (cs.toList.map (den1 ρ))[j]? = some v → w.cell? ((⟨(ρ i).1, (ρ i).2 + f, none⟩ : Addr).add j) = some v := fun j v hv => by
        have hj : j < cs.toList.length := by have := (List.getElem?_eq_some_iff.1 hv).1; simpa using this
        rw [List.getElem?_map, List.getElem?_eq_getElem hj] at hv
        obtain ⟨y, hy, hyd⟩ := R.heap.cell i c hi2 (f + j) (by omega)
        have e := hf j (by omega)
        rw [List.getD_eq_getElem?_getD, List.getElem?_eq_getElem hj] at e
        simp only [Option.getD_some] at e
        rw [e] at hyd
        rw [add_at, Nat.add_assoc, hy, ← hyd.self]
        exact hv
      have hlen : ti.size = (cs.toList.map (den1 ρ)).length := by rw [List.length_map, hn]
      refine ⟨.agg (cs.map (den1 ρ)), ?_, fun r hr => ?_⟩
      · simp only [execOp, ho, hx', Instr.loadAt, Instr.sureAddr, loadVar, Sem.run_bind, Sem.run_pure, Result.andThen_ok, run_isAgg h2, hd, if_true, run_sizeOf h1]
        rw [hlen, run_loadCells_list _ _ _ hcells]
        simp only [Result.andThen_ok, Result.ok.injEq, Next.value.injEq, Value.agg.injEq, and_true]
        apply Array.toList_inj.1
        simp
      · simp only [den, den2, Value.agg.injEq]
        apply Array.toList_inj.1
        rw [Array.toList_map, Array.toList_map]
        apply List.ext_getElem?
        intro j
        simp only [List.getElem?_map]
        by_cases hj : j < cs.toList.length
        · rw [List.getElem?_eq_getElem hj]
          obtain ⟨y, hy, hyd⟩ := R.heap.cell i c hi2 (f + j) (by omega)
          have e := hf j (by omega)
          rw [List.getD_eq_getElem?_getD, List.getElem?_eq_getElem hj] at e
          simp only [Option.getD_some] at e
          rw [e] at hyd
          simp only [Option.map_some, Option.some.injEq]
          rw [hyd r hr, hyd.self]
        · rw [List.getElem?_eq_none (by omega)]; rfl

/-- The value v as the cells of a variable of n cells. -/
def flatB (v : Value) (n : Nat) : Bool :=
  match v with
  | .agg cs => Nat.beq cs.toList.length n && cs.toList.all Value.oneCell'
  | .tuple _ => false
  | _ => Nat.beq 1 n
theorem flat_size {v : Value} {n : Nat} (h : flatB v n = true) (ρ : Nat → Nat × Nat) : (den ρ v).cells.size = n := by
  cases v with
  | agg cs =>
    simp only [flatB, Bool.and_eq_true] at h
    have := Nat.eq_of_beq_eq_true h.1
    simpa [den, den2, Value.cells] using this
  | tuple vs => simp [flatB] at h
  | _ => 
    have := Nat.eq_of_beq_eq_true h
    subst this
    first
      | rfl
      | (rename_i a; cases a <;> rfl)
      | (rename_i a _ _; cases a <;> rfl)
theorem flat_cells {v : Value} {n : Nat} (h : flatB v n = true) (ρ : Nat → Nat × Nat) : (den ρ v).cells.toList = (List.range n).map (fun j => den1 ρ (cellIn v j)) := by
  cases v with
  | agg cs =>
    simp only [flatB, Bool.and_eq_true] at h
    have hn := Nat.eq_of_beq_eq_true h.1
    subst hn
    simp only [den, den2, Value.cells, Array.toList_map, cellIn]
    apply List.ext_getElem?
    intro j
    by_cases hj : j < cs.toList.length
    · simp only [List.getElem?_map, List.getElem?_range hj, Option.map_some, List.getElem?_eq_getElem hj, List.getD_eq_getElem?_getD, Option.getD_some]
    · rw [List.getElem?_eq_none (by simpa using hj), List.getElem?_eq_none (by simpa using hj)]
  | tuple vs => simp [flatB] at h
  | _ => 
    have := Nat.eq_of_beq_eq_true h
    subst this
    first
      | rfl
      | (rename_i a; cases a <;> rfl)
      | (rename_i a _ _; cases a <;> rfl)
theorem den0_one {v : Value} (h : v.oneCell' = true) (ρ : Nat → Nat × Nat) : (den0 ρ v).oneCell' = true := by
  cases v with
  | pointer a => cases a <;> rfl
  | slice a _ _ => cases a <;> rfl
  | _ => first | rfl | exact h
theorem den1_one {v : Value} (h : v.oneCell' = true) (ρ : Nat → Nat × Nat) : (den1 ρ v).oneCell' = true := by
  cases v with
  | func f x y => rfl
  | _ => exact den0_one h ρ
theorem flat_one {v : Value} {n : Nat} (h : flatB v n = true) {j : Nat} (hj : j < n) : (cellIn v j).oneCell' = true := by
  cases v with
  | agg cs =>
    simp only [flatB, Bool.and_eq_true, List.all_eq_true] at h
    have hn := Nat.eq_of_beq_eq_true h.1
    subst hn
    simp only [cellIn, List.getD_eq_getElem?_getD, List.getElem?_eq_getElem hj, Option.getD_some]
    exact h.2 _ (List.getElem_mem hj)
  | tuple vs => simp [flatB] at h
  | _ => rfl
theorem Den.cellIn {F : Nat → Prop} {ρ : Nat → Nat × Nat} {v x : Value} {n : Nat} (h : Den F ρ v x) (hf : flatB v n = true) {j : Nat} (hj : j < n) : Den1 F ρ (cellIn v j) (den1 ρ (cellIn v j)) := fun r hr => by
  have e : (den r v).cells.toList = (den ρ v).cells.toList := by rw [h r hr, h.self]
  rw [flat_cells hf, flat_cells hf] at e
  have := congrArg (fun l => l[j]?) e
  simpa [hj] using this

def chunkOf (n : Nat) (f : Nat → Value) : Chunk := ⟨true, n, [(0, n, .agg ⟨(List.range n).map f⟩)]⟩
theorem chunkOf_f {n : Nat} {f : Nat → Value} {j : Nat} (h : j < n) : (chunkOf n f).f j = f j := by
  simp [chunkOf, Chunk.f, cellOf_cons, cellIn, h]

theorem run_store_ok {X : Ctx} {ρ : Nat → Nat × Nat} {h : List (Option Chunk)} {w : World} {i j : Nat} {c : Chunk} {x : Value} (H : HOK X ρ h w) (hi : h[i]? = some (some c)) (ho : c.own = true) (hj : j < c.n) (hx : x.oneCell' = true) :
    (store ⟨(ρ i).1, (ρ i).2 + j, none⟩ x).run P w = .ok () (w.setCell ⟨(ρ i).1, (ρ i).2 + j, none⟩ x) := by
  obtain ⟨y, hy, _⟩ := H.cell i c hi j hj
  have hf := (H.own i c hi ho j hj).1
  rw [run_store P w _ x _ hx]
  simp [hy, hf]

theorem store_cells {X : Ctx} {ρ : Nat → Nat × Nat} {h : List (Option Chunk)} {i f n : Nat} {c : Chunk} {v x : Value} (hi : h[i]? = some (some c)) (ho : c.own = true) (hl : f + n ≤ c.n) (hd : Den (Fil h) ρ v x) (hf : flatB v n = true) :
    ∀ (m k : Nat), k + m = n → ∀ w, HOK X ρ (h.set i (some (chunkOf c.n (fun j => if f ≤ j ∧ j < f + k then cellIn v (j - f) else c.f j)))) w →
      ∃ w', (storeCells ⟨(ρ i).1, (ρ i).2 + f, none⟩ ((List.range' k m).map (fun j => den1 ρ (cellIn v j))) k).run P w = .ok () w' ∧
        HOK X ρ (h.set i (some (chunkOf c.n (fun j => if f ≤ j ∧ j < f + n then cellIn v (j - f) else c.f j)))) w' := by
  have hil := (List.getElem?_eq_some_iff.1 hi).1
  intro m
  induction m with
  | zero => intro k hk w H; obtain rfl : k = n := by omega
            exact ⟨w, rfl, H⟩
  | succ m ih =>
    intro k hk w H
    have hg : (h.set i (some (chunkOf c.n (fun j => if f ≤ j ∧ j < f + k then cellIn v (j - f) else c.f j))))[i]? = some (some (chunkOf c.n (fun j => if f ≤ j ∧ j < f + k then cellIn v (j - f) else c.f j))) := by
      rw [List.getElem?_set_self hil]
    have hk1 : k < n := by omega
    have hone := flat_one hf hk1
    have hst := run_store_ok (P := P) (j := f + k) (x := den1 ρ (cellIn v k)) H hg rfl (by show f + k < c.n; omega) (den1_one hone ρ)
    have H2 := H.store (d := chunkOf c.n (fun j => if f ≤ j ∧ j < f + (k + 1) then cellIn v (j - f) else c.f j)) (o := f + k) hg rfl rfl rfl (by show f + k < c.n; omega)
      ((hd.cellIn hf hk1).more (AgreeOn.refl _ _) (fun _ hF => hF.set)) (fun j hj => by
        have hj' : j < c.n := hj
        rw [chunkOf_f hj', chunkOf_f hj']
        by_cases e : j = f + k
        · subst e
          rw [if_pos ⟨by omega, by omega⟩, if_pos rfl]
          congr 1; omega
        · rw [if_neg e]
          by_cases e2 : f ≤ j ∧ j < f + k
          · rw [if_pos e2, if_pos ⟨e2.1, by omega⟩]
          · rw [if_neg e2, if_neg (by omega)])
    rw [List.set_set] at H2
    obtain ⟨w', hr, H3⟩ := ih (k + 1) (by omega) _ H2
    refine ⟨w', ?_, H3⟩
    rw [List.range'_succ, List.map_cons]
    simp only [storeCells, Sem.run_bind]
    rw [add_at, Nat.add_assoc, hst]
    exact hr

def Writes (c : Chunk) (o n : Nat) (v : Value) (d : Chunk) : Prop :=
  c.own = true ∧ o + n ≤ c.n ∧ d.n = c.n ∧ ∀ j, j < c.n → d.f j = if o ≤ j ∧ j < o + n then cellIn v (j - o) else c.f j

theorem ok_store {t : TypeId} {x y : Operand} {i f s : Nat} {c d : Chunk} {ti : TypeInfo} {v : Value} (ho : o.op = .store t x y) (hx : EvTo x st (.pointer (some ⟨i, f, some s⟩))) (hy : EvTo y st v) (hi : st.h[i]? = some (some c))
    (h1 : P.info? t = some ti) (hf : flatB v ti.size = true) (hw : Writes c f ti.size v d) : OKs P o st undef [(i, d)] [] := fun st₂ hs _ hh =>
  eff_skip fun X ρ a w R => by
    have hi2 : st₂.h[i]? = some (some c) := (hh _ (List.mem_singleton.2 rfl)).trans hi
    have hx' : a.eval x = .pointer (some ⟨(ρ i).1, (ρ i).2 + f, none⟩) := ((hs x (by simp [ho, Op.operands]) _ hx).den R).self.symm
    have hv := (hs y (by simp [ho, Op.operands]) _ hy).den R
    obtain ⟨hown, hle, hdn, hdf⟩ := hw
    have H0 : HOK X ρ (st₂.h.set i (some (chunkOf c.n (fun j => if f ≤ j ∧ j < f + 0 then cellIn v (j - f) else c.f j)))) w := by
      refine R.heap.say hi2 (fun _ => hown) (Nat.le_refl _) fun j hj => ?_
      have hj' : j < c.n := hj
      rw [chunkOf_f hj', if_neg (by omega)]
    obtain ⟨w', hr, H1⟩ := store_cells (P := P) hi2 hown hle hv hf ti.size 0 (by omega) w H0
    refine ⟨ρ, w', ?_, AgreeOn.refl _ _, ?_⟩
    · simp only [execOp, ho, hx', Instr.storeAt, Instr.sureAddr, storeVar, Sem.run_bind, Sem.run_pure, Result.andThen_ok, run_sizeOf h1, ← hv.self, flat_size hf, ne_eq, not_true_eq_false, if_false]
      rw [flat_cells hf, List.range_eq_range', hr]
      rfl
    · have hil := (List.getElem?_eq_some_iff.1 hi2).1
      have := H1.say (i := i) (d := d) (by rw [List.getElem?_set_self hil]) (fun _ => rfl) (by rw [hdn]; exact Nat.le_refl _) fun j hj => by
        rw [hdn] at hj
        rw [chunkOf_f hj, hdf j hj]
      rw [List.set_set] at this
      exact this

theorem run_newVar {X : Ctx} {ρ : Nat → Nat × Nat} {h : List (Option Chunk)} {w : World} {i n : Nat} {v x : Value} (t : TypeId) (H : HOK X ρ h w) (hi : h[i]? = some none) (hd : Den (Fil h) ρ v x) (hf : flatB v n = true) :
    ∃ ρ' w', (newVar t x).run P w = .ok ⟨(ρ' i).1, (ρ' i).2, none⟩ w' ∧ AgreeOn (Fil h) ρ ρ' ∧ HOK X ρ' (h.set i (some ⟨true, n, [(0, n, v)]⟩)) w' := by
  have hsz : x.cells.size = n := by rw [← hd.self]; exact flat_size hf ρ
  obtain ⟨ρ', ha, hρ, H'⟩ := H.alloc (c := ⟨true, n, [(0, n, v)]⟩) (xs := x.cells) (ty := t) hi hsz.symm (fun j y hy => by
    have hj : j < n := by have := (Array.getElem?_eq_some_iff.1 hy).1; omega
    have e : x.cells.toList = (List.range n).map (fun j => den1 ρ (cellIn v j)) := by rw [← hd.self]; exact flat_cells hf ρ
    have e2 : x.cells.toList[j]? = some y := by simpa using hy
    rw [e] at e2
    simp [hj] at e2
    have : (⟨true, n, [(0, n, v)]⟩ : Chunk).f j = cellIn v j := by simp [Chunk.f, cellOf_cons, hj]
    rw [this, ← e2]
    exact hd.cellIn hf hj)
  refine ⟨ρ', _, ?_, ha, H'⟩
  rw [hρ]
  rfl
theorem Den.newp {h : List (Option Chunk)} {i : Nat} {ρ : Nat → Nat × Nat} {c : Chunk} (hl : i < h.length) : Den (Fil (h.set i (some c))) ρ (mkp i) (.pointer (some ⟨(ρ i).1, (ρ i).2, none⟩)) := fun r hr => by
  have := hr i ⟨c, by rw [List.getElem?_set_self hl]⟩
  simp [mkp, den, den2, den1, den0, denA, this]

theorem ok_box {t : TypeId} {x : Operand} {i n : Nat} {v : Value} (ho : o.op = .box t x) (hx : EvTo x st v) (hi : st.h[i]? = some none) (hf : flatB v n = true) : OKs P o st (mkp i) [(i, ⟨true, n, [(0, n, v)]⟩)] [] := fun st₂ hs _ hh =>
  eff_value fun X ρ a w R => by
    have hi2 : st₂.h[i]? = some none := (hh _ (List.mem_singleton.2 rfl)).trans hi
    have hv := (hs x (by simp [ho, Op.operands]) _ hx).den R
    obtain ⟨ρ', w', hr, ha, H'⟩ := run_newVar (P := P) t R.heap hi2 hv hf
    refine ⟨ρ', .pointer (some ⟨(ρ' i).1, (ρ' i).2, none⟩), w', ?_, ha, H', Den.newp (List.getElem?_eq_some_iff.1 hi2).1⟩
    simp only [execOp, ho, Instr.box, Sem.run_bind, hr, Result.andThen_ok, Sem.run_pure]
theorem ok_alloc {t : TypeId} {i n : Nat} {ti : TypeInfo} {z : Value} (ho : o.op = .alloc t) (h1 : P.info? t = some ti) (hz : ti.zero = some z) (hp : plain2 z = true) (hi : st.h[i]? = some none) (hf : flatB z n = true) : OKs P o st (mkp i) [(i, ⟨true, n, [(0, n, z)]⟩)] [] := fun st₂ hs _ hh =>
  eff_value fun X ρ a w R => by
    have hi2 : st₂.h[i]? = some none := (hh _ (List.mem_singleton.2 rfl)).trans hi
    obtain ⟨ρ', w', hr, ha, H'⟩ := run_newVar (P := P) t R.heap hi2 (Den.plain hp) hf
    refine ⟨ρ', .pointer (some ⟨(ρ' i).1, (ρ' i).2, none⟩), w', ?_, ha, H', Den.newp (List.getElem?_eq_some_iff.1 hi2).1⟩
    have hzv : (zeroValue t).run P w = .ok z w := by simp [zeroValue, typeInfo, Sem.run_bind, run_program, Result.andThen_ok, h1, hz]
    simp only [execOp, ho, Instr.alloc, Sem.run_bind, hzv, hr, Result.andThen_ok, Sem.run_pure]

/-! #### addresses -/
theorem Den.shift {X : Ctx} {ρ : Nat → Nat × Nat} {st : St} {i f g s : Nat} {x : Value} (h : Den (Fil st.h) ρ (.pointer (some ⟨i, f, some s⟩)) x) (s' : Nat) :
    x = .pointer (some ⟨(ρ i).1, (ρ i).2 + f, none⟩) ∧ Den (Fil st.h) ρ (.pointer (some ⟨i, f + g, some s'⟩)) (.pointer (some ⟨(ρ i).1, (ρ i).2 + (f + g), none⟩)) := by
  refine ⟨h.self.symm, fun r hr => ?_⟩
  have h1 : (.pointer (some ⟨(r i).1, (r i).2 + f, none⟩) : Value) = x := h r hr
  rw [← h.self] at h1
  have h2 : ((r i).1 = (ρ i).1 ∧ (r i).2 + f = (ρ i).2 + f) := by simpa [den, den2, den1, den0, denA] using h1
  have e1 := h2.1
  have e2 : (r i).2 = (ρ i).2 := by omega
  simp [den, den2, den1, den0, denA, e1, e2]

theorem ok_nilCheck {x : Operand} {i f s : Nat} (ho : o.op = .nilCheck x) (hx : EvTo x st (.pointer (some ⟨i, f, some s⟩))) : OKs P o st (.pointer (some ⟨i, f, some s⟩)) [] [] := fun st₂ hs _ _ =>
  eff_pure fun X ρ a w R => by
    have hd := (hs x (by simp [ho, Op.operands]) _ hx).den R
    have hx' : a.eval x = .pointer (some ⟨(ρ i).1, (ρ i).2 + f, none⟩) := hd.self.symm
    exact ⟨a.eval x, by simp only [execOp, ho, hx']; rfl, hd⟩
theorem ok_nilCheckF {x : Operand} {g : FuncId} {u v : Array Value} (ho : o.op = .nilCheck x) (hx : EvTo x st (.func (.func g) u v)) : OKs P o st (.func (.func g) u v) [] [] := fun st₂ hs _ _ =>
  eff_pure fun X ρ a w R => by
    have hd := (hs x (by simp [ho, Op.operands]) _ hx).den R
    have hx' : a.eval x = .func (.func g) (u.map (den0 ρ)) (v.map (den0 ρ)) := hd.self.symm
    exact ⟨a.eval x, by simp only [execOp, ho, hx']; rfl, hd⟩
theorem ok_fieldAddr {t : TypeId} {x : Operand} {k i f s : Nat} {fs : Array Field} {fl : Field} {fi : TypeInfo} (ho : o.op = .fieldAddr t x k) (hx : EvTo x st (.pointer (some ⟨i, f, some s⟩))) (h1 : P.underlying t = some (.struct fs)) (h2 : fs.toList[k]? = some fl)
    (h3 : P.info? fl.type = some fi) (h4 : Nat.beq fi.size 0 = false) : OKs P o st (.pointer (some ⟨i, f + fl.offset, some s⟩)) [] [] := fun st₂ hs _ _ =>
  eff_pure fun X ρ a w R => by
    obtain ⟨hx', hd⟩ := Den.shift (X := X) (g := fl.offset) ((hs x (by simp [ho, Op.operands]) _ hx).den R) s
    refine ⟨_, ?_, hd⟩
    have h2' : fs[k]? = some fl := by simpa using h2
    have h4' : fi.size ≠ 0 := fun e => by rw [e] at h4; cases h4
    simp only [execOp, ho, hx', Instr.fieldAt, Instr.sureAddr, underlying, fieldPlace, Sem.run_bind, run_program, Result.andThen_ok, h1, h2', Sem.run_pure, run_sizeOf h3, h4', if_false, add_at, Nat.add_assoc]

/-! #### values -/
def PartOf (cs : Array Value) (f : Nat) (agg : Bool) (n : Nat) (v : Value) : Prop :=
  match agg with
  | true => ∃ ds, v = .agg ds ∧ ds.toList = (cs.toList.drop f).take n
  | false => v.oneCell' = true ∧ cs.toList[f]? = some v
theorem Den.cell {F : Nat → Prop} {ρ : Nat → Nat × Nat} {cs : Array Value} {x : Value} (h : Den F ρ (.agg cs) x) {j : Nat} {v : Value} (hv : cs.toList[j]? = some v) : Den1 F ρ v (den1 ρ v) := fun r hr => by
  have e : den r (.agg cs) = den ρ (.agg cs) := by rw [h r hr, h.self]
  simp only [den, den2, Value.agg.injEq] at e
  have := congrArg (fun l => l.toList[j]?) e
  simpa [hv] using this
theorem run_part {ρ : Nat → Nat × Nat} {t : TypeId} {ti : TypeInfo} {d : TypeDesc} {cs : Array Value} {f : Nat} {v x : Value} {F : Nat → Prop} (h1 : P.info? t = some ti) (h2 : P.underlying t = some d) (hd : Den F ρ (.agg cs) x) (hp : PartOf cs f (isAggD d) ti.size v) (w : World) :
    ∃ y, (part t (cs.map (den1 ρ)) f).run P w = .ok y w ∧ Den F ρ v y := by
  cases hb : isAggD d with
  | false =>
    rw [hb] at hp
    obtain ⟨hv, hc⟩ := hp
    refine ⟨den1 ρ v, ?_, Den.of_one (hd.cell hc) hv⟩
    have hc' : cs[f]? = some v := by simpa using hc
    simp only [part, Sem.run_bind, run_isAgg h2, hb, Result.andThen_ok, Bool.false_eq_true, if_false, Array.getElem?_map, hc', Option.map_some, Sem.run_pure]
  | true =>
    rw [hb] at hp
    obtain ⟨ds, rfl, hc⟩ := hp
    refine ⟨.agg (ds.map (den1 ρ)), ?_, fun r hr => ?_⟩
    · simp only [part, Sem.run_bind, run_isAgg h2, hb, Result.andThen_ok, if_true, run_sizeOf h1, Sem.run_pure, Result.ok.injEq, Value.agg.injEq, and_true]
      apply Array.toList_inj.1
      rw [Array.toList_map, hc]
      simp [List.map_take, List.map_drop, Array.toList_extract, List.extract_eq_take_drop]
    · simp only [den, den2, Value.agg.injEq]
      apply Array.toList_inj.1
      rw [Array.toList_map, Array.toList_map]
      apply List.map_congr_left
      intro u hu
      rw [hc] at hu
      have hu' := List.mem_of_mem_drop (List.mem_of_mem_take hu)
      obtain ⟨j, hj, he⟩ := List.getElem_of_mem hu'
      exact hd.cell (j := j) (by rw [List.getElem?_eq_getElem hj, he]) r hr
theorem Den.agg {F : Nat → Prop} {ρ : Nat → Nat × Nat} {cs : Array Value} {x : Value} (h : Den F ρ (.agg cs) x) : x = .agg (cs.map (den1 ρ)) := h.self.symm

theorem ok_field {t : TypeId} {x : Operand} {k : Nat} {fs : Array Field} {fl : Field} {fi : TypeInfo} {d : TypeDesc} {cs : Array Value} {v : Value} (ho : o.op = .field t x k) (hx : EvTo x st (.agg cs)) (h1 : P.underlying t = some (.struct fs)) (h2 : fs.toList[k]? = some fl)
    (h3 : P.info? fl.type = some fi) (h4 : P.underlying fl.type = some d) (hp : PartOf cs fl.offset (isAggD d) fi.size v) : OKs P o st v [] [] := fun st₂ hs _ _ =>
  eff_pure fun X ρ a w R => by
    have hd := (hs x (by simp [ho, Op.operands]) _ hx).den R
    obtain ⟨y, hr, hy⟩ := run_part (P := P) h3 h4 hd hp w
    refine ⟨y, ?_, hy⟩
    have h2' : fs[k]? = some fl := by simpa using h2
    simp only [execOp, ho, hd.agg, Instr.field, underlying, asAgg, Sem.run_bind, run_program, Result.andThen_ok, h1, h2', Sem.run_pure, hr]
theorem ok_indexV {t e : TypeId} {x y : Operand} {n j : Nat} {k : IntKind} {fi : TypeInfo} {d : TypeDesc} {cs : Array Value} {v : Value} (ho : o.op = .index t x y) (hx : EvTo x st (.agg cs)) (hy : EvTo y st (.int k j)) (h1 : P.underlying t = some (.array n e))
    (h3 : P.info? e = some fi) (h4 : P.underlying e = some d) (hj : j < n) (hp : PartOf cs (j * fi.size) (isAggD d) fi.size v) : OKs P o st v [] [] := fun st₂ hs _ _ =>
  eff_pure fun X ρ a w R => by
    have hd := (hs x (by simp [ho, Op.operands]) _ hx).den R
    have hy' : a.eval y = .int k j := ((hs y (by simp [ho, Op.operands]) _ hy).den R).self.symm
    obtain ⟨z, hr, hz⟩ := run_part (P := P) h3 h4 hd hp w
    refine ⟨z, ?_, hz⟩
    have hb : (0 : Int) ≤ (j : Int) ∧ (j : Int) < (n : Int) := by omega
    simp only [execOp, ho, hd.agg, hy', Instr.index, asIntOf, underlying, Sem.run_bind, run_program, Result.andThen_ok, h1, Sem.run_pure, hb, and_self, if_true, run_sizeOf h3, Int.toNat_natCast, hr]
theorem ok_indexS {t : TypeId} {x y : Operand} {j : Nat} {k : IntKind} {s : ByteArray} {b : UInt8} (ho : o.op = .index t x y) (hx : EvTo x st (.string s)) (hy : EvTo y st (.int k j)) (h1 : P.underlying t = some .string) (hb : s[j]? = some b) : OKs P o st (.int .u8 b.toNat) [] [] := fun st₂ hs _ _ =>
  eff_pure fun X ρ a w R => by
    have hx' : a.eval x = .string s := ((hs x (by simp [ho, Op.operands]) _ hx).den R).self.symm
    have hy' : a.eval y = .int k j := ((hs y (by simp [ho, Op.operands]) _ hy).den R).self.symm
    refine ⟨.int .u8 b.toNat, ?_, Den.plain rfl⟩
    have h0 : (0 : Int) ≤ (j : Int) := by omega
    simp only [execOp, ho, hx', hy', Instr.index, asIntOf, underlying, Sem.run_bind, run_program, Result.andThen_ok, h1, Sem.run_pure, h0, if_true, Int.toNat_natCast, hb]
theorem ok_extract {x : Operand} {k : Nat} {vs : Array Value} {v : Value} (ho : o.op = .extract x k) (hx : EvTo x st (.tuple vs)) (hv : vs.toList[k]? = some v) (hn : (match v with | .tuple _ => false | _ => true) = true) : OKs P o st v [] [] := fun st₂ hs _ _ =>
  eff_pure fun X ρ a w R => by
    have hd := (hs x (by simp [ho, Op.operands]) _ hx).den R
    have hx' : a.eval x = .tuple (vs.map (den2 ρ)) := hd.self.symm
    have hv' : vs[k]? = some v := by simpa using hv
    refine ⟨den2 ρ v, ?_, fun r hr => ?_⟩
    · simp only [execOp, ho, hx', Instr.extract, Array.getElem?_map, hv', Option.map_some, Sem.run_bind, Sem.run_pure, Result.andThen_ok]
    · have e : den r (.tuple vs) = den ρ (.tuple vs) := by rw [hd r hr, hd.self]
      simp only [den, Value.tuple.injEq] at e
      have := congrArg (fun l => l[k]?) e
      simp only [Array.getElem?_map, hv', Option.map_some, Option.some.injEq] at this
      have e2 : den r v = den2 r v := by cases v <;> first | rfl | cases hn
      rw [e2, this]
theorem ok_makeFunc {fn : Fn} {xs ys : Array Operand} {us vs : List Value} (ho : o.op = .makeFunc fn xs ys) (hx : All2 (fun x v => EvTo x st v) xs.toList us) (hy : All2 (fun x v => EvTo x st v) ys.toList vs)
    (hpu : us.all (fun v => match v with | .func _ _ _ | .agg _ | .tuple _ => false | _ => true) = true) (hpv : vs.all (fun v => match v with | .func _ _ _ | .agg _ | .tuple _ => false | _ => true) = true) : OKs P o st (.func fn ⟨us⟩ ⟨vs⟩) [] [] := fun st₂ hs _ _ =>
  eff_pure fun X ρ a w R => by
    have key : ∀ (zs : List Operand) (qs : List Value), All2 (fun x v => EvTo x st v) zs qs → (∀ x ∈ zs, x ∈ o.op.operands.toList) → qs.all (fun v => match v with | .func _ _ _ | .agg _ | .tuple _ => false | _ => true) = true →
        ∀ r, AgreeOn (Fil st₂.h) ρ r → qs.map (den0 r) = zs.map a.eval := by
      intro zs
      induction zs with
      | nil => intro qs h _ _ r _; cases qs with
        | nil => rfl
        | cons _ _ => exact h.elim
      | cons z zs ih =>
        intro qs h hm hp r hr
        cases qs with
        | nil => exact h.elim
        | cons q qs =>
          simp only [List.all_cons, Bool.and_eq_true] at hp
          rw [List.map_cons, List.map_cons, ih qs h.2 (fun x hx => hm x (by simp [hx])) hp.2 r hr]
          congr 1
          have := (hs z (hm z (by simp)) _ h.1).den R r hr
          rw [← this]
          cases q <;> first | rfl | (simp at hp)
    refine ⟨.func fn (xs.map a.eval) (ys.map a.eval), by simp only [execOp, ho, Instr.makeFunc, Sem.run_bind, Sem.run_pure, Result.andThen_ok], fun r hr => ?_⟩
    simp only [den, den2, den1, Value.func.injEq, true_and]
    constructor
    · apply Array.toList_inj.1
      rw [Array.toList_map, Array.toList_map]
      exact key _ _ hx (fun x hx => by simp [ho, Op.operands]; left; simpa using hx) hpu r hr
    · apply Array.toList_inj.1
      rw [Array.toList_map, Array.toList_map]
      exact key _ _ hy (fun x hx => by simp [ho, Op.operands]; right; simpa using hx) hpv r hr

/-! #### integers, truth values, pointers held against nil -/
theorem run_eqGuard {op : BinOp} {t : TypeId} {x y : Operand} {a b : Value} (h : (match a, b with | .nilIface, .nilIface => false | .agg _, .agg _ => false | _, _ => true) = true) (w : World) : (eqGuard op t x y a b).run P w = .ok () w := by
  unfold eqGuard
  cases op <;> (simp only [Bool.not_true, Bool.not_false, Bool.false_eq_true, if_false, if_true]; first | rfl | (cases a <;> cases b <;> first | rfl | (simp at h)))

def sh (y : Int) (k : IntKind) : Nat := min y.toNat k.bits
def binR (op : BinOp) (k : IntKind) (a b : Int) : Option (Prop × Value) :=
  match op with
  | .add => some (True, .int k (k.wrap (a + b)))
  | .sub => some (True, .int k (k.wrap (a - b)))
  | .mul => some (True, .int k (k.wrap (a * b)))
  | .quo => some (b ≠ 0, .int k (k.wrap (a.tdiv b)))
  | .rem => some (b ≠ 0, .int k (a.tmod b))
  | .and => some (True, .int k (k.wrap (BitVec.ofInt k.bits a &&& BitVec.ofInt k.bits b).toNat))
  | .or => some (True, .int k (k.wrap (BitVec.ofInt k.bits a ||| BitVec.ofInt k.bits b).toNat))
  | .xor => some (True, .int k (k.wrap (BitVec.ofInt k.bits a ^^^ BitVec.ofInt k.bits b).toNat))
  | .andNot => some (True, .int k (k.wrap (BitVec.ofInt k.bits a &&& ~~~ BitVec.ofInt k.bits b).toNat))
  | .eql => some (True, .bool (a == b))
  | .neq => some (True, .bool (a != b))
  | .lss => some (True, .bool (decide (a < b)))
  | .leq => some (True, .bool (decide (a ≤ b)))
  | .gtr => some (True, .bool (decide (a > b)))
  | .geq => some (True, .bool (decide (a ≥ b)))
  | _ => none
theorem run_binR {op : BinOp} {t : TypeId} {k : IntKind} {a b : Int} {p : Prop} {v : Value} (h : binR op k a b = some (p, v)) (hp : p) (w : World) : (binOp op t (.int k a) (.int k b)).run P w = .ok v w := by
  cases op <;> simp only [binR, Option.some.injEq, Prod.mk.injEq, reduceCtorEq] at h <;> obtain ⟨rfl, rfl⟩ := h <;>
    simp [binOp, Op.intArith, Op.intDiv, Op.intBits, Op.intCmp, hp]
theorem binR_plain {op : BinOp} {k : IntKind} {a b : Int} {p : Prop} {v : Value} (h : binR op k a b = some (p, v)) : plain2 v = true := by
  cases op <;> simp only [binR, Option.some.injEq, Prod.mk.injEq, reduceCtorEq] at h <;> obtain ⟨rfl, rfl⟩ := h <;> rfl
theorem ok_bin {op : BinOp} {t u : TypeId} {x y : Operand} {k : IntKind} {a b : Int} {p : Prop} {v : Value} (ho : o.op = .binOp op t x y u) (hx : EvTo x st (.int k a)) (hy : EvTo y st (.int k b)) (h : binR op k a b = some (p, v)) (hp : p) : OKs P o st v [] [] := fun st₂ hs _ _ =>
  eff_pure fun X ρ c w R => by
    have hx' : c.eval x = .int k a := ((hs x (by simp [ho, Op.operands]) _ hx).den R).self.symm
    have hy' : c.eval y = .int k b := ((hs y (by simp [ho, Op.operands]) _ hy).den R).self.symm
    refine ⟨v, ?_, Den.plain (binR_plain h)⟩
    simp only [execOp, ho, hx', hy', Sem.run_bind, (run_eqGuard (a := .int k a) (b := .int k b) rfl), Result.andThen_ok, run_binR h hp, Sem.run_pure]
theorem ok_shl {t u : TypeId} {x y : Operand} {k k' : IntKind} {a b : Int} (ho : o.op = .binOp .shl t x y u) (hx : EvTo x st (.int k a)) (hy : EvTo y st (.int k' b)) (hb : 0 ≤ b) : OKs P o st (.int k (k.wrap (a * 2 ^ sh b k))) [] [] := fun st₂ hs _ _ =>
  eff_pure fun X ρ c w R => by
    have hx' : c.eval x = .int k a := ((hs x (by simp [ho, Op.operands]) _ hx).den R).self.symm
    have hy' : c.eval y = .int k' b := ((hs y (by simp [ho, Op.operands]) _ hy).den R).self.symm
    refine ⟨_, ?_, Den.plain rfl⟩
    have : ¬ b < 0 := by omega
    simp only [execOp, ho, hx', hy', Sem.run_bind, (run_eqGuard (a := .int k a) (b := .int k' b) rfl), Result.andThen_ok, binOp, Op.shift, this, if_false, Sem.run_pure, sh]
theorem ok_shr {t u : TypeId} {x y : Operand} {k k' : IntKind} {a b : Int} (ho : o.op = .binOp .shr t x y u) (hx : EvTo x st (.int k a)) (hy : EvTo y st (.int k' b)) (hb : 0 ≤ b) : OKs P o st (.int k (a.fdiv (2 ^ sh b k))) [] [] := fun st₂ hs _ _ =>
  eff_pure fun X ρ c w R => by
    have hx' : c.eval x = .int k a := ((hs x (by simp [ho, Op.operands]) _ hx).den R).self.symm
    have hy' : c.eval y = .int k' b := ((hs y (by simp [ho, Op.operands]) _ hy).den R).self.symm
    refine ⟨_, ?_, Den.plain rfl⟩
    have : ¬ b < 0 := by omega
    simp only [execOp, ho, hx', hy', Sem.run_bind, (run_eqGuard (a := .int k a) (b := .int k' b) rfl), Result.andThen_ok, binOp, Op.shift, this, if_false, Sem.run_pure, sh]
/-- An operation on values that hold no place: what the model makes of them. -/
theorem ok_plain2 {op : BinOp} {t u : TypeId} {x y : Operand} {a b v : Value} (ho : o.op = .binOp op t x y u) (hx : EvTo x st a) (hy : EvTo y st b) (ha : plain2 a = true) (hb : plain2 b = true)
    (h : ∀ w, (do eqGuard op t x y a b; binOp op t a b : Sem Value).run P w = .ok v w) (hv : plain2 v = true) : OKs P o st v [] [] := fun st₂ hs _ _ =>
  eff_pure fun X ρ c w R => by
    have hx' : c.eval x = a := (((hs x (by simp [ho, Op.operands]) _ hx).den R).self.symm.trans (den_plain ha ρ))
    have hy' : c.eval y = b := (((hs y (by simp [ho, Op.operands]) _ hy).den R).self.symm.trans (den_plain hb ρ))
    refine ⟨v, ?_, Den.plain hv⟩
    have := h w
    simp only [Sem.run_bind] at this
    simp only [execOp, ho, hx', hy', Sem.run_bind, this, Result.andThen_ok, Sem.run_pure]
theorem run_equal_bool {t : TypeId} {a b : Bool} (h1 : P.underlying t = some .bool) (w : World) : (Op.equal t (.bool a) (.bool b)).run P w = .ok (a == b) w := by
  obtain ⟨d, hd⟩ : ∃ d, Op.maxDepth = d + 1 := ⟨9999, rfl⟩
  unfold Op.equal
  rw [hd]
  unfold Op.equalIn
  simp only [underlying, Sem.run_bind, run_program, Result.andThen_ok, h1, Sem.run_pure]
theorem run_equal_nil {t e : TypeId} {b : Option Addr} (h1 : P.underlying t = some (.pointer e)) (w : World) : (Op.equal t (.pointer b) (.pointer none)).run P w = .ok b.isNone w := by
  obtain ⟨d, hd⟩ : ∃ d, Op.maxDepth = d + 1 := ⟨9999, rfl⟩
  unfold Op.equal
  rw [hd]
  unfold Op.equalIn
  cases b <;> simp only [underlying, Sem.run_bind, run_program, Result.andThen_ok, h1, Sem.run_pure, Option.isNone_none, Option.isNone_some]
theorem ok_boolEq {eq : Bool} {t u : TypeId} {x y : Operand} {a b : Bool} (ho : o.op = .binOp (if eq then .eql else .neq) t x y u) (hx : EvTo x st (.bool a)) (hy : EvTo y st (.bool b)) (h1 : P.underlying t = some .bool) : OKs P o st (.bool (if eq then a == b else a != b)) [] [] :=
  ok_plain2 ho hx hy rfl rfl (fun w => by
    have hg := fun op => run_eqGuard (P := P) (op := op) (t := t) (x := x) (y := y) (a := .bool a) (b := .bool b) rfl w
    cases eq <;> simp only [Sem.run_bind, hg, Result.andThen_ok, binOp, run_equal_bool h1, Sem.run_pure, if_true, if_false, Bool.false_eq_true, bne]) rfl
theorem ok_ptrNil {eq : Bool} {t e u : TypeId} {x y : Operand} {i f s : Nat} (ho : o.op = .binOp (if eq then .eql else .neq) t x y u) (hx : EvTo x st (.pointer (some ⟨i, f, some s⟩))) (hy : EvTo y st (.pointer none)) (h1 : P.underlying t = some (.pointer e)) : OKs P o st (.bool (!eq)) [] [] := fun st₂ hs _ _ =>
  eff_pure fun X ρ c w R => by
    have hx' : c.eval x = .pointer (some ⟨(ρ i).1, (ρ i).2 + f, none⟩) := ((hs x (by simp [ho, Op.operands]) _ hx).den R).self.symm
    have hy' : c.eval y = .pointer none := ((hs y (by simp [ho, Op.operands]) _ hy).den R).self.symm
    refine ⟨.bool (!eq), ?_, Den.plain rfl⟩
    cases eq <;> simp only [execOp, ho, hx', hy', Sem.run_bind, run_eqGuard (a := .pointer (some ⟨(ρ i).1, (ρ i).2 + f, none⟩)) (b := .pointer none) rfl, Result.andThen_ok, binOp, run_equal_nil h1, Sem.run_pure, if_true, if_false, Bool.false_eq_true, Bool.not_true, Bool.not_false, Option.isNone_some]
theorem ok_nilNil {eq : Bool} {t e u : TypeId} {x y : Operand} (ho : o.op = .binOp (if eq then .eql else .neq) t x y u) (hx : EvTo x st (.pointer none)) (hy : EvTo y st (.pointer none)) (h1 : P.underlying t = some (.pointer e)) : OKs P o st (.bool eq) [] [] :=
  ok_plain2 ho hx hy rfl rfl (fun w => by
    have hg := fun op => run_eqGuard (P := P) (op := op) (t := t) (x := x) (y := y) (a := .pointer none) (b := .pointer none) rfl w
    cases eq <;> simp only [Sem.run_bind, hg, Result.andThen_ok, binOp, run_equal_nil h1, Sem.run_pure, if_true, if_false, Bool.false_eq_true, Bool.not_true, Bool.not_false, Option.isNone_none]) rfl

theorem ok_un {op : UnOp} {t : TypeId} {x : Operand} {a v : Value} (ho : o.op = .unOp op t x) (hx : EvTo x st a) (ha : plain2 a = true) (h : ∀ w, (Op.unary op a).run P w = .ok v w) (hv : plain2 v = true) : OKs P o st v [] [] := fun st₂ hs _ _ =>
  eff_pure fun X ρ c w R => by
    have hx' : c.eval x = a := (((hs x (by simp [ho, Op.operands]) _ hx).den R).self.symm.trans (den_plain ha ρ))
    refine ⟨v, ?_, Den.plain hv⟩
    simp only [execOp, ho, hx', Sem.run_bind, h, Result.andThen_ok, Sem.run_pure]
theorem ok_conv {src dst : TypeId} {x : Operand} {a v : Value} (ho : o.op = .convert src dst x) (hx : EvTo x st a) (ha : plain2 a = true) (h : ∀ w, (convert src dst a).run P w = .ok v w) (hv : plain2 v = true) : OKs P o st v [] [] := fun st₂ hs _ _ =>
  eff_pure fun X ρ c w R => by
    have hx' : c.eval x = a := (((hs x (by simp [ho, Op.operands]) _ hx).den R).self.symm.trans (den_plain ha ρ))
    refine ⟨v, ?_, Den.plain hv⟩
    simp only [execOp, ho, hx', Sem.run_bind, h, Result.andThen_ok, Sem.run_pure]
theorem run_convInt {src dst : TypeId} {k k' : IntKind} {n : Int} {d : TypeDesc} (h1 : P.underlying src = some d) (h2 : P.underlying dst = some (.int k')) (w : World) : (convert src dst (.int k n)).run P w = .ok (.int k' (k'.wrap n)) w := by
  simp only [convert, underlying, Sem.run_bind, run_program, Result.andThen_ok, h1, h2, Sem.run_pure, Conv.intToInt]

/-! #### builtins -/
theorem ok_builtin {b : Builtin} {xs : Array Operand} {ts : Array TypeId} {vs : List Value} {v : Value} (ho : o.op = .call ⟨.builtin b, xs, ts⟩) (hx : All2 (fun x v => EvTo x st v) xs.toList vs) (hp : vs.all plain2 = true)
    (h : ∀ cs w, (builtin b ts o.type cs ⟨vs⟩).run P w = .ok (.value v) w) (hv : plain2 v = true) : OKs P o st v [] [] := fun st₂ hs _ _ =>
  eff_pure fun X ρ a w R => by
    have key : ∀ (zs : List Operand) (qs : List Value), All2 (fun x v => EvTo x st v) zs qs → (∀ x ∈ zs, x ∈ o.op.operands.toList) → qs.all plain2 = true → zs.map a.eval = qs := by
      intro zs
      induction zs with
      | nil => intro qs h _ _; cases qs with
        | nil => rfl
        | cons _ _ => exact h.elim
      | cons z zs ih =>
        intro qs h hm hq
        cases qs with
        | nil => exact h.elim
        | cons q qs =>
          simp only [List.all_cons, Bool.and_eq_true] at hq
          rw [List.map_cons, ih qs h.2 (fun x hx => hm x (by simp [hx])) hq.2]
          congr 1
          exact ((hs z (hm z (by simp)) _ h.1).den R).self.symm.trans (den_plain hq.1 ρ)
    have e : xs.map a.eval = ⟨vs⟩ := by
      apply Array.toList_inj.1
      rw [Array.toList_map]
      exact key _ _ hx (fun x hx => by simp [ho, Op.operands, Call.operands]; simpa using hx) hp
    refine ⟨v, ?_, Den.plain hv⟩
    simp only [execOp, ho, resolve, Sem.run_bind, Sem.run_pure, Result.andThen_ok, invoke, e, h]

/-! #### literals of structs and arrays -/
def putC : Nat → List Value → List Value → List Value
  | 0, cs, [] => cs
  | 0, _ :: cs, v :: vs => v :: putC 0 cs vs
  | k + 1, c :: cs, vs => c :: putC k cs vs
  | _, [], _ => []
def cellsL (v : Value) : List Value :=
  match v with
  | .agg cs => cs.toList
  | v => [v]
def fillL (place : Nat → Option (Nat × Nat)) : List Value → List (Nat × Value) → Option (List Value)
  | cells, [] => some cells
  | cells, (i, v) :: r =>
    match place i with
    | some (off, size) => match flatB v size && Nat.ble (off + size) cells.length with
      | true => fillL place (putC off cells (cellsL v)) r
      | false => none
    | none => none
theorem putC_length : ∀ (k : Nat) (cs vs : List Value), (putC k cs vs).length = cs.length
  | 0, cs, [] => by cases cs <;> rfl
  | 0, c :: cs, v :: vs => by simp [putC, putC_length 0 cs vs]
  | 0, [], _ :: _ => rfl
  | k + 1, c :: cs, vs => by simp [putC, putC_length k cs vs]
  | k + 1, [], vs => rfl
theorem putC_get : ∀ (k : Nat) (cs vs : List Value) (j : Nat), (putC k cs vs)[j]? = if k ≤ j ∧ j < k + vs.length ∧ j < cs.length then vs[j - k]? else cs[j]?
  | 0, cs, [], j => by simp [putC]
  | 0, [], v :: vs, j => by simp [putC]
  | 0, c :: cs, v :: vs, 0 => by simp [putC]
  | 0, c :: cs, v :: vs, j + 1 => by simp [putC, putC_get 0 cs vs j]
  | k + 1, [], vs, j => by simp [putC]
  | k + 1, c :: cs, vs, 0 => by simp [putC]
  | k + 1, c :: cs, vs, j + 1 => by
    simp only [putC, List.getElem?_cons_succ, putC_get k cs vs j, List.length_cons]
    have : (k + 1 ≤ j + 1 ∧ j + 1 < k + 1 + vs.length ∧ j + 1 < cs.length + 1) ↔ (k ≤ j ∧ j < k + vs.length ∧ j < cs.length) := by omega
    simp only [this, Nat.add_sub_add_right]
theorem foldl_put (off : Nat) : ∀ (vs : List Value) (k : Nat) (cells : Array Value),
    ((vs.zipIdx k).foldl (fun cs (c : Value × Nat) => cs.setIfInBounds (off + c.2) c.1) cells).toList = putC (off + k) cells.toList vs
  | [], k, cells => by
    apply List.ext_getElem?; intro j
    rw [putC_get]; simp
    intro h; omega
  | v :: vs, k, cells => by
    rw [List.zipIdx_cons, List.foldl_cons, foldl_put off vs (k + 1)]
    apply List.ext_getElem?; intro j
    rw [putC_get, putC_get]
    simp only [Array.toList_setIfInBounds, List.length_set, List.length_cons, List.getElem?_set]
    by_cases h : j = off + k
    · subst h
      by_cases h2 : off + k < cells.toList.length
      · rw [if_neg (by omega), if_pos rfl, if_pos h2, if_pos ⟨by omega, by omega, h2⟩]
        simp
      · rw [if_neg (by omega), if_pos rfl, if_neg h2, if_neg (by omega), List.getElem?_eq_none (by omega)]
    · by_cases h2 : off + k ≤ j ∧ j < off + k + (vs.length + 1) ∧ j < cells.toList.length
      · rw [if_pos ⟨by omega, by omega, h2.2.2⟩, if_pos h2]
        rw [show j - (off + k) = (j - (off + (k + 1))) + 1 from by omega]
        simp
      · rw [if_neg (by omega), if_neg (fun e => h e.symm), if_neg h2]
theorem fill_run {ρ : Nat → Nat × Nat} {place : Nat → Option (Nat × Nat)} : ∀ (ps : List (Nat × Value)) (cells : List Value) (out : List Value), fillL place cells ps = some out →
    Instr.fill place ⟨cells.map (den1 ρ)⟩ (ps.map fun p => (p.1, den ρ p.2)) = some ⟨out.map (den1 ρ)⟩
  | [], cells, out, h => by simp only [fillL, Option.some.injEq] at h; subst h; rfl
  | (i, v) :: r, cells, out, h => by
    simp only [fillL] at h
    cases hp : place i with
    | none => rw [hp] at h; cases h
    | some os =>
      obtain ⟨off, size⟩ := os
      rw [hp] at h
      simp only at h
      cases hb : flatB v size && Nat.ble (off + size) cells.length with
      | false => rw [hb] at h; cases h
      | true =>
        rw [hb] at h
        simp only [Bool.and_eq_true] at hb
        obtain ⟨hf, hle⟩ := hb
        have hle := Nat.le_of_ble_eq_true hle
        have hsz := flat_size hf ρ
        have hcl : (den ρ v).cells.toList = (cellsL v).map (den1 ρ) := by
          rw [flat_cells hf]
          apply List.ext_getElem?
          intro j
          cases v with
          | agg cs =>
            simp only [flatB, Bool.and_eq_true] at hf
            have hn := Nat.eq_of_beq_eq_true hf.1
            subst hn
            simp only [cellsL, cellIn]
            by_cases hj : j < cs.toList.length
            · simp only [List.getElem?_map, List.getElem?_range hj, Option.map_some, List.getElem?_eq_getElem hj, List.getD_eq_getElem?_getD, Option.getD_some]
            · rw [List.getElem?_eq_none (by simpa using hj), List.getElem?_eq_none (by simpa using hj)]
          | tuple vs => simp [flatB] at hf
          | _ =>
            have := Nat.eq_of_beq_eq_true hf
            subst this
            rfl
        rw [List.map_cons]
        simp only [Instr.fill, hp, hsz]
        rw [if_neg (by simp; omega)]
        have e : (((den ρ v).cells.zipIdx.foldl (fun cs (x : Value × Nat) => cs.setIfInBounds (off + x.2) x.1) (⟨cells.map (den1 ρ)⟩ : Array Value))) = ⟨(putC off cells (cellsL v)).map (den1 ρ)⟩ := by
          apply Array.toList_inj.1
          rw [← Array.foldl_toList, Array.toList_zipIdx, hcl]
          rw [foldl_put off _ 0]
          apply List.ext_getElem?; intro j
          simp only [List.getElem?_map, putC_get, List.length_map, Nat.add_zero]
          split <;> simp
        have := fill_run (ρ := ρ) r _ _ h
        rw [← this]
        congr 1

def placesK (G : Tys) : List Field → (List (Nat × Nat) → Prop) → Prop
  | [], K => K []
  | f :: r, K => lookT G f.type fun i _ => placesK G r fun l => K ((f.offset, i.size) :: l)
def Places (P : Program) : List Field → List (Nat × Nat) → Prop
  | [], l => l = []
  | f :: r, l => ∃ i l', P.info? f.type = some i ∧ l = (f.offset, i.size) :: l' ∧ Places P r l'
theorem placesK_out (hG : TysOK P G) : ∀ {fs : List Field} {K : List (Nat × Nat) → Prop}, placesK G fs K → ∃ l, Places P fs l ∧ K l
  | [], K, h => ⟨[], rfl, h⟩
  | f :: r, K, h => by
    obtain ⟨i, d, h1, h2, h⟩ := lookT_out hG h
    obtain ⟨l, hl, hk⟩ := placesK_out hG h
    exact ⟨_, ⟨i, l, h1, rfl, hl⟩, hk⟩
theorem run_places (w : World) : ∀ {fs : List Field} {l : List (Nat × Nat)}, Places P fs l → (fs.mapM fun f => do pure (f.offset, ← sizeOf f.type) : Sem (List (Nat × Nat))).run P w = .ok l w
  | [], l, h => by subst h; rfl
  | f :: r, l, h => by
    obtain ⟨i, l', h1, rfl, h2⟩ := h
    rw [List.mapM_cons]
    simp only [Sem.run_bind, run_sizeOf h1, Result.andThen_ok, Sem.run_pure, run_places w h2]
theorem den1_cells {z : Value} (hp : plain2 z = true) (ρ : Nat → Nat × Nat) : (cellsL z).map (den1 ρ) = z.cells.toList := by
  cases z with
  | agg cs =>
    simp only [plain2, List.all_eq_true] at hp
    exact (List.map_congr_left fun x hx => den1_plain (hp x hx) ρ).trans (List.map_id _)
  | tuple vs => simp [plain2, plain1] at hp
  | _ => simp only [cellsL, Value.cells, List.map_cons, List.map_nil]; rw [den1_plain (by simpa [plain2] using hp) ρ]

/-- The operands of a literal, read. -/
def PartsTo (st : St) : List (Nat × Operand) → List (Nat × Value) → Prop
  | [], vs => vs = []
  | p :: r, vs => ∃ v s, vs = (p.1, v) :: s ∧ EvTo p.2 st v ∧ PartsTo st r s
theorem parts_a1 (a : Act) (ρ : Nat → Nat × Nat) (r : List (Nat × Operand)) (s : List (Nat × Value)) (p : Nat × Operand) (v : Value) (h1 : r.map (fun p => (p.1, a.eval p.2)) = s.map (fun p => (p.1, den ρ p.2))) (hds : den ρ v = a.eval p.2) :
   (p :: r).map (fun p => (p.1, a.eval p.2)) = ((p.1, v) :: s).map (fun p => (p.1, den ρ p.2)) := by
  simp only [List.map_cons, h1, hds]
theorem parts_a2 {st st₂ : St} (p : Nat × Operand) (r : List (Nat × Operand)) (vs : List (Nat × Value)) (h : PartsTo st (p :: r) vs) (hm : ∀ q ∈ p :: r, ∀ u, EvTo q.2 st u → EvTo q.2 st₂ u) : ∃ v s, vs = (p.1, v) :: s ∧ EvTo p.2 st₂ v ∧ PartsTo st r s := by
  obtain ⟨v, s, e, hx, h⟩ := h
  exact ⟨v, s, e, hm p (List.mem_cons_self ..) v hx, h⟩
theorem parts_a4 {ρ q : Nat → Nat × Nat} {s : List (Nat × Value)} {i : Nat} {v : Value} (h3 : s.map (fun p => (p.1, den q p.2)) = s.map (fun p => (p.1, den ρ p.2))) (h4 : den q v = den ρ v) :
    ((i, v) :: s).map (fun p => (p.1, den q p.2)) = ((i, v) :: s).map (fun p => (p.1, den ρ p.2)) := by
  rw [List.map_cons, List.map_cons, h3]
  show (i, den q v) :: _ = _
  rw [h4]
theorem parts_den {X : Ctx} {ρ : Nat → Nat × Nat} {st st₂ : St} {a : Act} {w : World} (R : Rel X ρ st₂ a w) : ∀ (ps : List (Nat × Operand)) (vs : List (Nat × Value)), PartsTo st ps vs → (∀ p ∈ ps, ∀ u, EvTo p.2 st u → EvTo p.2 st₂ u) →
    ps.map (fun p => (p.1, a.eval p.2)) = vs.map (fun p => (p.1, den ρ p.2)) ∧ ∀ r, AgreeOn (Fil st₂.h) ρ r → vs.map (fun p => (p.1, den r p.2)) = vs.map (fun p => (p.1, den ρ p.2))
  | [], vs, h, _ => by
    have e : vs = [] := h
    subst e
    exact ⟨by rw [List.map_nil, List.map_nil], fun _ _ => by rw [List.map_nil, List.map_nil]⟩
  | p :: r, vs, h, hm => by
    obtain ⟨v, s, e, hx, hr⟩ := parts_a2 p r vs h hm
    subst e
    have ih := parts_den R r s hr (fun p hp => hm p (List.mem_cons_of_mem _ hp))
    have hd := EvTo.den hx R
    exact ⟨parts_a1 a ρ r s p v ih.1 hd.self, fun q hq => parts_a4 (ih.2 q hq) ((hd q hq).trans hd.self.symm)⟩

theorem build_den {ρ r : Nat → Nat × Nat} {place : Nat → Option (Nat × Nat)} {z : Value} {vs : List (Nat × Value)} {out : List Value} (hp : plain2 z = true) (hout : fillL place (cellsL z) vs = some out)
    (he : vs.map (fun p => (p.1, den r p.2)) = vs.map (fun p => (p.1, den ρ p.2))) : den r (.agg ⟨out⟩) = den ρ (.agg ⟨out⟩) := by
  have h1 := fill_run (ρ := r) vs _ _ hout
  have h2 := fill_run (ρ := ρ) vs _ _ hout
  rw [he, den1_cells hp] at h1
  rw [den1_cells hp, h1] at h2
  simp only [Option.some.injEq, Array.mk.injEq] at h2
  simp only [den, den2, Value.agg.injEq]
  apply Array.toList_inj.1
  simpa using h2

theorem ok_build {t : TypeId} {ps : Array (Nat × Operand)} {vs : List (Nat × Value)} {fs : Array Field} {pl : List (Nat × Nat)} {ti : TypeInfo} {z : Value} {out : List Value} (ho : o.op = .build t ps) (hx : PartsTo st ps.toList vs) (h1 : P.info? t = some ti) (hz : ti.zero = some z) (hp : plain2 z = true)
    (h2 : P.underlying t = some (.struct fs)) (h3 : Places P fs.toList pl) (hout : fillL (fun (i : Nat) => pl[i]?) (cellsL z) vs = some out) : OKs P o st (.agg ⟨out⟩) [] [] := fun st₂ hs _ _ =>
  eff_pure fun X ρ a w R => by
    obtain ⟨e1, e2⟩ := parts_den R _ _ hx (fun p hp => hs p.2 (by simp only [ho, Op.operands]; exact List.mem_map.2 ⟨p, hp, rfl⟩))
    have hzv : (zeroValue t).run P w = .ok z w := by simp [zeroValue, typeInfo, Sem.run_bind, run_program, Result.andThen_ok, h1, hz]
    refine ⟨den ρ (.agg ⟨out⟩), ?_, fun r hr => build_den hp hout (e2 r hr)⟩
    have hr := fill_run (ρ := ρ) vs _ _ hout
    rw [den1_cells hp, ← e1] at hr
    have hpl := run_places (P := P) w h3
    have hmm : (fs.mapM fun f => do pure (f.offset, ← sizeOf f.type) : Sem (Array (Nat × Nat))).run P w = .ok ⟨pl⟩ w := by
      rw [Array.mapM_eq_mapM_toList]
      simp only [Sem.run_map, hpl, Result.andThen_ok, List.toArray]
    have hpe : (fun (x : Nat) => (⟨pl⟩ : Array (Nat × Nat))[x]?) = (fun (i : Nat) => pl[i]?) := by funext x; simp
    have hf : Instr.fill (fun (x : Nat) => (⟨pl⟩ : Array (Nat × Nat))[x]?) z.cells ((ps.map fun (p : Nat × Operand) => (p.1, a.eval p.2)).toList) = some ⟨out.map (den1 ρ)⟩ := by
      rw [Array.toList_map, hpe]
      exact hr
    simp only [execOp, ho, Instr.build, underlying, Sem.run_bind, hzv, run_program, Result.andThen_ok, h2, Sem.run_pure, hmm, hf]
    simp [den, den2]
theorem ok_buildA {t e : TypeId} {n : Nat} {ps : Array (Nat × Operand)} {vs : List (Nat × Value)} {ti ei : TypeInfo} {z : Value} {out : List Value} (ho : o.op = .build t ps) (hx : PartsTo st ps.toList vs) (h1 : P.info? t = some ti) (hz : ti.zero = some z) (hp : plain2 z = true)
    (h2 : P.underlying t = some (.array n e)) (h3 : P.info? e = some ei) (hout : fillL (fun i => some (i * ei.size, ei.size)) (cellsL z) vs = some out) : OKs P o st (.agg ⟨out⟩) [] [] := fun st₂ hs _ _ =>
  eff_pure fun X ρ a w R => by
    obtain ⟨e1, e2⟩ := parts_den R _ _ hx (fun p hp => hs p.2 (by simp only [ho, Op.operands]; exact List.mem_map.2 ⟨p, hp, rfl⟩))
    have hzv : (zeroValue t).run P w = .ok z w := by simp [zeroValue, typeInfo, Sem.run_bind, run_program, Result.andThen_ok, h1, hz]
    refine ⟨den ρ (.agg ⟨out⟩), ?_, fun r hr => build_den hp hout (e2 r hr)⟩
    have hr := fill_run (ρ := ρ) vs _ _ hout
    rw [den1_cells hp, ← e1] at hr
    have hf : Instr.fill (fun i => some (i * ei.size, ei.size)) z.cells ((ps.map fun (p : Nat × Operand) => (p.1, a.eval p.2)).toList) = some ⟨out.map (den1 ρ)⟩ := by
      rw [Array.toList_map]
      exact hr
    simp only [execOp, ho, Instr.build, underlying, Sem.run_bind, hzv, run_program, Result.andThen_ok, h2, Sem.run_pure, run_sizeOf h3, hf]
    simp [den, den2]
/-! #### elements, slices -/
theorem ok_elemA {t e : TypeId} {x y : Operand} {n i f s s' : Nat} {a : Int} {k : IntKind} {ei : TypeInfo} (ho : o.op = .indexAddr t x y) (hx : EvTo x st (.pointer (some ⟨i, f, some s⟩))) (hy : EvTo y st (.int k a)) (h1 : P.underlying t = some (.array n e)) (h2 : P.info? e = some ei) (h0 : 0 ≤ a) (hn : a < n) :
    OKs P o st (.pointer (some ⟨i, f + a.toNat * ei.size, some s'⟩)) [] [] := fun st₂ hs _ _ =>
  eff_pure fun X ρ c w R => by
    obtain ⟨hx', hd⟩ := Den.shift (X := X) (g := a.toNat * ei.size) ((hs x (by simp [ho, Op.operands]) _ hx).den R) s'
    have hy' : c.eval y = .int k a := ((hs y (by simp [ho, Op.operands]) _ hy).den R).self.symm
    refine ⟨_, ?_, hd⟩
    simp only [execOp, ho, hx', hy', Instr.indexAt, asIntOf, Instr.sureAddr, underlying, Sem.run_bind, run_program, Result.andThen_ok, h1, Sem.run_pure, h0, hn, and_self, if_true, run_sizeOf h2, add_at, Nat.add_assoc]
theorem Den.shiftS {ρ : Nat → Nat × Nat} {h : List (Option Chunk)} {i f g s l c : Nat} {x : Value} (hd : Den (Fil h) ρ (.slice (some ⟨i, f, some s⟩) l c) x) (s' : Nat) :
    x = .slice (some ⟨(ρ i).1, (ρ i).2 + f, none⟩) l c ∧ Den (Fil h) ρ (.pointer (some ⟨i, f + g, some s'⟩)) (.pointer (some ⟨(ρ i).1, (ρ i).2 + (f + g), none⟩)) ∧
      ∀ l' c', Den (Fil h) ρ (.slice (some ⟨i, f + g, some s'⟩) l' c') (.slice (some ⟨(ρ i).1, (ρ i).2 + (f + g), none⟩) l' c') := by
  have key : ∀ r, AgreeOn (Fil h) ρ r → (r i).1 = (ρ i).1 ∧ (r i).2 = (ρ i).2 := fun r hr => by
    have h1 : (.slice (some ⟨(r i).1, (r i).2 + f, none⟩) l c : Value) = x := hd r hr
    rw [← hd.self] at h1
    have h2 : ((r i).1 = (ρ i).1 ∧ (r i).2 + f = (ρ i).2 + f) := by simpa [den, den2, den1, den0, denA] using h1
    exact ⟨h2.1, by omega⟩
  refine ⟨hd.self.symm, fun r hr => ?_, fun l' c' r hr => ?_⟩ <;> obtain ⟨e1, e2⟩ := key r hr <;> simp [den, den2, den1, den0, denA, e1, e2]
theorem ok_elemS {t e : TypeId} {x y : Operand} {i f s s' l c : Nat} {a : Int} {k : IntKind} {ei : TypeInfo} (ho : o.op = .indexAddr t x y) (hx : EvTo x st (.slice (some ⟨i, f, some s⟩) l c)) (hy : EvTo y st (.int k a)) (h1 : P.underlying t = some (.slice e)) (h2 : P.info? e = some ei) (h0 : 0 ≤ a) (hn : a < l) :
    OKs P o st (.pointer (some ⟨i, f + a.toNat * ei.size, some s'⟩)) [] [] := fun st₂ hs _ _ =>
  eff_pure fun X ρ c w R => by
    obtain ⟨hx', hd, _⟩ := Den.shiftS (g := a.toNat * ei.size) ((hs x (by simp [ho, Op.operands]) _ hx).den R) s'
    have hy' : c.eval y = .int k a := ((hs y (by simp [ho, Op.operands]) _ hy).den R).self.symm
    refine ⟨_, ?_, hd⟩
    simp only [execOp, ho, hx', hy', Instr.indexAt, asIntOf, underlying, Sem.run_bind, run_program, Result.andThen_ok, h1, Sem.run_pure, h0, hn, and_self, if_true, run_sizeOf h2, add_at, Nat.add_assoc]

/-- The bounds of a slice expression. -/
def Bnd (v : Option Value) (dflt most r : Nat) : Prop :=
  match v with
  | none => r = dflt
  | some (.int _ i) => i = r ∧ r ≤ most
  | _ => False
theorem run_bound {v : Value} {d n r : Nat} {code : BoundsCode} (h : Bnd (some v) d n r) (w : World) : (Instr.sliceBound v n code).run P w = .ok r w := by
  cases v with
  | int k i =>
    obtain ⟨rfl, hr⟩ := h
    have : (0 : Int) ≤ (r : Int) ∧ (r : Int) ≤ (n : Int) := by omega
    simp only [Instr.sliceBound, asIntOf, Sem.run_bind, Sem.run_pure, Result.andThen_ok, this, and_self, if_true, Int.toNat_natCast]
  | _ => exact h.elim
theorem run_bounds {b : Bool} {len cap l h : Nat} {lo hi : Option Value} (h1 : Bnd hi len cap h) (h2 : Bnd lo 0 h l) (w : World) : (Instr.sliceBounds b len cap lo hi none).run P w = .ok (l, h, cap) w := by
  cases hi with
  | none =>
    obtain rfl : h = len := h1
    cases lo with
    | none => obtain rfl : l = 0 := h2; simp [Instr.sliceBounds, Sem.run_bind]
    | some v => simp [Instr.sliceBounds, Sem.run_bind, run_bound h2]
  | some u =>
    cases lo with
    | none => obtain rfl : l = 0 := h2; simp [Instr.sliceBounds, Sem.run_bind, run_bound h1]
    | some v => simp [Instr.sliceBounds, Sem.run_bind, run_bound h1, run_bound h2]
def OptTo (st : St) : Option Operand → Option Value → Prop
  | none, v => v = none
  | some x, v => ∃ k i, v = some (.int k i) ∧ EvTo x st (.int k i)
theorem opt_den {X : Ctx} {ρ : Nat → Nat × Nat} {st st₂ : St} {a : Act} {w : World} {x : Option Operand} {v : Option Value} (R : Rel X ρ st₂ a w) (h : OptTo st x v) (hm : ∀ y ∈ x, ∀ u, EvTo y st u → EvTo y st₂ u) : x.map a.eval = v := by
  cases x with
  | none => obtain rfl : v = none := h; rfl
  | some y =>
    obtain ⟨k, i, rfl, hy⟩ := h
    have := ((hm y rfl _ hy).den R).self
    rw [Option.map_some, ← this]; rfl
theorem ok_sliceS {t e : TypeId} {x : Operand} {lo hi : Option Operand} {vl vh : Option Value} {i f s s' l c p q : Nat} {ei : TypeInfo} (ho : o.op = .slice t x lo hi none) (hx : EvTo x st (.slice (some ⟨i, f, some s⟩) l c)) (hl : OptTo st lo vl) (hh : OptTo st hi vh) (h1 : P.underlying t = some (.slice e)) (h2 : P.info? e = some ei)
    (hq : Bnd vh l c q) (hp : Bnd vl 0 q p) : OKs P o st (.slice (some ⟨i, f + (if c = p then 0 else p * ei.size), some s'⟩) (q - p) (c - p)) [] [] := fun st₂ hs _ _ =>
  eff_pure fun X ρ a w R => by
    obtain ⟨hx', _, hd⟩ := Den.shiftS (g := if c = p then 0 else p * ei.size) ((hs x (by simp [ho, Op.operands]) _ hx).den R) s'
    have e1 := opt_den R hl (fun y hy => hs y (by cases hy; simp [ho, Op.operands]))
    have e2 := opt_den R hh (fun y hy => hs y (by cases hy; simp [ho, Op.operands]))
    refine ⟨_, ?_, hd _ _⟩
    simp only [execOp, ho, hx', e1, e2, Instr.sliceAt, Instr.slice, underlying, Sem.run_bind, run_program, Result.andThen_ok, h1, Sem.run_pure, Option.map_none, run_bounds hq hp, run_sizeOf h2, Option.map_some, add_at, Nat.add_assoc]
    by_cases hc : c = p <;> simp [hc]
theorem ok_sliceA {t e : TypeId} {x : Operand} {lo hi : Option Operand} {vl vh : Option Value} {i f s s' n p q : Nat} {ei : TypeInfo} (ho : o.op = .slice t x lo hi none) (hx : EvTo x st (.pointer (some ⟨i, f, some s⟩))) (hl : OptTo st lo vl) (hh : OptTo st hi vh) (h1 : P.underlying t = some (.array n e)) (h2 : P.info? e = some ei)
    (hq : Bnd vh n n q) (hp : Bnd vl 0 q p) : OKs P o st (.slice (some ⟨i, f + (if n = p then 0 else p * ei.size), some s'⟩) (q - p) (n - p)) [] [] := fun st₂ hs _ _ =>
  eff_pure fun X ρ a w R => by
    have hd0 := (hs x (by simp [ho, Op.operands]) _ hx).den R
    have hx' : a.eval x = .pointer (some ⟨(ρ i).1, (ρ i).2 + f, none⟩) := hd0.self.symm
    have key : ∀ r, AgreeOn (Fil st₂.h) ρ r → (r i).1 = (ρ i).1 ∧ (r i).2 = (ρ i).2 := fun r hr => by
      have h1 : (.pointer (some ⟨(r i).1, (r i).2 + f, none⟩) : Value) = a.eval x := hd0 r hr
      rw [hx'] at h1
      have h2 : ((r i).1 = (ρ i).1 ∧ (r i).2 + f = (ρ i).2 + f) := by simpa using h1
      exact ⟨h2.1, by omega⟩
    have e1 := opt_den R hl (fun y hy => hs y (by cases hy; simp [ho, Op.operands]))
    have e2 := opt_den R hh (fun y hy => hs y (by cases hy; simp [ho, Op.operands]))
    refine ⟨.slice (some ⟨(ρ i).1, (ρ i).2 + (f + (if n = p then 0 else p * ei.size)), none⟩) (q - p) (n - p), ?_, fun r hr => by obtain ⟨e1, e2⟩ := key r hr; simp [den, den2, den1, den0, denA, e1, e2]⟩
    simp only [execOp, ho, hx', e1, e2, Instr.sliceAt, Instr.sureAddr, underlying, Sem.run_bind, run_program, Result.andThen_ok, h1, Sem.run_pure, Option.map_none, run_bounds hq hp, run_sizeOf h2, add_at, Nat.add_assoc]
    by_cases hc : n = p <;> simp [hc]
theorem ok_sliceStr {t : TypeId} {x : Operand} {lo hi : Option Operand} {vl vh : Option Value} {s : ByteArray} {p q : Nat} (ho : o.op = .slice t x lo hi none) (hx : EvTo x st (.string s)) (hl : OptTo st lo vl) (hh : OptTo st hi vh) (h1 : P.underlying t = some .string)
    (hq : Bnd vh s.size s.size q) (hp : Bnd vl 0 q p) : OKs P o st (.string (s.extract p q)) [] [] := fun st₂ hs _ _ =>
  eff_pure fun X ρ a w R => by
    have hx' : a.eval x = .string s := ((hs x (by simp [ho, Op.operands]) _ hx).den R).self.symm
    have e1 := opt_den R hl (fun y hy => hs y (by cases hy; simp [ho, Op.operands]))
    have e2 := opt_den R hh (fun y hy => hs y (by cases hy; simp [ho, Op.operands]))
    refine ⟨_, ?_, Den.plain rfl⟩
    simp [execOp, ho, hx', e1, e2, Instr.sliceAt, Instr.slice, underlying, Sem.run_bind, run_program, h1, run_bounds hq hp]
theorem ok_lenS {x : Operand} {t e : TypeId} {a : Option Addr} {l c : Nat} (ho : o.op = .call ⟨.builtin .len, #[x], #[t]⟩) (hx : EvTo x st (.slice a l c)) (h1 : P.underlying t = some (.slice e)) : OKs P o st (.int .i64 l) [] [] := fun st₂ hs _ _ =>
  eff_pure fun X ρ c w R => by
    have hd := ((hs x (by simp [ho, Op.operands, Call.operands]) _ hx).den R).self
    refine ⟨.int .i64 l, ?_, Den.plain rfl⟩
    cases a <;> (simp only [den, den2, den1, den0] at hd; simp [execOp, ho, resolve, invoke, builtin, Builtin.len_, underlying, Sem.run_bind, run_program, h1, ← hd, goInt])

theorem ok_copy {x y : Operand} {tx ty e : TypeId} {ei : TypeInfo} {i f s l c j g u m q n : Nat} {ci cj d : Chunk} {v : Value} (ho : o.op = .call ⟨.builtin .copy, #[x, y], #[tx, ty]⟩) (hx : EvTo x st (.slice (some ⟨i, f, some s⟩) l c)) (hy : EvTo y st (.slice (some ⟨j, g, some u⟩) m q))
    (h1 : P.underlying tx = some (.slice e)) (h2 : P.info? e = some ei) (hi : st.h[i]? = some (some ci)) (hj : st.h[j]? = some (some cj)) (hn : n = Nat.min m l) (hr : Reads cj g true (n * ei.size) v) (hf : flatB v (n * ei.size) = true) (hw : Writes ci f (n * ei.size) v d) :
    OKs P o st (.int .i64 n) [(i, d)] [j] := fun st₂ hs hh hm =>
  eff_value fun X ρ a w R => by
    have hi2 : st₂.h[i]? = some (some ci) := (hm _ (List.mem_singleton.2 rfl)).trans hi
    have hj2 : st₂.h[j]? = some (some cj) := (hh j (by simp)).trans hj
    have hx' : a.eval x = .slice (some ⟨(ρ i).1, (ρ i).2 + f, none⟩) l c := ((hs x (by simp [ho, Op.operands, Call.operands]) _ hx).den R).self.symm
    have hy' : a.eval y = .slice (some ⟨(ρ j).1, (ρ j).2 + g, none⟩) m q := ((hs y (by simp [ho, Op.operands, Call.operands]) _ hy).den R).self.symm
    obtain ⟨hl, cs, rfl, hcn, hcf⟩ := hr
    have hcell : ∀ k, (hk : k < cs.toList.length) → ∃ z, w.cell? ⟨(ρ j).1, (ρ j).2 + (g + k), none⟩ = some z ∧ Den1 (Fil st₂.h) ρ cs.toList[k] z := fun k hk => by
      obtain ⟨z, hz, hzd⟩ := R.heap.cell j cj hj2 (g + k) (by omega)
      have e := hcf k (by omega)
      rw [List.getD_eq_getElem?_getD, List.getElem?_eq_getElem hk] at e
      simp only [Option.getD_some] at e
      rw [e] at hzd
      exact ⟨z, hz, hzd⟩
    have hcells : ∀ k z, (cs.toList.map (den1 ρ))[k]? = some z → w.cell? ((⟨(ρ j).1, (ρ j).2 + g, none⟩ : Addr).add k) = some z := fun k z hz => by
      have hk : k < cs.toList.length := by have := (List.getElem?_eq_some_iff.1 hz).1; simpa using this
      rw [List.getElem?_map, List.getElem?_eq_getElem hk] at hz
      obtain ⟨y, hy, hyd⟩ := hcell k hk
      rw [add_at, Nat.add_assoc, hy, ← hyd.self]
      exact hz
    have hden : Den (Fil st₂.h) ρ (.agg cs) (.agg (cs.map (den1 ρ))) := fun r hr => by
      simp only [den, den2, Value.agg.injEq]
      apply Array.toList_inj.1
      rw [Array.toList_map, Array.toList_map]
      apply List.map_congr_left
      intro z hz
      obtain ⟨k, hk, he⟩ := List.getElem_of_mem hz
      obtain ⟨y, hy, hyd⟩ := hcell k hk
      rw [he] at hyd
      rw [hyd r hr, hyd.self]
    obtain ⟨hown, hle, hdn, hdf⟩ := hw
    have H0 : HOK X ρ (st₂.h.set i (some (chunkOf ci.n (fun k => if f ≤ k ∧ k < f + 0 then cellIn (.agg cs) (k - f) else ci.f k)))) w := by
      refine R.heap.say hi2 (fun _ => hown) (Nat.le_refl _) fun k hk => ?_
      have hk' : k < ci.n := hk
      rw [chunkOf_f hk', if_neg (by omega)]
    obtain ⟨w', hr, H1⟩ := store_cells (P := P) hi2 hown hle hden hf (n * ei.size) 0 (by omega) w H0
    have hil := (List.getElem?_eq_some_iff.1 hi2).1
    have H2 := H1.say (i := i) (d := d) (by rw [List.getElem?_set_self hil]) (fun _ => rfl) (by rw [hdn]; exact Nat.le_refl _) fun k hk => by
      rw [hdn] at hk
      rw [chunkOf_f hk, hdf k hk]
    rw [List.set_set] at H2
    refine ⟨ρ, .int .i64 n, w', ?_, AgreeOn.refl _ _, H2, Den.plain rfl⟩
    have hlc : (loadCells ⟨(ρ j).1, (ρ j).2 + g, none⟩ (n * ei.size)).run P w = .ok (cs.map (den1 ρ)) w := by
      have : n * ei.size = (cs.toList.map (den1 ρ)).length := by rw [List.length_map, hcn]
      rw [this, run_loadCells_list _ _ _ hcells]
      congr 1
      apply Array.toList_inj.1
      simp
    have hcs : (cs.map (den1 ρ)).toList = (List.range' 0 (n * ei.size)).map (fun k => den1 ρ (cellIn (.agg cs) k)) := by
      have := flat_cells hf ρ
      rw [List.range_eq_range'] at this
      simpa [den, den2, Value.cells] using this
    have hm2 : Nat.min m l = n := hn.symm
    simp only [execOp, ho, resolve, Sem.run_bind, Sem.run_pure, Result.andThen_ok, invoke, builtin, Builtin.copy_, List.map_toArray, List.map_cons, List.map_nil, hx', hy', underlying, run_program, h1, run_sizeOf h2, Builtin.lenOf, Builtin.firstCells, List.getElem?_toArray, List.getElem?_cons_zero, List.getElem?_cons_succ, hm2, hlc, hcs, hr, goInt]
end

end Go.Proofs.Ytfpmmahonddpoaa.Sx
