
/-
  Arrays of sixteen digits in memory: a row of cells, what it reads as, what a store makes of it.
-/
import Derived.Test.YtbepibdjlajppaaDoorRows
import Derived.Test.YtbepibdjlajppaaDoorBase
import Derived.Test.YtbepibdjlajppaaDoorDig
import Derived.Laws.Rows
import Derived.StillTailTactics
import Derived.Laws.CopyOwn
set_option linter.unusedVariables false
set_option linter.unusedSimpArgs false
namespace Go.Proofs.YtbepibdjlajppaaDoor
open Go.RowKit

/-- The cells of an array of digits. -/
def lim (n : Nat) (f : Nat → Nat) : Array Value := ((List.range n).map fun j => Value.int .u64 ((f j : Nat) : Int)).toArray
@[simp] theorem lim_size (n : Nat) (f : Nat → Nat) : (lim n f).size = n := by simp [lim]
theorem lim_get (n : Nat) (f : Nat → Nat) (j : Nat) (h : j < n) : (lim n f)[j]? = some (.int .u64 ((f j : Nat) : Int)) := by
  simp [lim, h]
theorem lim_one (n : Nat) (f : Nat → Nat) : (lim n f).all (·.oneCell') = true := by
  rw [Array.all_eq_true_iff_forall_mem]
  intro x hx
  simp only [lim, List.mem_toArray, List.mem_map] at hx
  obtain ⟨j, _, rfl⟩ := hx
  rfl
theorem lim_set (n : Nat) (f g : Nat → Nat) (i : Nat) (v : Int) (hi : i < n) (hv : v = ((g i : Nat) : Int)) (h : ∀ j, j < n → j ≠ i → f j = g j) : (lim n f).setIfInBounds i (.int .u64 v) = lim n g := by
  apply Array.ext_getElem?
  intro j
  rw [Array.getElem?_setIfInBounds]
  by_cases hj : j < n
  · rw [lim_get n g j hj]
    split
    · rename_i e; subst e; rw [if_pos (by simpa using hj), hv]
    · rename_i e; rw [lim_get n f j hj, h j hj (Ne.symm e)]
  · rw [Array.getElem?_eq_none (by simp; omega), Array.getElem?_eq_none (by simp; omega), if_neg (by omega)]
theorem lim_same (n : Nat) (f g : Nat → Nat) (h : ∀ j, j < n → f j = g j) : lim n f = lim n g := by
  unfold lim
  congr 1
  apply List.map_congr_left
  intro j hj
  rw [h j (by simpa using hj)]

/-- A number of sixteen digits as its cells. -/
def sz (v : Nat) : Array Value := lim 16 (dg v)
@[simp] theorem sz_size (v : Nat) : (sz v).size = 16 := lim_size _ _
theorem sz_get (v j : Nat) (h : j < 16) : (sz v)[j]? = some (.int .u64 ((dg v j : Nat) : Int)) := lim_get _ _ _ h
theorem sz_one (v : Nat) : (sz v).all (·.oneCell') = true := lim_one _ _
theorem sz_zero : sz 0 = #[.int .u64 0, .int .u64 0, .int .u64 0, .int .u64 0, .int .u64 0, .int .u64 0, .int .u64 0, .int .u64 0, .int .u64 0, .int .u64 0, .int .u64 0, .int .u64 0, .int .u64 0, .int .u64 0, .int .u64 0, .int .u64 0] := by
  unfold sz
  rw [lim_same 16 (dg 0) (fun _ => 0) (fun j _ => dg_zero j)]
  rfl
theorem dg_small (v : Nat) (h : v < 18446744073709551616) (j : Nat) : dg v j = if j = 0 then v else 0 := by
  split
  · subst j; simp [dg]; exact h
  · apply dg_big
    exact Nat.lt_of_lt_of_le h (Nat.le_self_pow (by omega) Bs)
theorem sz_small (v : Nat) (h : v < 18446744073709551616) : sz v = #[.int .u64 v, .int .u64 0, .int .u64 0, .int .u64 0, .int .u64 0, .int .u64 0, .int .u64 0, .int .u64 0, .int .u64 0, .int .u64 0, .int .u64 0, .int .u64 0, .int .u64 0, .int .u64 0, .int .u64 0, .int .u64 0] := by
  unfold sz
  rw [lim_same 16 (dg v) (fun j => if j = 0 then v else 0) (fun j _ => dg_small v h j)]
  rfl

/-- A number with its sign, or over, as its cells. -/
def wi (neg over : Bool) (v : Nat) : Array Value := #[.bool neg, .bool over] ++ sz v
@[simp] theorem wi_size (neg over : Bool) (v : Nat) : (wi neg over v).size = 18 := by simp [wi]
theorem wi_neg (neg over : Bool) (v : Nat) : (wi neg over v)[0]? = some (.bool neg) := by simp [wi, Array.getElem?_append]
theorem wi_over (neg over : Bool) (v : Nat) : (wi neg over v)[1]? = some (.bool over) := by simp [wi, Array.getElem?_append]
theorem wi_get (neg over : Bool) (v j : Nat) (h : j < 16) : (wi neg over v)[2 + j]? = some (.int .u64 ((dg v j : Nat) : Int)) := by
  rw [wi, Array.getElem?_append, if_neg (by simp), show 2 + j - #[Value.bool neg, Value.bool over].size = j from by simp]
  exact sz_get v j h
theorem wi_one (neg over : Bool) (v : Nat) : (wi neg over v).all (·.oneCell') = true := by
  unfold wi
  rw [Array.all_append, sz_one]; simp [Value.oneCell']

/-- The block g is a row of the cells cs. -/
def IsRow (w : World) (g : Nat) (t : TypeId) (cs : Array Value) : Prop := w.heap[g]? = some (.cells cs t (0, 0))

section
variable {w : World} {g : Nat} {t : TypeId} {cs : Array Value}
theorem IsRow.lt (h : IsRow w g t cs) : g < w.heap.size := (Array.getElem?_eq_some_iff.1 h).1
theorem IsRow.cell (h : IsRow w g t cs) {j : Nat} {v : Value} (hv : cs[j]? = some v) : w.cell? ⟨g, j, none⟩ = some v := by
  rw [cell_of_row w g j cs t _ h]; exact hv
theorem IsRow.frozen (h : IsRow w g t cs) (j : Nat) : w.frozen? ⟨g, j, none⟩ = false := by
  simp [World.frozen?, show w.heap[g]? = some (.cells cs t (0, 0)) from h]
theorem IsRow.alloc (h : IsRow w g t cs) (o : Obj) : IsRow (w.alloc o) g t cs := by
  have := h.lt
  unfold IsRow World.alloc at *
  simp only [Array.getElem?_push]
  rw [if_neg (by omega)]; exact h
theorem IsRow.drew (h : IsRow w g t cs) : IsRow w.drew g t cs := h
theorem IsRow.drewN (h : IsRow w g t cs) (n : Nat) : IsRow (w.drewN n) g t cs := h
theorem IsRow.new (w : World) (cs : Array Value) (t : TypeId) : IsRow (w.alloc (.cells cs t)) w.heap.size t cs := by
  unfold IsRow World.alloc; simp
theorem IsRow.set (h : IsRow w g t cs) (i : Nat) (v : Value) : IsRow (w.setCell ⟨g, i, none⟩ v) g t (cs.setIfInBounds i v) := by
  unfold IsRow
  rw [setCell_eq_setRow w g i cs t _ v h]
  exact setRow_heap w g cs _ t _ h
theorem IsRow.setOther (h : IsRow w g t cs) (a : Addr) (v : Value) (hne : a.block ≠ g) : IsRow (w.setCell a v) g t cs := by
  unfold IsRow World.setCell at *
  simp only [Array.getElem?_modify]
  rw [if_neg hne]; exact h
theorem IsRow.row (h : IsRow w g t cs) (ds : Array Value) : IsRow (w.setRow g ds) g t ds := setRow_heap w g cs ds t _ h
theorem IsRow.rowOther (h : IsRow w g t cs) (k : Nat) (ds : Array Value) (hne : g ≠ k) : IsRow (w.setRow k ds) g t cs := (setRow_other w k g ds hne).trans h
theorem IsRow.below {w' : World} {B : Nat} (h : IsRow w g t cs) (hb : Below B w w') (hg : g < B) : IsRow w' g t cs := (hb.block g hg).trans h
end

/-- Sixteen digits of v lie at offset o of the block g. -/
def Digs (w : World) (g o v : Nat) : Prop := ∀ j, j < 16 → w.cell? ⟨g, o + j, none⟩ = some (.int .u64 ((dg v j : Nat) : Int))
theorem Digs.of_sz {w : World} {g : Nat} {t : TypeId} {v : Nat} (h : IsRow w g t (sz v)) : Digs w g 0 v := fun j hj => by
  rw [Nat.zero_add]; exact h.cell (sz_get v j hj)
theorem Digs.of_wi {w : World} {g : Nat} {t : TypeId} {neg over : Bool} {v : Nat} (h : IsRow w g t (wi neg over v)) : Digs w g 2 v := fun j hj => h.cell (wi_get neg over v j hj)
theorem Digs.lt {w : World} {g o v : Nat} (h : Digs w g o v) : g < w.heap.size := World.block_lt_of_cell? _ _ (h 0 (by omega))
theorem Digs.below {w w' : World} {g o v B : Nat} (h : Digs w g o v) (hb : Below B w w') (hg : g < B) : Digs w' g o v := fun j hj => (hb.cell (p := ⟨g, o + j, none⟩) hg).trans (h j hj)

/-- A value that is built, told as its cells. -/
theorem wpList_build1 {P : Program} {ops : Array Oper} {rest : List Oper} {o : Oper} {a : Act} {w : World} {Q : Exit → Act → World → Prop} (hg : o.guard = none) (t : TypeId) (i : Nat) (x : Operand) (ho : o.op = .build t #[(i, x)])
    (v : Value) (hv : a.eval x = v) (cs : Array Value) (hb : P.built t [(i, v)] = some cs)
    (h : wpList P ops Q rest (a.put o.dst (.agg cs)) w) : wpList P ops Q (o :: rest) a w := by
  subst hv
  have e : ((#[(i, x)] : Array (Nat × Operand)).map fun (i, x) => (i, a.eval x)).toList = [(i, a.eval x)] := by simp
  refine wpList_build hg t _ ho ?_ ?_
  · rw [e, hb]; rfl
  · rw [e, hb]; exact h
theorem wpList_build2 {P : Program} {ops : Array Oper} {rest : List Oper} {o : Oper} {a : Act} {w : World} {Q : Exit → Act → World → Prop} (hg : o.guard = none) (t : TypeId) (i j : Nat) (x y : Operand) (ho : o.op = .build t #[(i, x), (j, y)])
    (u v : Value) (hu : a.eval x = u) (hv : a.eval y = v) (cs : Array Value) (hb : P.built t [(i, u), (j, v)] = some cs)
    (h : wpList P ops Q rest (a.put o.dst (.agg cs)) w) : wpList P ops Q (o :: rest) a w := by
  subst hu hv
  have e : ((#[(i, x), (j, y)] : Array (Nat × Operand)).map fun (i, x) => (i, a.eval x)).toList = [(i, a.eval x), (j, a.eval y)] := by simp
  refine wpList_build hg t _ ho ?_ ?_
  · rw [e, hb]; rfl
  · rw [e, hb]; exact h
theorem wpList_build0 {P : Program} {ops : Array Oper} {rest : List Oper} {o : Oper} {a : Act} {w : World} {Q : Exit → Act → World → Prop} (hg : o.guard = none) (t : TypeId) (ho : o.op = .build t #[])
    (cs : Array Value) (hb : P.built t [] = some cs)
    (h : wpList P ops Q rest (a.put o.dst (.agg cs)) w) : wpList P ops Q (o :: rest) a w := by
  have e : ((#[] : Array (Nat × Operand)).map fun (i, x) => (i, a.eval x)).toList = [] := by simp
  refine wpList_build hg t _ ho ?_ ?_
  · rw [e, hb]; rfl
  · rw [e, hb]; exact h

/-- A part of a row that is read as a whole. -/
theorem run_loadVar_part {P : Program} (w : World) (g o : Nat) (ty : TypeId) (cs : Array Value) (d : TypeDesc) (hc : ∀ j v, cs[j]? = some v → w.cell? ⟨g, o + j, none⟩ = some v)
    (hu : P.underlying ty = some d) (hd : (match d with | .struct _ | .array _ _ => true | _ => false) = true) (hi : (P.info? ty).map (·.size) = some cs.size) :
    (loadVar ty ⟨g, o, none⟩).run P w = .ok (.agg cs) w := by
  have hl : (loadCells ⟨g, o, none⟩ cs.toList.length).run P w = .ok cs.toList.toArray w :=
    run_loadCells_list (P := P) w ⟨g, o, none⟩ cs.toList (fun j v hv => by
      have hadd : (⟨g, o, none⟩ : Addr).add j = ⟨g, o + j, none⟩ := by unfold Addr.add; split <;> simp_all
      rw [hadd]
      exact hc j v (by simpa using hv))
  cases hq : P.info? ty with
  | none => simp [hq] at hi
  | some i =>
    have hs : i.size = cs.size := by simpa [hq] using hi
    have hagg : (isAgg ty).run P w = .ok true w := by
      unfold isAgg
      rw [Sem.run_bind, run_underlying hu w]
      cases d <;> simp_all
    simp only [Array.length_toList, Array.toArray_toList] at hl
    simp [loadVar, Sem.run_bind, hagg, sizeOf, typeInfo, hq, hs, hl]
theorem wpList_load_part {P : Program} {ops : Array Oper} {rest : List Oper} {o : Oper} {a : Act} {w : World} {Q : Exit → Act → World → Prop} (hgd : o.guard = none) (ty : TypeId) (x : Operand) (ho : o.op = .load ty x)
    (g k : Nat) (hx : a.eval x = .pointer (some ⟨g, k, none⟩)) (cs : Array Value) (d : TypeDesc) (hc : ∀ j v, cs[j]? = some v → w.cell? ⟨g, k + j, none⟩ = some v)
    (hu : P.underlying ty = some d) (hd : (match d with | .struct _ | .array _ _ => true | _ => false) = true) (hi : (P.info? ty).map (·.size) = some cs.size)
    (h : wpList P ops Q rest (a.put o.dst (.agg cs)) w) : wpList P ops Q (o :: rest) a w :=
  wpList_plain hgd fun _ hK => by
    unfold Oper.wp execOp
    simp only [ho, hx, Instr.loadAt, Instr.sureAddr, Sem.run_bind, Sem.run_pure, Result.andThen_ok, run_loadVar_part w g k ty cs d hc hu hd hi]
    exact hK _ _ h
theorem Digs.cells {w : World} {g o v : Nat} (h : Digs w g o v) : ∀ j u, (sz v)[j]? = some u → w.cell? ⟨g, o + j, none⟩ = some u := fun j u hu => by
  have hj : j < 16 := by
    rcases Nat.lt_or_ge j 16 with h | h
    · exact h
    · rw [Array.getElem?_eq_none (by simpa using h)] at hu; cases hu
  rw [sz_get v j hj] at hu
  rw [h j hj]; exact hu

/-! The same steps in a region that only reads -/
section
variable {P : Program} {ops : Array Oper} {rest : List Oper} {o : Oper} {a : Act} {w : World} {Q : Act → Prop}
theorem wpStill_load_row (hw : Region.wanted o (yielded ops a.tmps) = true) (ty : TypeId) (x : Operand) (ho : o.op = .load ty x)
    (g : Nat) (hx : a.eval x = .pointer (some ⟨g, 0, none⟩)) (t : TypeId) (cs : Array Value) (fr : Nat × Nat) (d : TypeDesc) (hg : w.heap[g]? = some (.cells cs t fr))
    (hu : P.underlying ty = some d) (hd : (match d with | .struct _ | .array _ _ => true | _ => false) = true) (hi : (P.info? ty).map (·.size) = some cs.size)
    (h : wpStill P ops w Q rest (a.put o.dst (.agg cs))) : wpStill P ops w Q (o :: rest) a := by
  unfold wpStill
  rw [if_pos hw]
  unfold Oper.still execOp
  simp only [ho, hx, Instr.loadAt, Instr.sureAddr, Sem.run_bind, Sem.run_pure, Result.andThen_ok, run_loadVar_row w g t ty cs fr d hg hu hd hi]
  exact ⟨rfl, h⟩
theorem wpStill_load_part (hw : Region.wanted o (yielded ops a.tmps) = true) (ty : TypeId) (x : Operand) (ho : o.op = .load ty x)
    (g k : Nat) (hx : a.eval x = .pointer (some ⟨g, k, none⟩)) (cs : Array Value) (d : TypeDesc) (hc : ∀ j v, cs[j]? = some v → w.cell? ⟨g, k + j, none⟩ = some v)
    (hu : P.underlying ty = some d) (hd : (match d with | .struct _ | .array _ _ => true | _ => false) = true) (hi : (P.info? ty).map (·.size) = some cs.size)
    (h : wpStill P ops w Q rest (a.put o.dst (.agg cs))) : wpStill P ops w Q (o :: rest) a := by
  unfold wpStill
  rw [if_pos hw]
  unfold Oper.still execOp
  simp only [ho, hx, Instr.loadAt, Instr.sureAddr, Sem.run_bind, Sem.run_pure, Result.andThen_ok, run_loadVar_part w g k ty cs d hc hu hd hi]
  exact ⟨rfl, h⟩
theorem wpStill_build0 (hw : Region.wanted o (yielded ops a.tmps) = true) (t : TypeId) (ho : o.op = .build t #[])
    (cs : Array Value) (hb : P.built t [] = some cs)
    (h : wpStill P ops w Q rest (a.put o.dst (.agg cs))) : wpStill P ops w Q (o :: rest) a := by
  have e : ((#[] : Array (Nat × Operand)).map fun (i, x) => (i, a.eval x)).toList = [] := by simp
  unfold wpStill
  rw [if_pos hw]
  unfold Oper.still execOp
  simp only [ho, Sem.run_bind, run_build w t _ cs (e ▸ hb), Result.andThen_ok]
  exact ⟨rfl, h⟩
theorem wpStill_build2 (hw : Region.wanted o (yielded ops a.tmps) = true) (t : TypeId) (i j : Nat) (x y : Operand) (ho : o.op = .build t #[(i, x), (j, y)])
    (u v : Value) (hu : a.eval x = u) (hv : a.eval y = v) (cs : Array Value) (hb : P.built t [(i, u), (j, v)] = some cs)
    (h : wpStill P ops w Q rest (a.put o.dst (.agg cs))) : wpStill P ops w Q (o :: rest) a := by
  subst hu hv
  have e : ((#[(i, x), (j, y)] : Array (Nat × Operand)).map fun (i, x) => (i, a.eval x)).toList = [(i, a.eval x), (j, a.eval y)] := by simp
  unfold wpStill
  rw [if_pos hw]
  unfold Oper.still execOp
  simp only [ho, Sem.run_bind, run_build w t _ cs (e ▸ hb), Result.andThen_ok]
  exact ⟨rfl, h⟩
end

/-! Which operation stands next (tried ahead of the laws above) -/
section
variable {P : Program} {ops : Array Oper} {rest : List Oper} {o : Oper} {a : Act} {w : World}
theorem isLoadS {Q : Act → Prop} {ty : TypeId} {x : Operand} (ho : o.op = .load ty x) (h : wpStill P ops w Q (o :: rest) a) : wpStill P ops w Q (o :: rest) a := h
theorem isBuildS {Q : Act → Prop} {ty : TypeId} {ps : Array (Nat × Operand)} (ho : o.op = .build ty ps) (h : wpStill P ops w Q (o :: rest) a) : wpStill P ops w Q (o :: rest) a := h
theorem isLoadL {Q : Exit → Act → World → Prop} {ty : TypeId} {x : Operand} (ho : o.op = .load ty x) (h : wpList P ops Q (o :: rest) a w) : wpList P ops Q (o :: rest) a w := h
theorem isBuildL {Q : Exit → Act → World → Prop} {ty : TypeId} {ps : Array (Nat × Operand)} (ho : o.op = .build ty ps) (h : wpList P ops Q (o :: rest) a w) : wpList P ops Q (o :: rest) a w := h
theorem isStoreL {Q : Exit → Act → World → Prop} {ty : TypeId} {x y : Operand} (ho : o.op = .store ty x y) (h : wpList P ops Q (o :: rest) a w) : wpList P ops Q (o :: rest) a w := h
end

/-! The same as steps of a region that draws its order -/
section
variable {P : Program} {ops : Array Oper} {o : Oper} {a : Act} {w : World} {K : Act → World → Prop} {Q : Exit → Act → World → Prop} {E : Prop}
theorem step_load_row (hg : o.guard = none) (ty : TypeId) (x : Operand) (ho : o.op = .load ty x)
    (g : Nat) (hx : a.eval x = .pointer (some ⟨g, 0, none⟩)) (t : TypeId) (cs : Array Value) (fr : Nat × Nat) (d : TypeDesc) (hr : w.heap[g]? = some (.cells cs t fr))
    (hu : P.underlying ty = some d) (hd : (match d with | .struct _ | .array _ _ => true | _ => false) = true) (hi : (P.info? ty).map (·.size) = some cs.size)
    (hK : K (a.put o.dst (.agg cs)) w) : if Region.wanted o (yielded ops a.tmps) = true then Oper.wp P o a w K Q else E := by
  have hw : Region.wanted o (yielded ops a.tmps) = true := by simp [Region.wanted, hg]
  rw [if_pos hw]
  exact wp_load_row ty x ho g hx t cs fr d hr hu hd hi hK
theorem step_store_row (hg : o.guard = none) (ty : TypeId) (x y : Operand) (ho : o.op = .store ty x y)
    (g : Nat) (cells : Array Value) (hx : a.eval x = .pointer (some ⟨g, 0, none⟩)) (hy : a.eval y = .agg cells)
    (t : TypeId) (old : Array Value) (hr : w.heap[g]? = some (.cells old t (0, 0))) (hi : (P.info? ty).map (·.size) = some cells.size)
    (hold : old.size = cells.size) (h1 : cells.all (·.oneCell') = true)
    (hK : K (a.put o.dst undef) (w.setRow g cells)) : if Region.wanted o (yielded ops a.tmps) = true then Oper.wp P o a w K Q else E := by
  have hw : Region.wanted o (yielded ops a.tmps) = true := by simp [Region.wanted, hg]
  rw [if_pos hw]
  exact wp_store_row ty x y ho g cells hx hy t old hr hi hold h1 hK
end

/-- Two results, each in a variable. -/
theorem results_cell2 {P : Program} {fn : Func} {p q : Tmp} {t1 t2 : TypeId} (h : fn.results = #[.cell p t1, .cell q t2]) (tmps : Array Value) (w : World) (A1 A2 : Addr) (v1 v2 : Value)
    (hp : tmps.getD p undef = .pointer (some A1)) (hq : tmps.getD q undef = .pointer (some A2)) (h1 : (loadVar t1 A1).run P w = .ok v1 w) (h2 : (loadVar t2 A2).run P w = .ok v2 w) :
    (results fn tmps).run P w = .ok (.tuple #[v1, v2]) w := by
  have hp' : tmps[p]?.getD undef = .pointer (some A1) := by simpa using hp
  have hq' : tmps[q]?.getD undef = .pointer (some A2) := by simpa using hq
  simp [results, h, hp', hq', asAddr, h1, h2]
end Go.Proofs.YtbepibdjlajppaaDoor
