/-
  Sx: slices that are made and that grow.
-/
import Derived.Test.YtfpmmahonddpoaaSo
import Derived.Laws.Append
import Derived.Laws.AppendOwn
import Derived.Laws.MakeOwn
set_option linter.unusedVariables false
set_option linter.unusedSimpArgs false
namespace Go.Proofs.Ytfpmmahonddpoaa.Sx
open Go Go.RowKit

def segL (n : Nat) (f : Nat → Value) : List Value := (List.range n).map f
theorem segL_len (n : Nat) (f : Nat → Value) : (segL n f).length = n := by simp [segL]
theorem segL_get {n : Nat} {f : Nat → Value} {j : Nat} (h : j < n) : (segL n f).getD j undef = f j := by simp [segL, List.getD_eq_getElem?_getD, h]
/-- The cells of so many zero values. -/
def repZ (size : Nat) (z : Value) (j : Nat) : Value := (cellsL z).getD (j % size) undef
theorem one_part {c : Nat} {n : Nat} {l : List Value} {o : Bool} (hl : l.length = n) {j : Nat} (hj : j < n) : (⟨o, n, [(0, n, .agg ⟨l⟩)]⟩ : Chunk).f j = l.getD j undef := by
  show cellOf _ _ = _
  rw [cellOf_cons, if_pos (by omega)]
  rfl
theorem seg_at {o : Bool} {n : Nat} {f : Nat → Value} {j : Nat} (h : j < n) : (⟨o, n, [(0, n, .agg ⟨segL n f⟩)]⟩ : Chunk).f j = f j := by
  rw [one_part (c := 0) (segL_len n f) h]; exact segL_get h
theorem cellsL_len {z : Value} {n : Nat} (hf : flatB z n = true) : (cellsL z).length = n := by
  cases z <;> simp_all [flatB, cellsL]
theorem zero_cells {z : Value} {n : Nat} (hp : plain2 z = true) (hf : flatB z n = true) (hn : 0 < n) (ρ : Nat → Nat × Nat) (j : Nat) : z.cells[j % z.cells.size]! = den1 ρ (repZ n z j) ∧ plain1 (repZ n z j) = true := by
  have h1 := den1_cells hp ρ
  have h2 := cellsL_len hf
  have h3 : z.cells.size = n := by have := congrArg List.length h1; simp at this; omega
  have hj : j % n < (cellsL z).length := by rw [h2]; exact Nat.mod_lt _ hn
  have h4 : repZ n z j = (cellsL z)[j % n] := by unfold repZ; rw [List.getD_eq_getElem?_getD, List.getElem?_eq_getElem hj]; rfl
  have hpl : plain1 (repZ n z j) = true := by
    rw [h4]
    cases z with
    | agg cs => simp only [plain2, List.all_eq_true] at hp; exact hp _ (List.getElem_mem _)
    | tuple vs => simp [plain2, plain1] at hp
    | _ => (simp only [cellsL, List.length_singleton] at hj; simp only [cellsL]; simpa [plain2] using hp)
  refine ⟨?_, hpl⟩
  rw [h3, h4]
  have h5 : z.cells.toList[j % n]? = some (den1 ρ (cellsL z)[j % n]) := by rw [← h1, List.getElem?_map, List.getElem?_eq_getElem hj]; rfl
  have h6 : z.cells[j % n]? = some (den1 ρ (cellsL z)[j % n]) := by simpa using h5
  rw [getElem!_def, h6]
theorem den1_segL {ρ : Nat → Nat × Nat} {n : Nat} {f : Nat → Value} : (segL n f).map (den1 ρ) = (List.range n).map (fun j => den1 ρ (f j)) := by simp [segL]

theorem Den.news {h : List (Option Chunk)} {i l c : Nat} {ρ : Nat → Nat × Nat} {d : Chunk} (hl : i < h.length) (h2 : (ρ i).2 = 0) : Den (Fil (h.set i (some d))) ρ (.slice (some ⟨i, 0, some 0⟩) l c) (.slice (some ⟨(ρ i).1, 0, none⟩) l c) := fun r hr => by
  have := hr i ⟨d, by rw [List.getElem?_set_self hl]⟩
  simp [den, den2, den1, den0, denA, this, h2]

section
variable {P : Program} {o : Oper} {st : St}

theorem ok_buildSlice {t e : TypeId} {n i : Nat} {ps : Array (Nat × Operand)} {vs : List (Nat × Value)} {ei : TypeInfo} {z : Value} {out : List Value} (ho : o.op = .buildSlice t n ps) (hx : PartsTo st ps.toList vs) (h2 : P.underlying t = some (.slice e)) (h3 : P.info? e = some ei)
    (hz : ei.zero = some z) (hp : plain2 z = true) (hfz : flatB z ei.size = true) (hsz : 0 < n * ei.size) (hn : n * ei.size ≤ 16777216) (hout : fillL (fun i => some (i * ei.size, ei.size)) (segL (n * ei.size) (repZ ei.size z)) vs = some out) (hlen : out.length = n * ei.size) (hi : st.h[i]? = some none) :
    OKs P o st (.slice (some ⟨i, 0, some 0⟩) n n) [(i, ⟨true, n * ei.size, [(0, n * ei.size, .agg ⟨out⟩)]⟩)] [] := fun st₂ hs _ hh =>
  eff_value fun X ρ a w R => by
    have hi2 : st₂.h[i]? = some none := (hh _ (List.mem_singleton.2 rfl)).trans hi
    obtain ⟨e1, e2⟩ := parts_den R _ _ hx (fun p hp => hs p.2 (by simp only [ho, Op.operands]; exact List.mem_map.2 ⟨p, hp, rfl⟩))
    have hs0 : 0 < ei.size := Nat.pos_of_ne_zero fun h => by rw [h, Nat.mul_zero] at hsz; omega
    have hzv : (zeroValue e).run P w = .ok z w := by simp [zeroValue, typeInfo, Sem.run_bind, run_program, Result.andThen_ok, h3, hz]
    have hcells : ((Array.range (n * ei.size)).map (z.cells[· % z.cells.size]!)) = ⟨(segL (n * ei.size) (repZ ei.size z)).map (den1 ρ)⟩ := by
      apply Array.toList_inj.1
      rw [den1_segL, Array.toList_map, Array.toList_range]
      exact List.map_congr_left fun j _ => (zero_cells hp hfz hs0 ρ j).1
    have hr := fill_run (ρ := ρ) vs _ _ hout
    rw [← e1] at hr
    have hf : Instr.fill (fun i => some (i * ei.size, ei.size)) ⟨(segL (n * ei.size) (repZ ei.size z)).map (den1 ρ)⟩ ((ps.map fun (p : Nat × Operand) => (p.1, a.eval p.2)).toList) = some ⟨out.map (den1 ρ)⟩ := by
      rw [Array.toList_map]
      exact hr
    have hsame : ∀ r, AgreeOn (Fil st₂.h) ρ r → out.map (den1 r) = out.map (den1 ρ) := fun r hr' => by
      have k1 := fill_run (ρ := r) vs _ _ hout
      have k2 := fill_run (ρ := ρ) vs _ _ hout
      have k3 : ∀ r : Nat → Nat × Nat, (segL (n * ei.size) (repZ ei.size z)).map (den1 r) = segL (n * ei.size) (repZ ei.size z) := fun r => by
        refine (List.map_congr_left fun v hv => ?_).trans (List.map_id _)
        simp only [segL, List.mem_map, List.mem_range] at hv
        obtain ⟨j, _, rfl⟩ := hv
        exact den1_plain (zero_cells hp hfz hs0 r j).2 r
      rw [e2 r hr', k3] at k1
      rw [k3, k1] at k2
      simpa using k2
    obtain ⟨ρ', ha, hρ, H'⟩ := R.heap.alloc (c := ⟨true, n * ei.size, [(0, n * ei.size, .agg ⟨out⟩)]⟩) (xs := ⟨out.map (den1 ρ)⟩) (ty := e) hi2 (by simp [hlen]) (fun j y hy => by
      have hj : j < out.length := by have := (Array.getElem?_eq_some_iff.1 hy).1; simpa using this
      rw [one_part (c := 0) hlen (by omega), List.getD_eq_getElem?_getD, List.getElem?_eq_getElem hj]
      intro r hr'
      have := congrArg (fun l => l[j]?) (hsame r hr')
      simp only [List.getElem?_map, List.getElem?_eq_getElem hj, Option.map_some] at this
      simp only [Option.getD_some]
      have hy' : y = den1 ρ out[j] := by simpa [hj] using hy.symm
      rw [hy']
      simpa using this)
    refine ⟨ρ', .slice (some ⟨w.heap.size, 0, none⟩) n n, _, ?_, ha, H', ?_⟩
    · have g1 : ¬ n * ei.size > 2 ^ 24 := by omega
      have g2 : ¬ n * ei.size = 0 := by omega
      simp only [execOp, ho, Instr.buildSlice, underlying, Sem.run_bind, run_program, Result.andThen_ok, h2, Sem.run_pure, run_sizeOf h3, g1, g2, if_false, hzv]
      rw [hcells, hf]
      rfl
    · have := Den.news (h := st₂.h) (d := ⟨true, n * ei.size, [(0, n * ei.size, .agg ⟨out⟩)]⟩) (l := n) (c := n) (ρ := ρ') (List.getElem?_eq_some_iff.1 hi2).1 (by rw [hρ])
      rw [hρ] at this
      exact this

theorem ok_makeSlice {t e : TypeId} {x y : Operand} {k k' : IntKind} {n i : Nat} {ei : TypeInfo} {z : Value} (ho : o.op = .makeSlice t x y) (hx : EvTo x st (.int k n)) (hy : EvTo y st (.int k' n)) (h2 : P.underlying t = some (.slice e)) (h3 : P.info? e = some ei)
    (hz : ei.zero = some z) (hp : plain2 z = true) (hfz : flatB z ei.size = true) (hs0 : 0 < ei.size) (hb : ei.bytes * n ≤ 281474976710656) (hn : n ≤ 9223372036854775807) (hi : st.h[i]? = some none) :
    OKs P o st (.slice (some ⟨i, 0, some 0⟩) n n) [(i, ⟨true, n * ei.size, [(0, n * ei.size, .agg ⟨segL (n * ei.size) (repZ ei.size z)⟩)]⟩)] [] := fun st₂ hs _ hh =>
  eff_value fun X ρ a w R => by
    have hi2 : st₂.h[i]? = some none := (hh _ (List.mem_singleton.2 rfl)).trans hi
    have hx' : a.eval x = .int k n := ((hs x (by simp [ho, Op.operands]) _ hx).den R).self.symm
    have hy' : a.eval y = .int k' n := ((hs y (by simp [ho, Op.operands]) _ hy).den R).self.symm
    have hcells : madeCells z.cells (n * ei.size) = ⟨(segL (n * ei.size) (repZ ei.size z)).map (den1 ρ)⟩ := by
      apply Array.toList_inj.1
      rw [den1_segL, madeCells, Array.toList_map, Array.toList_range]
      exact List.map_congr_left fun j _ => (zero_cells hp hfz hs0 ρ j).1
    obtain ⟨ρ', ha, hρ, H'⟩ := R.heap.alloc (c := ⟨true, n * ei.size, [(0, n * ei.size, .agg ⟨segL (n * ei.size) (repZ ei.size z)⟩)]⟩) (xs := madeCells z.cells (n * ei.size)) (ty := e) hi2 (by simp [madeCells]) (fun j y hy => by
      have hj : j < n * ei.size := by have := (Array.getElem?_eq_some_iff.1 hy).1; simpa [madeCells] using this
      rw [hcells] at hy
      rw [seg_at hj]
      have hy2 : y = den1 ρ (repZ ei.size z j) := by simpa [segL, hj] using hy.symm
      have hpl := (zero_cells hp hfz hs0 ρ j).2
      rw [hy2, den1_plain hpl]
      exact fun r _ => den1_plain hpl r)
    have hr := run_make (P := P) w t e ei z h2 h3 hz k k' n n (by omega) (Int.le_refl _) (by rw [← Int.natCast_mul]; omega) (by omega)
    simp only [Int.toNat_natCast] at hr
    refine ⟨ρ', .slice (some ⟨w.heap.size, 0, none⟩) n n, _, ?_, ha, H', ?_⟩
    · simp only [execOp, ho, hx', hy', Sem.run_bind, hr, Result.andThen_ok, Sem.run_pure]
    · have := Den.news (h := st₂.h) (d := ⟨true, n * ei.size, [(0, n * ei.size, .agg ⟨segL (n * ei.size) (repZ ei.size z)⟩)]⟩) (l := n) (c := n) (ρ := ρ') (List.getElem?_eq_some_iff.1 hi2).1 (by rw [hρ])
      rw [hρ] at this
      exact this
end
end Go.Proofs.Ytfpmmahonddpoaa.Sx
