/-
  Sx: append, as far as its outcome may differ: all outcomes are gone through.
-/
import Derived.Test.YtfpmmahonddpoaaSn
set_option linter.unusedVariables false
set_option linter.unusedSimpArgs false
namespace Go.Proofs.Ytfpmmahonddpoaa.Sx
open Go Go.RowKit

/-- What an operation may do: every outcome that it can have is one of K. -/
def EffAll (P : Program) (o : Oper) (st : St) (K : Value → List (Nat × Chunk) → Prop) : Prop :=
  ∀ X ρ a w, Rel X ρ st a w → ∀ (next : Act → World → Prop) (Q : Exit → Act → World → Prop),
    (∀ v ms ρ' x w', K v ms → After X ρ st v ms ρ' x w' → next (a.put o.dst x) w') → o.wp P a w next Q
/-- A slice's cells when it has grown. -/
def grown (ci : Chunk) (l m size : Nat) (v z : Value) (cap : Nat) : Chunk :=
  ⟨true, cap * size, [(l * size, m * size, v), (0, l * size, .agg ⟨segL (l * size) ci.f⟩), (0, cap * size, .agg ⟨segL (cap * size) (repZ size z)⟩)]⟩
theorem grown_old {ci : Chunk} {l m size cap : Nat} {v z : Value} {j : Nat} (h : j < l * size) : (grown ci l m size v z cap).f j = ci.f j := by
  show cellOf [(l * size, m * size, v), (0, l * size, .agg ⟨segL (l * size) ci.f⟩), (0, cap * size, .agg ⟨segL (cap * size) (repZ size z)⟩)] _ = _
  rw [cellOf_cons, if_neg (by omega), cellOf_cons, if_pos (by omega)]
  exact segL_get h
theorem grown_new {ci : Chunk} {l m size cap : Nat} {v z : Value} {j : Nat} (h : j < m * size) : (grown ci l m size v z cap).f (l * size + j) = cellIn v j := by
  show cellOf [(l * size, m * size, v), (0, l * size, .agg ⟨segL (l * size) ci.f⟩), (0, cap * size, .agg ⟨segL (cap * size) (repZ size z)⟩)] _ = _
  rw [cellOf_cons, if_pos (by omega)]
  congr 1; omega
theorem grown_zero {ci : Chunk} {l m size cap : Nat} {v z : Value} {j : Nat} (h1 : (l + m) * size ≤ j) (h2 : j < cap * size) : (grown ci l m size v z cap).f j = repZ size z j := by
  rw [Nat.add_mul] at h1
  show cellOf [(l * size, m * size, v), (0, l * size, .agg ⟨segL (l * size) ci.f⟩), (0, cap * size, .agg ⟨segL (cap * size) (repZ size z)⟩)] _ = _
  rw [cellOf_cons, if_neg (by omega), cellOf_cons, if_neg (by omega), cellOf_cons, if_pos (by omega)]
  exact segL_get h2

section
variable {P : Program} {o : Oper} {st : St}
theorem run_append_op {x y : Operand} {t : TypeId} {a : Act} {w w' : World} {v : Value} (ho : o.op = .call ⟨.builtin .append, #[x, y], #[t, t]⟩) (h : (Builtin.append_ #[t, t] o.type #[a.eval x, a.eval y]).run P w = .ok v w') : (execOp a.eval o).run P w = .ok (.value v) w' := by
  simp only [execOp, ho, resolve, invoke, builtin, Sem.run_bind, Sem.run_pure, Result.andThen_ok, List.map_toArray, List.map_cons, List.map_nil, h]

/-- The cells that are read, as they lie in memory. -/
theorem reads_cells {X : Ctx} {ρ : Nat → Nat × Nat} {h : List (Option Chunk)} {w : World} {j g n : Nat} {cj : Chunk} {v : Value} (H : HOK X ρ h w) (hj : h[j]? = some (some cj)) (hr : Reads cj g true n v) :
    ∃ cs : List Value, v = .agg ⟨cs⟩ ∧ cs.length = n ∧ (∀ k u, (cs.map (den1 ρ))[k]? = some u → w.cell? ((⟨(ρ j).1, (ρ j).2 + g, none⟩ : Addr).add k) = some u) ∧ ∀ k, (hk : k < cs.length) → Den1 (Fil h) ρ cs[k] (den1 ρ cs[k]) := by
  obtain ⟨hl, ⟨cs⟩, rfl, hcn, hcf⟩ := hr
  have hcn : cs.length = n := hcn
  have hcell : ∀ k, (hk : k < cs.length) → ∃ z, w.cell? ⟨(ρ j).1, (ρ j).2 + (g + k), none⟩ = some z ∧ Den1 (Fil h) ρ cs[k] z := fun k hk => by
    obtain ⟨z, hz, hzd⟩ := H.cell j cj hj (g + k) (by omega)
    have e := hcf k (by omega)
    rw [List.getD_eq_getElem?_getD, List.getElem?_eq_getElem hk] at e
    simp only [Option.getD_some] at e
    rw [e] at hzd
    exact ⟨z, hz, hzd⟩
  refine ⟨cs, rfl, hcn, fun k u hu => ?_, fun k hk => ?_⟩
  · have hk : k < cs.length := by have := (List.getElem?_eq_some_iff.1 hu).1; simpa using this
    rw [List.getElem?_map, List.getElem?_eq_getElem hk] at hu
    obtain ⟨y, hy, hyd⟩ := hcell k hk
    rw [add_at, Nat.add_assoc, hy, ← hyd.self]
    exact hu
  · obtain ⟨y, hy, hyd⟩ := hcell k hk
    rw [hyd.self]; exact hyd

theorem grown_hok {X : Ctx} {ρ : Nat → Nat × Nat} {h : List (Option Chunk)} {w : World} {e : TypeId} {i l m size cap : Nat} {ci : Chunk} {cs : List Value} {z : Value} {olds : List Value} (H : HOK X ρ h w) (hi : h[i]? = some none) (hs0 : 0 < size) (hp : plain2 z = true) (hfz : flatB z size = true) (hcs : cs.length = m * size) (hd : ∀ k, (hk : k < cs.length) → Den1 (Fil h) ρ cs[k] (den1 ρ cs[k]))
    (ho : olds.length = l * size) (hod : ∀ k, (hk : k < olds.length) → Den1 (Fil h) ρ (ci.f k) olds[k]) (hcap : l + m ≤ cap) :
    ∃ ρ', AgreeOn (Fil h) ρ ρ' ∧ ρ' i = (w.heap.size, 0) ∧ HOK X ρ' (h.set i (some (grown ci l m size (.agg ⟨cs⟩) z cap))) (w.drew.alloc (.cells (olds.toArray ++ (cs.map (den1 ρ)).toArray ++ Builtin.zeroCells z.cells (cap - (l + m))) e)) := by
  have h3 : z.cells.size = size := by have := congrArg List.length (den1_cells hp ρ); have h2 := cellsL_len hfz; simp at this; omega
  have hm1 : (l + m) * size + (cap - (l + m)) * size = cap * size := by rw [← Nat.add_mul]; congr 1; omega
  have hm2 : (l + m) * size = l * size + m * size := Nat.add_mul _ _ _
  have Hd := H.drew
  have hsz : w.drew.heap.size = w.heap.size := rfl
  obtain ⟨ρ', ha, hρ, H'⟩ := Hd.alloc (c := grown ci l m size (.agg ⟨cs⟩) z cap) (xs := olds.toArray ++ (cs.map (den1 ρ)).toArray ++ Builtin.zeroCells z.cells (cap - (l + m))) (ty := e) hi (by
      show cap * size = _
      simp only [Array.size_append, List.size_toArray, List.length_map, size_zeroCells, ho, hcs, h3]
      omega) (fun j y hy => by
    rw [Array.getElem?_append, Array.getElem?_append] at hy
    simp only [Array.size_append, List.size_toArray, List.length_map, ho, hcs, List.getElem?_toArray] at hy
    by_cases h1 : j < l * size
    · rw [if_pos (by omega), if_pos h1] at hy
      rw [grown_old h1]
      have hk : j < olds.length := by omega
      rw [List.getElem?_eq_getElem hk] at hy
      have : y = olds[j] := by simpa using hy.symm
      rw [this]; exact hod j hk
    · by_cases h2 : j < l * size + m * size
      · rw [if_pos h2, if_neg h1] at hy
        have hk : j - l * size < cs.length := by omega
        have e1 := grown_new (ci := ci) (l := l) (m := m) (size := size) (cap := cap) (v := .agg ⟨cs⟩) (z := z) (j := j - l * size) (by omega)
        rw [show l * size + (j - l * size) = j from by omega] at e1
        rw [e1]
        simp only [cellIn, List.getD_eq_getElem?_getD]
        rw [List.getElem?_eq_getElem hk]
        rw [List.getElem?_map, List.getElem?_eq_getElem hk] at hy
        have : y = den1 ρ cs[j - l * size] := by simpa using hy.symm
        rw [this]; exact hd _ hk
      · rw [if_neg h2] at hy
        have hlt : j - (l * size + m * size) < (cap - (l + m)) * size := by
          have := (Array.getElem?_eq_some_iff.1 hy).1
          rw [size_zeroCells, h3] at this; exact this
        rw [grown_zero (by omega) (by omega)]
        have hq := (zero_cells hp hfz hs0 ρ j)
        have hmod : (j - (l * size + m * size)) % size = j % size := by
          have e2 : j = (j - (l * size + m * size)) + (l + m) * size := by omega
          rw [e2, Nat.add_mul_mod_self_right]
          congr 1
          omega
        simp only [Builtin.zeroCells, h3] at hy
        have : y = z.cells[(j - (l * size + m * size)) % size]! := by simpa [hlt] using hy.symm
        rw [this, hmod]
        have e3 := hq.1
        rw [h3] at e3
        rw [e3, den1_plain hq.2]
        exact fun r _ => den1_plain hq.2 r)
  rw [hsz] at hρ
  exact ⟨ρ', ha, hρ, H'⟩

theorem eff_append_nil {x y : Operand} {t e : TypeId} {ei : TypeInfo} {z : Value} {i j g u m q : Nat} {cj : Chunk} {v : Value} (ho : o.op = .call ⟨.builtin .append, #[x, y], #[t, t]⟩) (hx : EvTo x st (.slice none 0 0)) (hy : EvTo y st (.slice (some ⟨j, g, some u⟩) m q))
    (h1 : P.underlying t = some (.slice e)) (h2 : P.info? e = some ei) (hz : ei.zero = some z) (hp : plain2 z = true) (hfz : flatB z ei.size = true) (hs0 : 0 < ei.size) (hj : st.h[j]? = some (some cj)) (hr : Reads cj g true (m * ei.size) v) (hm : 0 < m) (h63 : m ≤ 9223372036854775807) (hb : m * ei.bytes ≤ 140737488355328) (hi : st.h[i]? = some none) {K : Value → List (Nat × Chunk) → Prop}
    (hK : ∀ cap, m ≤ cap → K (.slice (some ⟨i, 0, some 0⟩) m cap) [(i, grown ⟨true, 0, []⟩ 0 m ei.size v z cap)]) : EffAll P o st K := fun X ρ a w R next Q hn => by
  have hx' : a.eval x = .slice none 0 0 := (hx.den R).self.symm
  have hy' : a.eval y = .slice (some ⟨(ρ j).1, (ρ j).2 + g, none⟩) m q := (hy.den R).self.symm
  obtain ⟨cs, rfl, hcl, hcc, hcd⟩ := reads_cells R.heap hj hr
  have hrun := run_append_nil (P := P) w t o.type e ei z h1 h2 hz ⟨(ρ j).1, (ρ j).2 + g, none⟩ m q (cs.map (den1 ρ)) (by rw [List.length_map, hcl]) hcc hm (by omega) (by omega)
  have hge := grownCap_ge w m 0 e
  obtain ⟨ρ', ha, hρ, H'⟩ := grown_hok (e := e) (ci := ⟨true, 0, []⟩) (olds := []) (l := 0) (m := m) (cap := grownCap w m 0 e) R.heap hi hs0 hp hfz hcl hcd (by simp) (fun k hk => absurd hk (by simp)) (by omega)
  simp only [List.nil_append, Nat.zero_add, List.toArray, Array.empty_append] at H'
  have hrun2 := run_append_op (P := P) (o := o) (x := x) (y := y) (t := t) (a := a) ho (by rw [hx', hy']; exact hrun)
  unfold Oper.wp
  rw [hrun2]
  refine hn _ _ ρ' _ _ (hK (grownCap w m 0 e) hge) ⟨ha, ?_, ?_⟩
  · exact H'
  · have := Den.news (h := st.h) (d := grown ⟨true, 0, []⟩ 0 m ei.size (.agg ⟨cs⟩) z (grownCap w m 0 e)) (l := m) (c := grownCap w m 0 e) (ρ := ρ') (List.getElem?_eq_some_iff.1 hi).1 (by rw [hρ])
    rw [hρ] at this
    exact this

theorem eff_append {x y : Operand} {t e : TypeId} {ei : TypeInfo} {z : Value} {i k s l c j g u m q : Nat} {ci cj : Chunk} {v : Value} (ho : o.op = .call ⟨.builtin .append, #[x, y], #[t, t]⟩) (hx : EvTo x st (.slice (some ⟨k, 0, some s⟩) l c)) (hy : EvTo y st (.slice (some ⟨j, g, some u⟩) m q))
    (h1 : P.underlying t = some (.slice e)) (h2 : P.info? e = some ei) (hz : ei.zero = some z) (hp : plain2 z = true) (hfz : flatB z ei.size = true) (hs0 : 0 < ei.size) (hk : st.h[k]? = some (some ci)) (hln : l * ei.size ≤ ci.n) (hj : st.h[j]? = some (some cj)) (hr : Reads cj g true (m * ei.size) v) (hf : flatB v (m * ei.size) = true) (h63 : l + m ≤ 9223372036854775807) (hb : (l + m) * ei.bytes ≤ 140737488355328) (hi : st.h[i]? = some none) {K : Value → List (Nat × Chunk) → Prop}
    (hroom : l + m ≤ c → ∃ d, Writes ci (l * ei.size) (m * ei.size) v d ∧ K (.slice (some ⟨k, 0, some s⟩) (l + m) c) [(k, d)])
    (hK : c < l + m → ∀ cap, l + m ≤ cap → K (.slice (some ⟨i, 0, some 0⟩) (l + m) cap) [(i, grown ci l m ei.size v z cap)]) : EffAll P o st K := fun X ρ a w R next Q hn => by
  have hdx := hx.den R
  have hx' : a.eval x = .slice (some ⟨(ρ k).1, (ρ k).2 + 0, none⟩) l c := hdx.self.symm
  have hy' : a.eval y = .slice (some ⟨(ρ j).1, (ρ j).2 + g, none⟩) m q := (hy.den R).self.symm
  obtain ⟨cs, hv, hcl, hcc, hcd⟩ := reads_cells R.heap hj hr
  by_cases hc : l + m ≤ c
  · obtain ⟨d, ⟨hown, hle, hdn, hdf⟩, hK'⟩ := hroom hc
    have hden : Den (Fil st.h) ρ v (den ρ v) := fun r hr' => by
      subst hv
      simp only [den, den2, Value.agg.injEq]
      apply Array.toList_inj.1
      rw [Array.toList_map, Array.toList_map]
      apply List.map_congr_left
      intro z' hz'
      obtain ⟨k', hk', he⟩ := List.getElem_of_mem hz'
      have hk'' : k' < cs.length := hk'
      have := hcd k' hk'' r hr'
      have he' : cs[k'] = z' := he
      rw [he'] at this
      exact this
    have H0 : HOK X ρ (st.h.set k (some (chunkOf ci.n (fun b => if l * ei.size ≤ b ∧ b < l * ei.size + 0 then cellIn v (b - l * ei.size) else ci.f b)))) w := by
      refine R.heap.say hk (fun _ => hown) (Nat.le_refl _) fun b hb' => ?_
      have hb'' : b < ci.n := hb'
      rw [chunkOf_f hb'', if_neg (by omega)]
    obtain ⟨w', hrw, H1⟩ := store_cells (P := P) hk hown hle hden hf (m * ei.size) 0 (by omega) w H0
    have hil := (List.getElem?_eq_some_iff.1 hk).1
    have H2 := H1.say (i := k) (d := d) (by rw [List.getElem?_set_self hil]) (fun _ => rfl) (by rw [hdn]; exact Nat.le_refl _) fun b hb' => by
      rw [hdn] at hb'
      rw [chunkOf_f hb', hdf b hb']
    rw [List.set_set] at H2
    have hfc := run_firstCells_some (P := P) w ei.size m ⟨(ρ j).1, (ρ j).2 + g, none⟩ m q (cs.map (den1 ρ)) (by rw [List.length_map, hcl]) hcc
    have hcs : cs.map (den1 ρ) = (List.range' 0 (m * ei.size)).map (fun b => den1 ρ (cellIn v b)) := by
      have := flat_cells hf ρ
      rw [List.range_eq_range'] at this
      subst hv
      simpa [den, den2, Value.cells] using this
    have hrun : (Builtin.append_ #[t, t] o.type #[a.eval x, a.eval y]).run P w = .ok (.slice (some ⟨(ρ k).1, (ρ k).2 + 0, none⟩) (l + m) c) w' := by
      rw [hx', hy']
      simp only [Builtin.append_, List.getElem?_toArray, List.getElem?_cons_zero, List.getElem?_cons_succ, Sem.run_bind, run_underlying h1, Result.andThen_ok, run_sizeOf h2, Sem.run_pure, Builtin.lenOf, hfc, if_pos hc, List.toList_toArray, add_at]
      simp only [Bool.false_eq_true, Bool.not_false, if_true, if_false, Sem.run_bind, Sem.run_pure, Result.andThen_ok, hfc, if_pos hc, List.toList_toArray, Nat.add_zero]
      rw [hcs, hrw]
      rfl
    have hrun2 := run_append_op (P := P) (o := o) (x := x) (y := y) (t := t) (a := a) ho hrun
    unfold Oper.wp
    rw [hrun2]
    refine hn _ _ ρ _ _ hK' ⟨AgreeOn.refl _ _, H2, fun r hr' => ?_⟩
    have h3 := hr' k ⟨d, by rw [show modH st.h [(k, d)] = st.h.set k (some d) from rfl, List.getElem?_set_self hil]⟩
    simp only [den, den2, den1, den0, denA, h3]
  · have hg : c < l + m := by omega
    have holds : ∀ b u', ((List.range (l * ei.size)).map fun b => den1 ρ (ci.f b))[b]? = some u' → w.cell? ((⟨(ρ k).1, (ρ k).2 + 0, none⟩ : Addr).add b) = some u' := fun b u' hu => by
      have hb' : b < l * ei.size := by have := (List.getElem?_eq_some_iff.1 hu).1; simpa using this
      obtain ⟨y', hy1, hy2⟩ := R.heap.cell k ci hk b (by omega)
      rw [add_at, Nat.add_zero, hy1, ← hy2.self]
      simpa [hb'] using hu
    have hrun := run_append_grow (P := P) w t o.type e ei z h1 h2 hz ⟨(ρ k).1, (ρ k).2 + 0, none⟩ l c ((List.range (l * ei.size)).map fun b => den1 ρ (ci.f b)) (by simp) holds ⟨(ρ j).1, (ρ j).2 + g, none⟩ m q (cs.map (den1 ρ)) (by rw [List.length_map, hcl]) hcc hg (by omega) (growslice_fits hg hb)
    have hge := grownCap_ge w (l + m) c e
    obtain ⟨ρ', ha, hρ, H'⟩ := grown_hok (e := e) (ci := ci) (olds := (List.range (l * ei.size)).map fun b => den1 ρ (ci.f b)) (l := l) (m := m) (cap := grownCap w (l + m) c e) R.heap hi hs0 hp hfz hcl hcd (by simp) (fun b hb' => by
      have hb'' : b < l * ei.size := by simpa using hb'
      obtain ⟨y', hy1, hy2⟩ := R.heap.cell k ci hk b (by omega)
      simp only [List.getElem_map, List.getElem_range]
      rw [hy2.self]; exact hy2) hge
    rw [← hv] at H'
    have hrun2 := run_append_op (P := P) (o := o) (x := x) (y := y) (t := t) (a := a) ho (by rw [hx', hy']; exact hrun)
    unfold Oper.wp
    rw [hrun2]
    refine hn _ _ ρ' _ _ (hK hg (grownCap w (l + m) c e) hge) ⟨ha, H', ?_⟩
    have := Den.news (h := st.h) (d := grown ci l m ei.size v z (grownCap w (l + m) c e)) (l := l + m) (c := grownCap w (l + m) c e) (ρ := ρ') (List.getElem?_eq_some_iff.1 hi).1 (by rw [hρ])
    rw [hρ] at this
    exact this
end
end Go.Proofs.Ytfpmmahonddpoaa.Sx
