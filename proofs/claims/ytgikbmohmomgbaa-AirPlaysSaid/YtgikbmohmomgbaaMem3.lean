
/-
  Arguments that are slices of byte strings.
-/
import Derived.Test.YtgikbmohmomgbaaMem2
import Derived.Test.YtgikbmohmomgbaaBase
set_option linter.unusedVariables false
set_option linter.unusedSimpArgs false
namespace Go.Proofs.Ytgikbmohmomgbaa
open Go Go.RowKit Sx

/-- A slice of bytes in memory that reads as data. -/
theorem inner_bytes {H : Type} {enc : TypeId × Value → H} {W : World} {fuel : Nat} {v : Value} {x : DataW H × List MemPlace} (hf : DataW.trod enc Try.prog W 0 (fun _ => true) true fuel 26 [v] = some x) : ∃ u bs, v = uR u ∧ Src W [] u bs := by
  rcases Deep.open_slice Try.underlying26 hf with ⟨hcs, hx⟩ | ⟨a, len, cap, m, n, D, Pl, hcs, hb, hl, hm, hmm, hx, hi⟩
  · obtain rfl : v = .slice none 0 0 := by simpa using hcs
    exact ⟨none, [], rfl, .nil⟩
  · obtain rfl : v = .slice (some a) len cap := by simpa using hcs
    have hmc : m = cap := by simpa using hmm
    subst hmc
    have hC : Try.prog.cellsOf 5 = 1 := by kernel_rfl
    rw [hC] at hi
    have key : ∀ i, i < len → ∃ z, W.cell? (a.add i) = some (.int .u8 z) := fun i hil => by
      obtain ⟨cs', hc, ht'⟩ := hi i (by omega)
      obtain ⟨_, hcl, hat⟩ := World.cells?_some hc
      obtain ⟨z, hz, _, _⟩ := DataW.trod_int Try.underlying5 ht'
      have := hat 0 (by omega)
      rw [hz, Nat.mul_one] at this
      have e : (a.add i).add 0 = a.add i := by simp [Addr.add]
      rw [e] at this
      exact ⟨z, by simpa using this⟩
    obtain ⟨b, o, sp⟩ := a
    have hsp : sp = none ∨ len = 0 := by
      cases sp with
      | none => exact .inl rfl
      | some t =>
        rcases Nat.eq_zero_or_pos len with h0 | h0
        · exact .inr h0
        · obtain ⟨z, hz⟩ := key 0 h0
          simp [Addr.add, World.cell?] at hz
          split at hz <;> simp at hz
    refine ⟨some ⟨b, o, len, m, sp⟩, (List.range len).map (fun j => intOf ((W.cell? ⟨b, o + j, none⟩).getD undef)), rfl, .old (by simp) hsp fun j hj => ?_⟩
    have hj : j < len := by simpa using hj
    rcases hsp with rfl | h0
    · obtain ⟨z, hz⟩ := key j hj
      rw [add_at] at hz
      have hz : W.cell? ⟨b, o + j, none⟩ = some (.int .u8 z) := hz
      show W.cell? ⟨b, o + j, none⟩ = _
      rw [hz]
      simp [List.getD_eq_getElem?_getD, hj, hz, intOf]
    · omega
/-- An argument that is a slice of byte strings. -/
theorem open_bytess {H : Type} {enc : TypeId × Value → H} {W : World} {r : Reach} {base : Nat} {v : Value} {d : DataW H} {p : List MemPlace} (hv : Value.okWide Try.prog W r base 22 v) (h : DataW.Trod enc Try.prog W 0 (fun _ => true) true 22 v d p) :
    v = .slice none 0 0 ∨ ∃ (b o n cap : Nat) (U : Nat → Option Sl) (B : Nat → List Int), v = .slice (some ⟨b, o, none⟩) n cap ∧ n ≤ 9223372036854775807 ∧ b < W.heap.size ∧ ∀ i, i < n → W.cell? ⟨b, o + i, none⟩ = some (uR (U i)) ∧ Src W [] (U i) (B i) := by
  have hsh := slice_shape Try.underlying22 hv
  obtain ⟨A, n, cap, f, rfl, hl, hm, hd, hseg, hrow⟩ := open_rows (C := 1) Try.underlying22 (by kernel_rfl) h hsh
  cases A with
  | none =>
    obtain ⟨rfl, rfl⟩ := okWide_nil Try.underlying22 hv
    exact .inl rfl
  | some a =>
    obtain ⟨h1, h2, _⟩ := okWide_seen Try.underlying22 hv
    obtain ⟨b, o, sp⟩ := a
    have h1 : sp = none := h1
    subst h1
    have key : ∀ i, i < n → ∃ u bs, f i = uR u ∧ Src W [] u bs := fun i hi => by
      obtain ⟨x, fuel, cs, ht, hcl, hc⟩ := hrow i hi
      have h0 := hc 0 (by omega)
      rw [Nat.mul_one, Nat.add_zero] at h0
      match cs, hcl with
      | [w0], _ =>
        obtain rfl : w0 = f i := by simpa using h0
        exact inner_bytes ht
    refine .inr ⟨b, o, n, cap, fun i => if h : i < n then (key i h).choose else none, fun i => if h : i < n then (key i h).choose_spec.choose else [], rfl, by simp only [maxLen] at hm; omega, h2, fun i hi => ?_⟩
    simp only [dif_pos hi]
    obtain ⟨e1, e2⟩ := (key i hi).choose_spec.choose_spec
    refine ⟨?_, e2⟩
    obtain ⟨x, hx, _, hc⟩ := hseg (by omega)
    obtain rfl : (⟨b, o, none⟩ : Addr) = x := by simpa using hx
    have := hc i (by omega)
    rw [add_at] at this
    rw [this]; exact congrArg some e1
section
variable {o : Oper} {st : St}
/-- A slice in memory is read. -/
theorem ok_loadU {t : TypeId} {x : Operand} {b f i : Nat} {W : World} {F : List By} {u : Option Sl} (ho : o.op = .load t x) (hx : EvTo x st (.pointer (some ⟨b, f, none⟩))) (hi : st.h[i]? = some (some (memC W F)))
    (ht : lookT tys t fun _ d => isAggD d = false) (hk : Known W F b f (uR u)) : OKs Try.prog o st (uV u) [] [i] := fun st₂ hs hh _ =>
  eff_pure fun X ρ a w R => by
    have hi2 : st₂.h[i]? = some (some (memC W F)) := (hh i (by simp)).trans hi
    have hx' := ev_real (hs x (by simp [ho, Op.operands]) _ hx) rfl R
    obtain ⟨ti, d, _, h2, hd⟩ := lookT_out tysOK ht
    obtain ⟨S, E⟩ := R.heap.ext
    have hy := hk _ _ _ (E.inv i _ hi2)
    refine ⟨uR u, ?_, fun r _ => uV_den u r⟩
    simp only [execOp, ho, hx', Instr.loadAt, Instr.sureAddr, loadVar, Sem.run_bind, Sem.run_pure, Result.andThen_ok, run_isAgg h2, hd, Bool.false_eq_true, if_false, run_load, hy]
theorem run_append_none {w : World} {ty : TypeId} (a : Addr) (u : Option Sl) (h0 : uN u = 0) (hs : ∀ s, u = some s → True) : (Builtin.append_ #[26, 26] ty #[.slice (some a) 0 0, uR u]).run Try.prog w = .ok (.slice (some a) 0 0) w := by
  obtain ⟨i0, hi0, hz0, hz1, hz2⟩ := info_parts Try.info_u8
  cases u with
  | none => simp [uR, Builtin.append_, run_underlying Try.underlying26, sizeOf, typeInfo, hi0, Builtin.lenOf, run_firstCells_none, storeCells]
  | some s =>
    have h0 : s.n = 0 := h0
    have hf := run_firstCells_some (P := Try.prog) w 1 0 ⟨s.b, s.o, s.sp⟩ 0 s.c [] (by simp) (by simp)
    simp [uR, h0, Builtin.append_, run_underlying Try.underlying26, sizeOf, typeInfo, hi0, hz1, Builtin.lenOf, hf, storeCells]
/-- Bytes behind nothing: a copy. -/
theorem eff_appB {x y : Operand} {k s i : Nat} {ck : Chunk} {W : World} {F : List By} {u : Option Sl} {bs : List Int} {K : Value → List (Nat × Chunk) → Prop} (ho : o.op = .call ⟨.builtin .append, #[x, y], #[26, 26]⟩) (hx : EvTo x st (.slice (some ⟨k, 0, some s⟩) 0 0)) (hck : st.h[k]? = some (some ck)) (hy : EvTo y st (uV u)) (hi : st.h[i]? = some (some (memC W F))) (hs : Src W F u bs) (hm : bs.length ≤ 1048576)
    (hK0 : bs = [] → K (.slice (some ⟨k, 0, some s⟩) 0 0) []) (hK1 : ∀ g c, g ∉ F.map By.b → bs ≠ [] → K (uV (By.mk g c bs).s) [(i, memC W (⟨g, c, bs⟩ :: F))]) : EffAll Try.prog o st K := fun X ρ a w R next Q hn => by
  obtain ⟨i0, hi0, hz0, hz1, hz2⟩ := info_parts Try.info_u8
  have hx' : a.eval x = .slice (some ⟨(ρ k).1, (ρ k).2 + 0, none⟩) 0 0 := (hx.den R).self.symm
  have hy' : a.eval y = uR u := by rw [← (hy.den R).self, uV_den]
  obtain ⟨S, E⟩ := R.heap.ext
  have M : MemOK W F (ρ i) (S i) w := E.inv i _ hi
  have hb := M.src hs
  by_cases h0 : bs = []
  · subst h0
    have hrun := run_append_op (P := Try.prog) (o := o) (x := x) (y := y) (a := a) (w := w) ho (by rw [hx', hy']; exact run_append_none _ u hb.1.symm (fun _ _ => trivial))
    unfold Oper.wp
    rw [hrun]
    refine hn _ _ ρ _ _ (hK0 rfl) ⟨AgreeOn.refl _ _, R.heap, fun r hr => ?_⟩
    have e := hr k ⟨ck, hck⟩
    simp [den, den2, den1, den0, denA, e]
  · cases u with
    | none => exact absurd (List.length_eq_zero_iff.1 hb.1) h0
    | some q =>
      obtain ⟨qb, qo, qn, qc, sp⟩ := q
      have hn' : bs.length = qn := hb.1
      have hpos : 0 < bs.length := List.length_pos_iff.2 h0
      have hsp : sp = none := by
        rcases (hb.2 _ rfl).1 with h1 | h1
        · exact h1
        · have h1 : qn = 0 := h1
          omega
      subst hsp hn'
      have hc : ∀ j v, (bs.map (Value.int .u8))[j]? = some v → w.cell? ((⟨qb, qo, none⟩ : Addr).add j) = some v := fun j v hv => by
        have hj : j < bs.length := by have := (List.getElem?_eq_some_iff.1 hv).1; simpa using this
        rw [add_at, (hb.2 _ rfl).2 j hj]
        rw [List.getElem?_map, List.getElem?_eq_getElem hj] at hv
        simp only [Option.map_some, Option.some.injEq] at hv
        rw [← hv]
        simp [List.getD_eq_getElem?_getD, hj]
      have hgo := run_append_grow (P := Try.prog) w 26 o.type 5 i0 (.int .u8 0) Try.underlying26 hi0 hz0 ⟨(ρ k).1, (ρ k).2 + 0, none⟩ 0 0 [] (by simp) (by simp) ⟨qb, qo, none⟩ bs.length qc (bs.map (Value.int .u8)) (by simp [hz1]) hc (by omega) (by omega) (by rw [Nat.zero_add, nextslicecap_zero hpos, hz2]; omega)
      have hrun := run_append_op (P := Try.prog) (o := o) (x := x) (y := y) (a := a) (w := w) ho (by rw [hx', hy']; exact hgo)
      have hge := grownCap_ge w (0 + bs.length) 0 5
      generalize hcap : grownCap w (0 + bs.length) 0 5 = cap at hrun hge
      have hB : Below w.heap.size w (w.drew.alloc (.cells ([].toArray ++ (bs.map (Value.int .u8)).toArray ++ Builtin.zeroCells (Value.int .u8 0).cells (cap - (0 + bs.length))) 5)) := ((Below.refl _ _).drew).alloc (Nat.le_refl _) _
      have hsz : w.drew.heap.size = w.heap.size := rfl
      have hat : ByAt (w.drew.alloc (.cells ([].toArray ++ (bs.map (Value.int .u8)).toArray ++ Builtin.zeroCells (Value.int .u8 0).cells (cap - (0 + bs.length))) 5)) ⟨w.heap.size, cap, bs⟩ := by
        refine ⟨by simp [World.alloc, hsz], fun j hj => ?_, fun j hj => ?_⟩
        · refine cell_alloc_at hsz.symm ?_
          have hj : j < bs.length := hj
          rw [Array.getElem?_append_left (by simpa using hj)]
          simp [List.getD_eq_getElem?_getD, hj]
        · have e := heap_alloc_new w.drew (.cells ([].toArray ++ (bs.map (Value.int .u8)).toArray ++ Builtin.zeroCells (Value.int .u8 0).cells (cap - (0 + bs.length))) 5)
          rw [hsz] at e
          simp only [World.frozen?, e]
          simp
      obtain ⟨hno, H'⟩ := mem_more (e := ⟨w.heap.size, cap, bs⟩) R.heap hi hB hat (Nat.le_refl _)
      unfold Oper.wp
      rw [hrun]
      refine hn _ _ ρ _ _ (hK1 w.heap.size cap hno h0) ⟨AgreeOn.refl _ _, H', fun r _ => ?_⟩
      rw [uV_den, Nat.zero_add]
      rfl
/-- No bytes, as a string. -/
theorem ok_strE {s d : TypeId} {x : Operand} {k f q c : Nat} (ho : o.op = .convert s d x) (hx : EvTo x st (.slice (some ⟨k, f, some q⟩) 0 c))
    (ht : lookT tys s fun _ sd => match sd with | .slice e => lookT tys e fun _ ed => ed = .int .u8 | _ => False) (hd : lookT tys d fun _ dd => dd = .string) : OKs Try.prog o st (.string (strOfNums [])) [] [] := fun st₂ hs2 hh _ =>
  eff_pure fun X ρ a w R => by
    have hx' : a.eval x = .slice (some ⟨(ρ k).1, (ρ k).2 + f, none⟩) 0 c := ((hs2 x (by simp [ho, Op.operands]) _ hx).den R).self.symm
    obtain ⟨_, sd, _, h1, ht⟩ := lookT_out tysOK ht
    obtain ⟨_, dd, _, h2, rfl⟩ := lookT_out tysOK hd
    split at ht
    · obtain ⟨_, ed, _, h3, rfl⟩ := lookT_out tysOK ht
      refine ⟨_, ?_, Den.plain rfl⟩
      have hl : (loadCells ⟨(ρ k).1, (ρ k).2 + f, none⟩ 0).run Try.prog w = .ok (([] : List Int).map (Value.int .u8)).toArray w := by simpa using run_loadCells_list (P := Try.prog) w ⟨(ρ k).1, (ρ k).2 + f, none⟩ [] (by simp)
      simp only [execOp, ho, hx', Sem.run_bind, Sem.run_pure, Result.andThen_ok]
      rw [run_convert_bytes_string w s d _ _ 0 c h1 h3 h2, run_bytesToString w _ 0 c [] hl]
      rfl
    · exact ht.elim
end
end Go.Proofs.Ytgikbmohmomgbaa
