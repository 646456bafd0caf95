
/-
  The document's air as one stretch: its slice is told, its mails lie behind it.
-/
import Derived.Test.YtgikbmohmomgbaaAirZ
import Derived.Test.YtgikbmohmomgbaaSRow
set_option linter.unusedVariables false
set_option linter.unusedSimpArgs false
namespace Go.Proofs.Ytgikbmohmomgbaa.Sx
open Go Go.RowKit

/-- The same cells, written otherwise. -/
theorem HOK.eqv {X : Ctx} {ρ : Nat → Nat × Nat} {h : List (Option Chunk)} {w : World} {i : Nat} {c d : Chunk} (H : HOK X ρ h w) (hi : h[i]? = some (some c)) (ho : d.own = c.own) (hn : d.n = c.n) (hx : d.x = c.x) (hf : ∀ j, j < d.n → ∀ r, den1 r (d.f j) = den1 r (c.f j)) : HOK X ρ (h.set i (some d)) w := by
  have hl := (List.getElem?_eq_some_iff.1 hi).1
  have get : ∀ k e, (h.set i (some d))[k]? = some (some e) → (k = i ∧ e = d) ∨ (k ≠ i ∧ h[k]? = some (some e)) := fun k e hk => by
    by_cases ek : i = k
    · subst ek
      rw [List.getElem?_set_self hl] at hk
      exact .inl ⟨rfl, by simpa using hk.symm⟩
    · rw [List.getElem?_set_ne ek] at hk
      exact .inr ⟨fun h => ek h.symm, hk⟩
  have fil : ∀ k, Fil h k → Fil (h.set i (some d)) k := fun k hk => hk.set
  obtain ⟨S, E⟩ := H.ext
  refine ⟨H.evo, fun k hk => ⟨fil k (H.base k hk).1, (H.base k hk).2⟩, fun k e hk => ?_, fun k e hk j hj => ?_, fun k e hk hoe j hj => ?_, fun k e l f hk hoe hlf hne => ?_, S, fun k e hk => ?_, fun k e b hk hS => ?_, fun k e b l f hk hS hlf hne => ?_⟩
  · rcases get k e hk with ⟨rfl, rfl⟩ | ⟨_, gk⟩
    · exact H.lt _ _ hi
    · exact H.lt _ _ gk
  · rcases get k e hk with ⟨rfl, rfl⟩ | ⟨_, gk⟩
    · obtain ⟨x, hx1, hx2⟩ := H.cell _ _ hi j (by omega)
      exact ⟨x, hx1, fun r hr => by rw [hf j hj r]; exact hx2 r fun q hq => hr q (fil q hq)⟩
    · obtain ⟨x, hx1, hx2⟩ := H.cell _ _ gk j hj
      exact ⟨x, hx1, fun r hr => hx2 r fun q hq => hr q (fil q hq)⟩
  · rcases get k e hk with ⟨rfl, rfl⟩ | ⟨_, gk⟩
    · exact H.own _ _ hi (by rw [← ho]; exact hoe) j (by omega)
    · exact H.own _ _ gk hoe j hj
  · rcases get k e hk with ⟨rfl, rfl⟩ | ⟨_, gk⟩ <;> rcases get l f hlf with ⟨rfl, rfl⟩ | ⟨_, gl⟩
    · exact absurd rfl hne
    · exact H.sep _ _ _ _ hi (by rw [← ho]; exact hoe) gl hne
    · exact H.sep _ _ _ _ gk hoe hi hne
    · exact H.sep _ _ _ _ gk hoe gl hne
  · rcases get k e hk with ⟨rfl, rfl⟩ | ⟨_, gk⟩
    · rw [hx]; exact E.inv _ _ hi
    · exact E.inv _ _ gk
  · rcases get k e hk with ⟨rfl, rfl⟩ | ⟨_, gk⟩
    · rw [hn]; exact E.mine _ _ _ hi hS
    · exact E.mine _ _ _ gk hS
  · rcases get k e hk with ⟨rfl, rfl⟩ | ⟨_, gk⟩ <;> rcases get l f hlf with ⟨rfl, rfl⟩ | ⟨_, gl⟩
    · exact absurd rfl hne
    · exact E.apart _ _ _ _ _ hi hS gl hne
    · exact E.apart _ _ _ _ _ gk hS hi hne
    · exact E.apart _ _ _ _ _ gk hS gl hne
/-- The row of the mails L behind a slice. -/
def okR (L : List Ml) : Option Sl → Chunk → Prop
  | none, _ => False
  | some s, d => s.n = L.length ∧ 1 ≤ s.c ∧ s.n ≤ s.c ∧ ∃ T : Nat → Ml, (∀ i m, L[i]? = some m → T i = m) ∧ d = mlA true s.c T
/-- The document's air: the slice u, the mails L behind it. -/
abbrev refC (u : Option Sl) (L : List Ml) : Chunk := @Chunk.mk (rowX (okR L u) u) true 1 [(0, 1, uV u)]
theorem mlc_den (m : Ml) (k : Nat) (r r' : Nat → Nat × Nat) : den1 r (mlc m k) = den1 r' (mlc m k) := mlc_eqv m k r r'
/-- The slice of the document's air and its mails. -/
def UOK (u : Option Sl) (L : List Ml) : Prop := uN u = L.length ∧ ∀ s, u = some s → s.sp = none
theorem UOK.nil : UOK none [] := ⟨rfl, fun s hs => by cases hs⟩
/-- Opened, whatever else there is. -/
theorem ref_open {X : Ctx} {ρ : Nat → Nat × Nat} {h : List (Option Chunk)} {w : World} {k : Nat} {u : Option Sl} {L : List Ml} (H : HOK X ρ h w) (h0 : h[0]? = some (some (refC u L))) (hu : uN u = L.length) (hk : ∀ d, h[k]? ≠ some (some d)) (hb0 : X.n0 ≤ k) (hk0 : k ≠ 0)
    (o : Option (Nat × (Nat → Ml)) → List (Option Chunk)) (o0 : (o none)[0]? = some (some (airC true (.slice none 0 0)))) (o1 : ∀ c T, (o (some (c, T)))[0]? = some (some (airC true (.slice (some ⟨k, 0, some 0⟩) L.length c)))) (ok_ : ∀ c T, (o (some (c, T)))[k]? = some (some (mlA true c T)))
    (oo : ∀ β j d, j ≠ 0 → j ≠ k → ((o β)[j]? = some (some d) ↔ h[j]? = some (some d))) (on : ∀ d, (o none)[k]? ≠ some (some d)) :
    ∃ β, airOK L β ∧ ∃ ρ', AgreeOn (Fil h) ρ ρ' ∧ (∀ i, Fil h i → Fil (o β) i) ∧ HOK X ρ' (o β) w := by
  cases u with
  | none =>
    have hL : L = [] := List.length_eq_zero_iff.1 hu.symm
    have H1 := H.eqv (d := airC true (.slice none 0 0)) h0 rfl rfl rfl (fun j hj r => by
      have hj : j < 1 := hj
      obtain rfl : j = 0 := by omega
      rfl)
    have hl := (List.getElem?_eq_some_iff.1 h0).1
    have hs : SameH (h.set 0 (some (airC true (.slice none 0 0)))) (o none) := fun j d => by
      by_cases e0 : j = 0
      · subst e0; rw [o0, List.getElem?_set_self hl]
      · rw [List.getElem?_set_ne (Ne.symm e0)]
        by_cases e1 : j = k
        · subst e1; exact ⟨fun h => absurd h (on d), fun h => absurd h (hk d)⟩
        · exact oo none j d e0 e1
    exact ⟨none, hL, ρ, AgreeOn.refl _ _, fun j hj => (hs.fil j).2 hj.set, H1.same hs⟩
  | some s =>
    obtain ⟨S, E⟩ := H.ext
    have hV : (rowX (okR L (some s)) (some s)).inv (ρ 0) (S 0) w := E.inv 0 _ h0
    obtain ⟨hS, hsp, d, K⟩ := hV
    obtain ⟨b1, b2, b3, T, hT, rfl⟩ := K.ok
    obtain ⟨d', ρ', hd', ha, hf, H'⟩ := row_open (ok := fun d => okR L (some s) d) (i := 0) (k := k) (e := refC (some s) L) (a := fun d => airC true (.slice (some ⟨k, 0, some 0⟩) L.length s.c)) (s := s) H h0 rfl (by show 0 < 1; decide) hk hb0 (fun d _ => ⟨rfl, rfl, rfl⟩) (fun d _ r hr j hj => by
        have hj : j < 1 := hj
        obtain rfl : j = 0 := by omega
        show Value.slice (some ⟨(r k).1, (r k).2 + 0, none⟩) L.length s.c = uR (some s)
        rw [hr, ← b1]
        show Value.slice (some ⟨s.b, s.o + 0, none⟩) s.n s.c = .slice (some ⟨s.b, s.o, s.sp⟩) s.n s.c
        rw [hsp, Nat.add_zero]) (fun d => (h.set 0 (some (airC true (.slice (some ⟨k, 0, some 0⟩) L.length s.c))) ++ List.replicate (k + 1 - h.length) none).set k (some d)) (fun d => by
          have hl := (List.getElem?_eq_some_iff.1 h0).1
          rw [List.getElem?_set_ne hk0, List.getElem?_append_left (by simpa using hl), List.getElem?_set_self hl]) (fun d => by
          rw [List.getElem?_set_self (by simp; omega)]) (fun d j c hj0 hjk => by
          rw [List.getElem?_set_ne (Ne.symm hjk), List.getElem?_append, List.length_set]
          split
          · rw [List.getElem?_set_ne (Ne.symm hj0)]
          · rename_i hge
            rw [List.getElem?_eq_none (l := h) (by omega), List.getElem?_replicate]
            split <;> simp)
    obtain ⟨e1, e2, e3, T', hT', rfl⟩ := hd'
    have hl := (List.getElem?_eq_some_iff.1 h0).1
    have hs : SameH ((h.set 0 (some (airC true (.slice (some ⟨k, 0, some 0⟩) L.length s.c))) ++ List.replicate (k + 1 - h.length) none).set k (some (mlA true s.c T'))) (o (some (s.c, T'))) := fun j c => by
      by_cases j0 : j = 0
      · subst j0
        rw [o1, List.getElem?_set_ne hk0, List.getElem?_append_left (by simpa using hl), List.getElem?_set_self hl]
      · by_cases jk : j = k
        · subst jk
          rw [ok_, List.getElem?_set_self (by simp; omega)]
        · rw [oo _ j c j0 jk, List.getElem?_set_ne (Ne.symm jk), List.getElem?_append, List.length_set]
          split
          · rw [List.getElem?_set_ne (Ne.symm j0)]
          · rename_i hge
            rw [List.getElem?_eq_none (l := h) (by omega), List.getElem?_replicate]
            split <;> simp
    exact ⟨some (s.c, T'), ⟨e2, by rw [← e1]; exact e3, hT'⟩, ρ', ha, fun j hj => (hs.fil j).2 (hf j hj), H'.same hs⟩
theorem closeH_at {pc : Chunk} {m : Nat} {keep : List Nat} : ∀ {h : List (Option Chunk)} {i0 k : Nat}, k < h.length → i0 + k = m → (closeH pc m keep h i0)[k]? = some (some pc)
  | [], i0, k, hl, _ => by simp at hl
  | x :: r, i0, 0, _, hk => by
    have e : Nat.beq i0 m = true := by rw [← hk]; exact Nat.beq_refl _
    simp only [closeH, List.getElem?_cons_zero, e]
  | x :: r, i0, k + 1, hl, hk => by
    simp only [closeH, List.getElem?_cons_succ]
    exact closeH_at (by simpa using hl) (by omega)
/-- A callee's end: the document's air is closed, its mails lie in the stretch k. -/
theorem refCloseS {ss : List Piece} {h : List (Option Chunk)} {v : Value} {K : Value → List (Option Chunk) → Prop} (L : List Ml) (keep : List Nat) (k c : Nat) (T : Nat → Ml) {a b : Chunk} (hbs : ∀ i, i < ss.length → i = 0 ∨ i ∈ keep) (hks : ss.length ≤ k) (hk0 : k ≠ 0)
    (hkk : ∀ x ∈ keep, x ≠ 0 ∧ x ≠ k) (hc : 1 ≤ c) (hl : L.length ≤ c) (hT : ∀ i m, L[i]? = some m → T i = m) (h0 : h[0]? = some (some a)) (ha : a.own = true) (hax : a.x = Ext.none) (hn : a.n = 1) (haf : a.f 0 = .slice (some ⟨k, 0, some 0⟩) L.length c)
    (hk : h[k]? = some (some b)) (hb : b.own = true) (hbx : b.x = Ext.none) (hbn : c * 5 ≤ b.n) (hbf : ∀ j, j < c * 5 → Eqv (b.f j) (mlc (T (j / 5)) (j % 5)))
    (hkd : ∀ u, ∀ x ∈ keep, ∀ (d : Chunk), h[x]? = some (some d) → ∀ j, j < d.n → Safe1 (closeH (refC u L) 0 keep h 0) (d.f j))
    (hv : ∀ u, ∀ ρ ρ', AgreeOn (Fil (closeH (refC u L) 0 keep h 0)) ρ ρ' → den ρ' v = den ρ v) (kk : ∀ s : Sl, s.n = L.length → s.sp = none → K v (closeH (refC (some s) L) 0 keep h 0)) : N (EndN ss h v K) := N.mk fun X ρ w x Td H hd => by
  refine ⟨v, closeH (refC (some ⟨(ρ k).1, (ρ k).2, L.length, c, none⟩) L) 0 keep h 0, ρ, ?_, fun r hr => ?_, kk _ rfl rfl⟩
  · have hlt := (List.getElem?_eq_some_iff.1 h0).1
    refine row_close (ok := okR L (some ⟨(ρ k).1, (ρ k).2, L.length, c, none⟩)) (d := mlA true c T) (eu := refC (some ⟨(ρ k).1, (ρ k).2, L.length, c, none⟩) L) (n := L.length) (c := c) H h0 hk hk0 ha hax hb hbx (Td.may H hk hb (by omega) hks) (by omega) ⟨rfl, hc, hl, T, hT, rfl⟩ ⟨rfl, rfl, hbn⟩ (fun j hj r r' => by
        have hj : j < c * 5 := hj
        rw [seg_cell hj]
        exact hbf j hj r r') ⟨rfl, hn.symm, rfl⟩ (fun j hj r hr => by
        have hj : j < 1 := by omega
        obtain rfl : j = 0 := by omega
        rw [haf]; rfl) (closeH_at hlt (by omega)) (fun j f hj0 hf => ?_) (fun j hj => ?_)
    · rcases closeH_get hf with ⟨h1, _⟩ | ⟨h1, h2, h3⟩
      · omega
      · rw [Nat.zero_add] at h2
        exact ⟨(hkk j h2).2, h3, fun q hq => (hkd _ j h2 f h3 q hq).inScope⟩
    · rcases hbs j (by have := Td.n0; omega) with rfl | h1
      · exact ⟨_, closeH_at hlt (by omega)⟩
      · obtain ⟨g, hg⟩ := (H.base j hj).1
        exact closeH_fil (List.getElem?_eq_some_iff.1 hg).1 (.inr ⟨by rw [Nat.zero_add]; exact h1, g, hg⟩)
  · rw [hv _ ρ r hr]; exact hd.self
section
variable {o : Oper} {st : St}
/-- A mail is read through the slice. -/
theorem ok_loadM {t : TypeId} {x : Operand} {s : Sl} {L : List Ml} {i p f : Nat} {m : Ml} (ho : o.op = .load t x) (hx : EvTo x st (.pointer (some ⟨s.b, f, none⟩))) (hf : f = s.o + p * 5) (hi : st.h[i]? = some (some (refC (some s) L)))
    (ht : lookT tys t fun ti d => isAggD d = true ∧ ti.size = 5) (hm : L[p]? = some m) : OKs Try.prog o st m.v [] [i] := fun st₂ hs hh _ =>
  eff_pure fun X ρ a w R => by
    have hi2 : st₂.h[i]? = some (some (refC (some s) L)) := (hh i (by simp)).trans hi
    have hx' := ev_real (hs x (by simp [ho, Op.operands]) _ hx) rfl R
    obtain ⟨ti, d, h1, h2, hd, hsz⟩ := lookT_out tysOK ht
    obtain ⟨S, E⟩ := R.heap.ext
    have hV : (rowX (okR L (some s)) (some s)).inv (ρ i) (S i) w := E.inv i _ hi2
    obtain ⟨hS, hsp, d, K⟩ := hV
    obtain ⟨b1, b2, b3, T, hT, rfl⟩ := K.ok
    have hp : p < L.length := (List.getElem?_eq_some_iff.1 hm).1
    have hTp := hT p m hm
    have hcells : ∀ j v, (m.v.cells.toList.map (den1 ρ))[j]? = some v → w.cell? ((⟨s.b, f, none⟩ : Addr).add j) = some v := fun j v hv => by
      have hj : j < 5 := by have := (List.getElem?_eq_some_iff.1 hv).1; rw [List.length_map] at this; exact this
      have hb : p * 5 + j < s.c * 5 := by omega
      obtain ⟨y, hy1, hy2⟩ := K.cell (p * 5 + j) hb
      rw [add_at, hf, Nat.add_assoc, hy1, ← hy2 ρ, seg_cell hb, show (p * 5 + j) / 5 = p from by omega, show (p * 5 + j) % 5 = j from by omega, hTp]
      rw [List.getElem?_map] at hv
      match j, hj with
      | 0, _ => exact hv
      | 1, _ => exact hv
      | 2, _ => exact hv
      | 3, _ => exact hv
      | 4, _ => exact hv
    refine ⟨den ρ m.v, ?_, fun r _ => ?_⟩
    · simp only [execOp, ho, hx', Instr.loadAt, Instr.sureAddr, loadVar, Sem.run_bind, Sem.run_pure, Result.andThen_ok, run_isAgg h2, hd, if_true, run_sizeOf h1, hsz]
      have hl5 : (m.v.cells.toList.map (den1 ρ)).length = 5 := rfl
      rw [← hl5, run_loadCells_list _ _ _ hcells]
      have e : den ρ m.v = .agg (List.map (den1 ρ) m.v.cells.toList).toArray := by
        show Value.agg (#[.int .i64 m.to_, uV m.u, .int .i64 m.at_, .int .i64 m.tr, .bool m.be].map (den1 ρ)) = _
        rw [List.map_toArray]; rfl
      rw [e]; rfl
    · rw [mailV_den, mailV_den]
end
end Go.Proofs.Ytgikbmohmomgbaa.Sx
