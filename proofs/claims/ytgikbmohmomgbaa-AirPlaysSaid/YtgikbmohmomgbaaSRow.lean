
/-
  A struct with a row behind one slice: the row's block lies with the struct; a callee opens it, and closes it at its end.
-/
import Derived.Test.YtgikbmohmomgbaaPack
import Derived.Test.YtgikbmohmomgbaaMem
set_option linter.unusedVariables false
set_option linter.unusedSimpArgs false
namespace Go.Proofs.Ytgikbmohmomgbaa.Sx
open Go Go.RowKit

/-- A row that is known: a chunk whose cells lie behind the slice. -/
structure RowOK (ok : Chunk → Prop) (s : Sl) (w : World) (d : Chunk) : Prop where
  ok : ok d
  own : d.own = true
  x : d.x = Ext.none
  cell : ∀ j, j < d.n → ∃ x, w.cell? ⟨s.b, s.o + j, none⟩ = some x ∧ ∀ r, den1 r (d.f j) = x
  fz : ∀ j, j < d.n → w.frozen? ⟨s.b, s.o + j, none⟩ = false
/-- What lies behind a slice (nothing, where there is none). -/
@[reducible] def rowX (ok : Chunk → Prop) : Option Sl → Ext
  | none => Ext.none
  | some s => { inv := fun p S w => (∀ b, S b ↔ b = s.b) ∧ s.sp = none ∧ ∃ d, RowOK ok s w d
                keep := fun {p S w w'} hh hb => ⟨hh.1, hh.2.1, by
                  obtain ⟨d, K⟩ := hh.2.2
                  have e := hb s.b ((hh.1 _).2 rfl)
                  refine ⟨d, K.ok, K.own, K.x, fun j hj => ?_, fun j hj => ?_⟩
                  · obtain ⟨x, hx, hd⟩ := K.cell j hj
                    exact ⟨x, by rw [← hx]; exact cellM_same e, hd⟩
                  · rw [← K.fz j hj]; exact frozM_same e⟩ }
theorem rowX_ne (ok : Chunk → Prop) (s : Sl) : rowX ok (some s) ≠ Ext.none := fun e => by
  have h1 : ∀ p S w, (rowX ok (some s)).inv p S w → S s.b := fun p S w h => (h.1 _).2 rfl
  have h2 : ∀ p S w, (rowX ok (some s)).inv p S w → ∀ b, ¬ S b := by rw [e]; exact fun p S w h => h
  have h3 : ∀ p S w, ¬ (rowX ok (some s)).inv p S w := fun p S w h => h2 p S w h _ (h1 p S w h)
  rw [e] at h3
  exact h3 (0, 0) (fun _ => False) default fun _ h => h
section
variable {X : Ctx} {ρ : Nat → Nat × Nat} {h h' : List (Option Chunk)} {w : World}
open Classical in
/-- Opened: the row is a chunk of its own. -/
theorem row_open {ok : Chunk → Prop} {i k : Nat} {e : Chunk} {a : Chunk → Chunk} {s : Sl} (H : HOK X ρ h w) (hi : h[i]? = some (some e)) (hx : e.x = rowX ok (some s)) (hn : 0 < e.n) (hk : ∀ d, h[k]? ≠ some (some d)) (hb0 : X.n0 ≤ k)
    (ha : ∀ d, ok d → (a d).own = e.own ∧ (a d).n = e.n ∧ (a d).x = Ext.none) (haf : ∀ d, ok d → ∀ r, r k = (s.b, s.o) → ∀ j, j < e.n → den1 r ((a d).f j) = den1 r (e.f j))
    (h1 : Chunk → List (Option Chunk)) (h1i : ∀ d, (h1 d)[i]? = some (some (a d))) (h1k : ∀ d, (h1 d)[k]? = some (some d)) (h1o : ∀ d j c, j ≠ i → j ≠ k → ((h1 d)[j]? = some (some c) ↔ h[j]? = some (some c))) :
    ∃ d ρ', ok d ∧ AgreeOn (Fil h) ρ ρ' ∧ (∀ j, Fil h j → Fil (h1 d) j) ∧ HOK X ρ' (h1 d) w := by
  obtain ⟨S, E⟩ := H.ext
  have hV := E.inv i e hi
  rw [hx] at hV
  obtain ⟨hS, hsp, d, K⟩ := hV
  have hki : k ≠ i := fun e' => hk e (e' ▸ hi)
  have hSb : S i s.b := (hS _).2 rfl
  obtain ⟨m1, m2, m3⟩ := E.mine i e s.b hi hSb
  let ρ' : Nat → Nat × Nat := fun j => if j = k then (s.b, s.o) else ρ j
  have ρk : ρ' k = (s.b, s.o) := if_pos rfl
  have ρo : ∀ j, j ≠ k → ρ' j = ρ j := fun j hj => if_neg hj
  have nk : ∀ j, Fil h j → j ≠ k := fun j ⟨c, hc⟩ e' => hk c (e' ▸ hc)
  have fil : ∀ j, Fil h j → Fil (h1 d) j := fun j hj => by
    by_cases e1 : j = i
    · exact ⟨_, e1 ▸ h1i d⟩
    · obtain ⟨c, hc⟩ := hj
      exact ⟨c, (h1o d j c e1 (nk j ⟨c, hc⟩)).2 hc⟩
  have ag : ∀ r, AgreeOn (Fil (h1 d)) ρ' r → AgreeOn (Fil h) ρ r := fun r hr j hj => (hr j (fil j hj)).trans (ρo j (nk j hj))
  obtain ⟨o1, o2, o3⟩ := ha d K.ok
  have get : ∀ j c, (h1 d)[j]? = some (some c) → (j = i ∧ c = a d) ∨ (j = k ∧ c = d) ∨ (j ≠ i ∧ j ≠ k ∧ h[j]? = some (some c)) := fun j c hc => by
    by_cases e1 : j = i
    · subst e1; rw [h1i d] at hc; exact .inl ⟨rfl, by simpa using hc.symm⟩
    · by_cases e2 : j = k
      · subst e2; rw [h1k d] at hc; exact .inr (.inl ⟨rfl, by simpa using hc.symm⟩)
      · exact .inr (.inr ⟨e1, e2, (h1o d j c e1 e2).1 hc⟩)
  refine ⟨d, ρ', K.ok, fun j hj => ρo j (nk j hj), fil, H.evo, fun j hj => ?_, fun j c hc => ?_, fun j c hc q hq => ?_, fun j c hc ho q hq => ?_, fun j c l f hc ho hl hne => ?_, fun j b => j ≠ i ∧ j ≠ k ∧ S j b, fun j c hc => ?_, fun j c b hc hSb' => ?_, fun j c b l f hc hSb' hl hne => ?_⟩
  · obtain ⟨f1, f2⟩ := H.base j hj
    exact ⟨fil j f1, (ρo j (nk j f1)).trans f2⟩
  · rcases get j c hc with ⟨rfl, rfl⟩ | ⟨rfl, rfl⟩ | ⟨e1, e2, gc⟩
    · rw [ρo _ (Ne.symm hki)]; exact H.lt _ _ hi
    · rw [ρk]; exact m2
    · rw [ρo _ e2]; exact H.lt _ _ gc
  · rcases get j c hc with ⟨rfl, rfl⟩ | ⟨rfl, rfl⟩ | ⟨e1, e2, gc⟩
    · rw [ρo _ (Ne.symm hki)]
      rw [o2] at hq
      obtain ⟨x, hx1, hx2⟩ := H.cell _ _ hi q hq
      refine ⟨x, hx1, fun r hr => ?_⟩
      rw [haf d K.ok r ((hr k ⟨_, h1k d⟩).trans ρk) q hq]
      exact hx2 r (ag r hr)
    · rw [ρk]
      obtain ⟨x, hx1, hx2⟩ := K.cell q hq
      exact ⟨x, hx1, fun r _ => hx2 r⟩
    · rw [ρo _ e2]
      obtain ⟨x, hx1, hx2⟩ := H.cell _ _ gc q hq
      exact ⟨x, hx1, fun r hr => hx2 r (ag r hr)⟩
  · rcases get j c hc with ⟨rfl, rfl⟩ | ⟨rfl, rfl⟩ | ⟨e1, e2, gc⟩
    · rw [ρo _ (Ne.symm hki)]
      rw [o2] at hq
      exact H.own _ _ hi (by rw [← o1]; exact ho) q hq
    · rw [ρk]
      exact ⟨K.fz q hq, m3.imp id fun h => h.2 _⟩
    · rw [ρo _ e2]; exact H.own _ _ gc ho q hq
  · rcases get j c hc with ⟨rfl, rfl⟩ | ⟨rfl, rfl⟩ | ⟨e1, e2, gc⟩ <;> rcases get l f hl with ⟨rfl, rfl⟩ | ⟨rfl, rfl⟩ | ⟨e3, e4, gl⟩
    · exact absurd rfl hne
    · rw [ρo _ hne, ρk]
      rcases m1 with m1 | m1
      · omega
      · exact fun h => m1 h.symm
    · rw [ρo _ (Ne.symm hki), ρo _ e4]; exact H.sep _ _ _ _ hi (by rw [← o1]; exact ho) gl hne
    · rw [ρo _ (Ne.symm hne), ρk]
      rcases m1 with m1 | m1
      · omega
      · exact fun h => m1 h
    · exact absurd rfl hne
    · rw [ρk, ρo _ e4]
      exact fun h => (E.apart i e s.b l f hi hSb gl e3).1 h.symm
    · rw [ρo _ e2, ρo _ (Ne.symm hki)]; exact H.sep _ _ _ _ gc ho hi e1
    · rw [ρo _ e2, ρk]
      exact fun h => (E.apart i e s.b j c hi hSb gc e1).1 h
    · rw [ρo _ e2, ρo _ e4]; exact H.sep _ _ _ _ gc ho gl hne
  · rcases get j c hc with ⟨rfl, rfl⟩ | ⟨rfl, rfl⟩ | ⟨e1, e2, gc⟩
    · rw [o3]; exact fun b hb => hb.1 rfl
    · rw [K.x]; exact fun b hb => hb.2.1 rfl
    · have : (fun b => j ≠ i ∧ j ≠ k ∧ S j b) = S j := by funext b; exact propext ⟨fun h => h.2.2, fun h => ⟨e1, e2, h⟩⟩
      rw [this, ρo _ e2]; exact E.inv _ _ gc
  · rcases get j c hc with ⟨rfl, rfl⟩ | ⟨rfl, rfl⟩ | ⟨e1, e2, gc⟩
    · exact absurd rfl hSb'.1
    · exact absurd rfl hSb'.2.1
    · rw [ρo _ e2]; exact E.mine _ _ _ gc hSb'.2.2
  · obtain ⟨e1, e2, hSb'⟩ := hSb'
    have gc := (h1o d j c e1 e2).1 hc
    refine ⟨?_, ?_⟩
    · rcases get l f hl with ⟨rfl, rfl⟩ | ⟨rfl, rfl⟩ | ⟨e3, e4, gl⟩
      · rw [ρo _ (Ne.symm hki)]; exact (E.apart _ _ _ _ _ gc hSb' hi hne).1
      · rw [ρk]
        rintro rfl
        exact (E.apart _ _ _ _ _ gc hSb' hi (Ne.symm e1)).2 hSb
      · rw [ρo _ e4]; exact (E.apart _ _ _ _ _ gc hSb' gl hne).1
    · rintro ⟨e3, e4, hl'⟩
      have := (h1o d l f e3 e4).1 hl
      exact (E.apart _ _ _ _ _ gc hSb' this hne).2 hl'
/-- Closed: the row lies with the struct again. -/
theorem row_close {ok : Chunk → Prop} {i k : Nat} {a b d eu : Chunk} {n c : Nat} (H : HOK X ρ h w) (hi : h[i]? = some (some a)) (hk : h[k]? = some (some b)) (hki : k ≠ i) (hao : a.own = true) (hax : a.x = Ext.none) (hbo : b.own = true) (hbx : b.x = Ext.none) (hm : May X (ρ k).1) (hn : 0 < a.n)
    (hok : ok d) (hd : d.own = true ∧ d.x = Ext.none ∧ d.n ≤ b.n) (hdf : ∀ j, j < d.n → ∀ r r', den1 r (b.f j) = den1 r' (d.f j))
    (he : eu.own = true ∧ eu.n = a.n ∧ eu.x = rowX ok (some ⟨(ρ k).1, (ρ k).2, n, c, none⟩)) (hef : ∀ j, j < a.n → ∀ r, AgreeOn (Fil h') ρ r → den1 r (eu.f j) = den1 ρ (a.f j))
    (h'i : h'[i]? = some (some eu)) (h'o : ∀ j f, j ≠ i → h'[j]? = some (some f) → j ≠ k ∧ h[j]? = some (some f) ∧ ∀ q, q < f.n → Scoped1 (Fil h') (f.f q)) (hbase : ∀ j, j < X.n0 → Fil h' j) :
    HOK X ρ h' w := by
  obtain ⟨S, E⟩ := H.ext
  obtain ⟨p1, p2, p3⟩ := he
  have get : ∀ j f, h'[j]? = some (some f) → (j = i ∧ f = eu) ∨ (j ≠ i ∧ j ≠ k ∧ h[j]? = some (some f) ∧ ∀ q, q < f.n → Scoped1 (Fil h') (f.f q)) := fun j f hf => by
    by_cases e1 : j = i
    · subst e1; rw [h'i] at hf; exact .inl ⟨rfl, by simpa using hf.symm⟩
    · obtain ⟨g1, g2, g3⟩ := h'o j f e1 hf
      exact .inr ⟨e1, g1, g2, g3⟩
  have noS : ∀ b, ¬ S i b := by have := E.inv i a hi; rw [hax] at this; exact this
  refine ⟨H.evo, fun j hj => ⟨hbase j hj, (H.base j hj).2⟩, fun j f hf => ?_, fun j f hf q hq => ?_, fun j f hf ho q hq => ?_, fun j f l g hf ho hl hne => ?_, fun j x => if j = i then x = (ρ k).1 else S j x, fun j f hf => ?_, fun j f x hf hSx => ?_, fun j f x l g hf hSx hl hne => ?_⟩
  · rcases get j f hf with ⟨rfl, rfl⟩ | ⟨e1, e2, hf, _⟩
    · exact H.lt _ _ hi
    · exact H.lt _ _ hf
  · rcases get j f hf with ⟨rfl, rfl⟩ | ⟨e1, e2, hf, hs⟩
    · rw [p2] at hq
      obtain ⟨x, hx1, hx2⟩ := H.cell _ _ hi q hq
      exact ⟨x, hx1, fun r hr => by rw [hef q hq r hr]; exact hx2 ρ (AgreeOn.refl _ _)⟩
    · obtain ⟨x, hx1, hx2⟩ := H.cell _ _ hf q hq
      exact ⟨x, hx1, fun r hr => by rw [hs q hq ρ r hr]; exact hx2 ρ (AgreeOn.refl _ _)⟩
  · rcases get j f hf with ⟨rfl, rfl⟩ | ⟨e1, e2, hf, _⟩
    · rw [p2] at hq; exact H.own _ _ hi hao q hq
    · exact H.own _ _ hf ho q hq
  · rcases get j f hf with ⟨rfl, rfl⟩ | ⟨e1, e2, hf, _⟩ <;> rcases get l g hl with ⟨rfl, rfl⟩ | ⟨e3, e4, hl, _⟩
    · exact absurd rfl hne
    · exact H.sep _ _ _ _ hi hao hl hne
    · exact H.sep _ _ _ _ hf ho hi hne
    · exact H.sep _ _ _ _ hf ho hl hne
  · rcases get j f hf with ⟨rfl, rfl⟩ | ⟨e1, e2, hf, _⟩
    · rw [p3]
      refine ⟨fun x => by simp, rfl, d, hok, hd.1, hd.2.1, fun q hq => ?_, fun q hq => ?_⟩
      · obtain ⟨x, hx1, hx2⟩ := H.cell k b hk q (Nat.lt_of_lt_of_le hq hd.2.2)
        exact ⟨x, hx1, fun r => by rw [← hdf q hq ρ r]; exact hx2 ρ (AgreeOn.refl _ _)⟩
      · exact (H.own k b hk hbo q (Nat.lt_of_lt_of_le hq hd.2.2)).1
    · have : (fun x => if j = i then x = (ρ k).1 else S j x) = S j := by funext x; rw [if_neg e1]
      rw [this]; exact E.inv _ _ hf
  · by_cases e1 : j = i
    · subst e1
      rw [if_pos rfl] at hSx
      subst hSx
      exact ⟨.inr (H.sep k b j a hk hbo hi hki), H.lt _ _ hk, hm⟩
    · rw [if_neg e1] at hSx
      rcases get j f hf with ⟨h1, _⟩ | ⟨_, e2, hf, _⟩
      · exact absurd h1 e1
      · exact E.mine _ _ _ hf hSx
  · by_cases e1 : j = i
    · subst e1
      rw [if_pos rfl] at hSx
      subst hSx
      rcases get l g hl with ⟨h1, _⟩ | ⟨_, e4, hl, _⟩
      · exact absurd h1 hne
      · refine ⟨fun h => H.sep k b l g hk hbo hl (Ne.symm e4) h.symm, ?_⟩
        rw [if_neg hne]
        exact fun hSl => (E.apart l g _ k b hl hSl hk (Ne.symm e4)).1 rfl
    · rw [if_neg e1] at hSx
      rcases get j f hf with ⟨h1, _⟩ | ⟨_, e2, hf, _⟩
      · exact absurd h1 e1
      · by_cases e3 : l = i
        · subst e3
          rw [if_pos rfl]
          exact ⟨(E.apart _ _ _ _ _ hf hSx hi hne).1, fun h => (E.apart _ _ _ _ _ hf hSx hk (fun e' => e2 e'.symm)).1 h.symm⟩
        · rw [if_neg e3]
          rcases get l g hl with ⟨h1, _⟩ | ⟨_, e4, hl, _⟩
          · exact absurd h1 e3
          · exact E.apart _ _ _ _ _ hf hSx hl hne
end
end Go.Proofs.Ytgikbmohmomgbaa.Sx
