
/-
  Stretches packed into one: what lies behind a pointer, told by a list of stretches; families of like stretches; real addresses.
-/
import Derived.Test.YtbepibdjlajppaaDoorMap
set_option linter.unusedVariables false
set_option linter.unusedSimpArgs false
namespace Go.Proofs.YtbepibdjlajppaaDoor.Sx
open Go Go.RowKit

/-! ### Real addresses -/
/-- The stretch lies at q. -/
abbrev atX (q : Nat × Nat) : Ext where
  inv := fun p S _ => p = q ∧ ∀ b, ¬ S b
  keep := fun h _ => h
/-- The pointer to a stretch's cell, as it is. -/
def realP (q : Nat × Nat) : Value := .pointer (some ⟨q.1, q.2, none⟩)
theorem realP_den {q : Nat × Nat} {ρ : Nat → Nat × Nat} : den ρ (realP q) = realP q := rfl

/-! ### Families -/
/-- Stretches of n cells each, at real addresses, none in another's block. -/
structure FamOK {α : Type} (n : Nat) (enc : α → Nat → Value) (F : List ((Nat × Nat) × α)) (S : Nat → Prop) (w : World) : Prop where
  dom : ∀ b, S b ↔ ∃ q ∈ F, q.1.1 = b
  nodup : (F.map (·.1.1)).Nodup
  cell : ∀ q ∈ F, ∀ j, j < n → w.cell? ⟨q.1.1, q.1.2 + j, none⟩ = some (enc q.2 j) ∧ w.frozen? ⟨q.1.1, q.1.2 + j, none⟩ = false
abbrev famX {α : Type} (n : Nat) (enc : α → Nat → Value) (F : List ((Nat × Nat) × α)) : Ext where
  inv := fun _ S w => FamOK n enc F S w
  keep := fun {p S w w'} h hb => ⟨h.dom, h.nodup, fun q hq j hj => by
    obtain ⟨h1, h2⟩ := h.cell q hq j hj
    have e := hb q.1.1 ((h.dom _).2 ⟨q, hq, rfl⟩)
    refine ⟨?_, ?_⟩
    · rw [← h1]; unfold World.cell?; simp only [e]
    · rw [← h2]; unfold World.frozen?; simp only [e]⟩

/-! ### Packs -/
structure PackOK (ρ : Nat → Nat × Nat) (h : List (Option Chunk)) (w : World) (S : Nat → Prop) (T : Nat → Nat → Prop) : Prop where
  blk : ∀ (k : Nat) (d : Chunk), h[k]? = some (some d) → S (ρ k).1
  cell : ∀ (k : Nat) (d : Chunk), h[k]? = some (some d) → ∀ j, j < d.n → ∃ x, w.cell? ⟨(ρ k).1, (ρ k).2 + j, none⟩ = some x ∧ Den1 (Fil h) ρ (d.f j) x
  own : ∀ (k : Nat) (d : Chunk), h[k]? = some (some d) → ∀ j, j < d.n → w.frozen? ⟨(ρ k).1, (ρ k).2 + j, none⟩ = false
  inv : ∀ (k : Nat) (d : Chunk), h[k]? = some (some d) → d.x.inv (ρ k) (T k) w
  foot : ∀ (k : Nat) (d : Chunk) (b : Nat), h[k]? = some (some d) → T k b → S b ∧ (d.n = 0 ∨ b ≠ (ρ k).1)
  sep : ∀ (k : Nat) (d : Chunk) (l : Nat) (e : Chunk), h[k]? = some (some d) → h[l]? = some (some e) → k ≠ l → (ρ k).1 ≠ (ρ l).1 ∧ ∀ b, T k b → (ρ l).1 ≠ b ∧ ¬ T l b
abbrev packX {B : Type} (ok : B → Prop) (h : B → List (Option Chunk)) : Ext where
  inv := fun p S w => S p.1 ∧ ∃ β, ok β ∧ ∃ ρ T, ρ 0 = p ∧ Fil (h β) 0 ∧ PackOK ρ (h β) w S T
  keep := fun {p S w w'} hh hb => ⟨hh.1, by
    obtain ⟨β, hβ, ρ, T, h0, hf, K⟩ := hh.2
    refine ⟨β, hβ, ρ, T, h0, hf, K.blk, fun k d hk j hj => ?_, fun k d hk j hj => ?_, fun k d hk => ?_, K.foot, K.sep⟩
    · obtain ⟨x, hx, hd⟩ := K.cell k d hk j hj
      refine ⟨x, ?_, hd⟩
      have e := hb _ (K.blk k d hk)
      rw [← hx]; unfold World.cell?; simp only [e]
    · have e := hb _ (K.blk k d hk)
      rw [← K.own k d hk j hj]; unfold World.frozen?; simp only [e]
    · exact d.x.keep (K.inv k d hk) fun b hT => hb b (K.foot k d b hk hT).1⟩
theorem packX_selfish {B : Type} {ok : B → Prop} {h : B → List (Option Chunk)} : Selfish (packX ok h) := fun p S w hh => hh.1
abbrev packC {B : Type} (ok : B → Prop) (h : B → List (Option Chunk)) : Chunk := @Chunk.mk (packX ok h) true 0 []

/-- A callee with one argument that is a pack begins with what is in it. -/
theorem pack_opens {B : Type} {ok : B → Prop} {h : B → List (Option Chunk)} {i : Nat} {c d : Chunk} : Opens [⟨i, c, packC ok h, d⟩] ok h := fun X ρ w T H => by
  obtain ⟨S, E⟩ := H.ext
  have h0 : (partH [⟨i, c, packC ok h, d⟩])[0]? = some (some (packC ok h)) := rfl
  have one : ∀ (k : Nat) (e : Chunk), (partH [⟨i, c, packC ok h, d⟩])[k]? = some (some e) → k = 0 := fun k e hk => by
    cases k with
    | zero => rfl
    | succ k => simp [partH] at hk
  obtain ⟨_, β, hβ, ρp, Tp, e0, hf, K⟩ := E.inv 0 _ h0
  have n0 : X.n0 = 1 := T.n0
  refine ⟨β, hβ, ρp, fun k hk => ?_, fun k hk => ?_, ?_⟩
  · obtain ⟨e, he⟩ := hk
    obtain rfl := one k e he
    exact e0
  · obtain ⟨e, he⟩ := hk
    obtain rfl := one k e he
    exact hf
  · refine H.redo E (fun k => k = 0) (fun _ => True) (S 0) (fun b hb => ⟨0, _, rfl, h0, .inr hb⟩) (fun b hb => (E.mine 0 _ b h0 hb).2.2) (fun k hk => ?_) (fun k e hk hA => absurd trivial hA) (fun k e hk _ => ⟨K.blk k e hk, K.cell k e hk, fun _ => K.own k e hk, K.inv k e hk, fun b hb => K.foot k e b hk hb⟩) (fun k e l f hk _ hl _ hne => ⟨fun _ => (K.sep k e l f hk hl hne).1, (K.sep k e l f hk hl hne).2⟩)
    rw [n0] at hk
    obtain rfl : k = 0 := by omega
    exact ⟨hf, e0⟩

/-! ### Closing a pack at a callee's end -/
def closeH (pc : Chunk) (m : Nat) (keep : List Nat) : List (Option Chunk) → Nat → List (Option Chunk)
  | [], _ => []
  | x :: r, i => (match Nat.beq i m with
    | true => some pc
    | false => match keep.any (Nat.beq i) with
      | true => x
      | false => none) :: closeH pc m keep r (i + 1)
theorem closeH_get {pc : Chunk} {m : Nat} {keep : List Nat} : ∀ {h : List (Option Chunk)} {i0 k : Nat} {d : Chunk}, (closeH pc m keep h i0)[k]? = some (some d) → (i0 + k = m ∧ d = pc) ∨ (i0 + k ≠ m ∧ i0 + k ∈ keep ∧ h[k]? = some (some d))
  | [], i0, k, d, hk => by simp [closeH] at hk
  | x :: r, i0, 0, d, hk => by
    simp only [closeH, List.getElem?_cons_zero, Option.some.injEq] at hk
    cases e : Nat.beq i0 m with
    | true =>
      rw [e] at hk
      exact .inl ⟨Nat.eq_of_beq_eq_true e, by simpa using hk.symm⟩
    | false =>
      rw [e] at hk
      simp only at hk
      cases e2 : keep.any (Nat.beq i0) with
      | true =>
        rw [e2] at hk
        refine .inr ⟨fun e3 => ?_, ?_, by simp only at hk; rw [hk]; rfl⟩
        · have : i0 = m := e3
          rw [this, Nat.beq_refl] at e; cases e
        · rw [List.any_eq_true] at e2
          obtain ⟨y, hy, he⟩ := e2
          have := Nat.eq_of_beq_eq_true he
          show i0 ∈ keep
          rw [this]; exact hy
      | false => rw [e2] at hk; cases hk
  | x :: r, i0, k + 1, d, hk => by
    have := closeH_get (h := r) (i0 := i0 + 1) (k := k) (d := d) (by simpa [closeH] using hk)
    rw [show i0 + (k + 1) = i0 + 1 + k from by omega]
    rcases this with h1 | ⟨h1, h2, h3⟩
    · exact .inl h1
    · exact .inr ⟨h1, h2, by simpa using h3⟩
theorem closeH_fil {pc : Chunk} {m : Nat} {keep : List Nat} : ∀ {h : List (Option Chunk)} {i0 k : Nat}, k < h.length → (i0 + k = m ∨ (i0 + k ∈ keep ∧ Fil h k)) → Fil (closeH pc m keep h i0) k
  | [], i0, k, hl, _ => by simp at hl
  | x :: r, i0, 0, _, hk => by
    simp only [closeH, Fil, List.getElem?_cons_zero]
    cases e : Nat.beq i0 m with
    | true => exact ⟨pc, rfl⟩
    | false =>
      rcases hk with hk | ⟨hk, hf⟩
      · have hk : i0 = m := hk
        rw [hk, Nat.beq_refl] at e; cases e
      · have : keep.any (Nat.beq i0) = true := List.any_eq_true.2 ⟨i0, hk, Nat.beq_refl _⟩
        simp only [this]
        obtain ⟨c, hc⟩ := hf
        exact ⟨c, by simpa using hc⟩
  | x :: r, i0, k + 1, hl, hk => by
    obtain ⟨c, hc⟩ := closeH_fil (pc := pc) (m := m) (keep := keep) (h := r) (i0 := i0 + 1) (k := k) (by simpa using hl) (by
      rw [show i0 + 1 + k = i0 + (k + 1) from by omega]
      exact hk.imp id fun ⟨h1, c, h2⟩ => ⟨h1, c, by simpa using h2⟩)
    exact ⟨c, by simpa [closeH] using hc⟩
/-- What the stretches of a pack are at the callee's end: k with the pack, i with the callee. -/
def PackFrom (ix : List (Nat × Nat)) (h hp : List (Option Chunk)) : Prop :=
  ∀ (k : Nat) (d : Chunk), hp[k]? = some (some d) → ∃ i c, ixK ix k = some i ∧ h[i]? = some (some c) ∧ c.own = true ∧ d.n ≤ c.n ∧ (∀ j, j < d.n → Re1 ix (c.f j) (d.f j)) ∧ (d.x = Ext.none ∨ d.x = c.x) ∧ (0 < c.n ∨ Selfish c.x)
def packB : List (Option Chunk) → List (Nat × Nat) → Bool
  | _, [] => true
  | hp, (k, i) :: r => filB hp k && packB hp r
theorem packB_out {hp : List (Option Chunk)} : ∀ {ix : List (Nat × Nat)}, packB hp ix = true → ∀ k i, (k, i) ∈ ix → Fil hp k
  | (a, b) :: r, h, k, i, hm => by
    simp only [packB, Bool.and_eq_true] at h
    rcases List.mem_cons.1 hm with e | hm
    · simp only [Prod.mk.injEq] at e
      obtain ⟨rfl, rfl⟩ := e
      exact filB_iff.1 h.1
    · exact packB_out h.2 k i hm
/-- No number stands twice, neither on the left nor on the right. -/
def ixOne : List (Nat × Nat) → Bool
  | [] => true
  | (k, i) :: r => (r.all fun p => !Nat.beq p.1 k && !Nat.beq p.2 i) && ixOne r
theorem ixOne_out : ∀ {ix : List (Nat × Nat)}, ixOne ix = true → ∀ k i k' i', (k, i) ∈ ix → (k', i') ∈ ix → (k = k' ∨ i = i') → k = k' ∧ i = i'
  | (a, b) :: r, h, k, i, k', i', h1, h2, he => by
    simp only [ixOne, Bool.and_eq_true, List.all_eq_true] at h
    have key : ∀ x y, (x, y) ∈ r → x ≠ a ∧ y ≠ b := fun x y hm => by
      have := h.1 (x, y) hm
      simp only [Bool.not_eq_true'] at this
      exact ⟨fun e => by subst e; simp at this, fun e => by subst e; simp at this⟩
    rcases List.mem_cons.1 h1 with e1 | h1 <;> rcases List.mem_cons.1 h2 with e2 | h2
    · simp only [Prod.mk.injEq] at e1 e2; omega
    · simp only [Prod.mk.injEq] at e1
      have := key k' i' h2; omega
    · simp only [Prod.mk.injEq] at e2
      have := key k i h1; omega
    · exact ixOne_out h.2 k i k' i' h1 h2 he
theorem closeN {B : Type} {ok : B → Prop} {hB : B → List (Option Chunk)} {ss : List Piece} {h : List (Option Chunk)} {v : Value} {K : Value → List (Option Chunk) → Prop} (β : B) (m : Nat) (ix : List (Nat × Nat)) (keep : List Nat) (hpc : ∀ k i, (k, i) ∈ ix → i < ss.length → ∃ s, ss[i]? = some s ∧ s.e.x ≠ Ext.none ∧ Selfish s.e.x) (hbs : ∀ i, i < ss.length → i = m ∨ i ∈ keep) (hok : ok β) (h00 : ixK ix 0 = some m) (hf0 : Fil (hB β) 0) (hone : ixOne ix = true) (hpb : packB (hB β) ix = true)
    (hpk : PackFrom ix h (hB β)) (hkk : ∀ k ∈ keep, ∀ l i, (l, i) ∈ ix → k ≠ i) (hkd : ∀ k ∈ keep, ∀ (d : Chunk), h[k]? = some (some d) → ∀ j, j < d.n → Safe1 (closeH (packC ok hB) m keep h 0) (d.f j))
    (hv : ∀ ρ ρ', AgreeOn (Fil (closeH (packC ok hB) m keep h 0)) ρ ρ' → den ρ' v = den ρ v) (hlt : m < h.length) (kk : K v (closeH (packC ok hB) m keep h 0)) : N (EndN ss h v K) := N.mk fun X ρ w x T H hd => by
  obtain ⟨S, E⟩ := H.ext
  have fil0 : Fil (closeH (packC ok hB) m keep h 0) m := closeH_fil hlt (.inl (Nat.zero_add m))
  have inv : ∀ k d, (hB β)[k]? = some (some d) → ∃ i c, (k, i) ∈ ix ∧ h[i]? = some (some c) ∧ c.own = true ∧ d.n ≤ c.n ∧ (∀ j, j < d.n → Re1 ix (c.f j) (d.f j)) ∧ (d.x = Ext.none ∨ d.x = c.x) ∧ (0 < c.n ∨ Selfish c.x) := fun k d hk => by
    obtain ⟨i, c, h1, h2⟩ := hpk k d hk
    exact ⟨i, c, ixK_mem h1, h2⟩
  have ofix : ∀ k i, (k, i) ∈ ix → ∃ d, (hB β)[k]? = some (some d) := fun k i hm => packB_out hpb k i hm
  have act : ∀ k i, (k, i) ∈ ix → ∃ d c, (hB β)[k]? = some (some d) ∧ h[i]? = some (some c) ∧ c.own = true ∧ d.n ≤ c.n ∧ (∀ j, j < d.n → Re1 ix (c.f j) (d.f j)) ∧ (d.x = Ext.none ∨ d.x = c.x) ∧ (0 < c.n ∨ Selfish c.x) := fun k i hm => by
    obtain ⟨d, hd⟩ := ofix k i hm
    obtain ⟨i', c, hm', h2⟩ := inv k d hd
    obtain rfl := (ixOne_out hone k i k i' hm hm' (.inl rfl)).2
    exact ⟨d, c, hd, h2⟩
  have mayB : ∀ k i, (k, i) ∈ ix → May X (ρ i).1 := fun k i hm => by
    obtain ⟨d, c, _, hc, ho, _, _, _, h3⟩ := act k i hm
    rcases h3 with h3 | h3
    · by_cases e : i < ss.length
      · obtain ⟨s, hs, hx, hsf⟩ := hpc k i hm e
        exact T.mayX H hs hx hsf
      · exact T.may H hc ho h3 (by omega)
    · exact (E.mine i c _ hc (h3 _ _ _ (E.inv i c hc))).2.2
  let ρp : Nat → Nat × Nat := fun k => match ixK ix k with | some i => ρ i | none => (0, 0)
  let Tp : Nat → Nat → Prop := fun k b => ∃ i d, (k, i) ∈ ix ∧ (hB β)[k]? = some (some d) ∧ d.x ≠ Ext.none ∧ S i b
  have ixKof : ∀ k i, (k, i) ∈ ix → ixK ix k = some i := fun k i hm => by
    obtain ⟨d, hd⟩ := ofix k i hm
    obtain ⟨i', c, h1, _⟩ := hpk k d hd
    rw [(ixOne_out hone k i k i' hm (ixK_mem h1) (.inl rfl)).2]; exact h1
  have ρp_eq : ∀ k i, (k, i) ∈ ix → ρp k = ρ i := fun k i hm => by
    show (match ixK ix k with | some i => ρ i | none => (0, 0)) = ρ i
    rw [ixKof k i hm]
  let F : Nat → Prop := fun b => ∃ k i, (k, i) ∈ ix ∧ (b = (ρ i).1 ∨ Tp k b)
  have Tp_eq : ∀ k i d, (k, i) ∈ ix → (hB β)[k]? = some (some d) → d.x ≠ Ext.none → Tp k = S i := fun k i d hm hd hne => by
    funext b
    refine propext ⟨?_, fun hb => ⟨i, d, hm, hd, hne, hb⟩⟩
    rintro ⟨i', _, hm', _, _, hb⟩
    rw [(ixOne_out hone k i k i' hm hm' (.inl rfl)).2]; exact hb
  have TpS : ∀ k i b, (k, i) ∈ ix → Tp k b → S i b := fun k i b hm hb => by
    obtain ⟨i', _, hm', _, _, hb'⟩ := hb
    rw [(ixOne_out hone k i k i' hm hm' (.inl rfl)).2]; exact hb'
  have K1 : PackOK ρp (hB β) w F Tp := by
    refine ⟨fun k d hk => ?_, fun k d hk j hj => ?_, fun k d hk j hj => ?_, fun k d hk => ?_, fun k d b hk hb => ?_, fun k d l e hk hl hne => ?_⟩
    · obtain ⟨i, c, hm, _⟩ := inv k d hk
      exact ⟨k, i, hm, .inl (by rw [ρp_eq k i hm])⟩
    · obtain ⟨i, c, hm, hc, ho, hn, hr, _⟩ := inv k d hk
      obtain ⟨y, hy, hdy⟩ := H.cell i c hc j (Nat.lt_of_lt_of_le hj hn)
      rw [ρp_eq k i hm]
      refine ⟨y, hy, fun r hrr => ?_⟩
      rw [← (hr j hj).den (r := ρ) (r' := r) (fun k' i' hm' => by
        obtain ⟨d', hd'⟩ := ofix k' i' hm'
        rw [hrr k' ⟨d', hd'⟩, ρp_eq k' i' hm'])]
      exact hdy.self
    · obtain ⟨i, c, hm, hc, ho, hn, _⟩ := inv k d hk
      rw [ρp_eq k i hm]
      exact (H.own i c hc ho j (Nat.lt_of_lt_of_le hj hn)).1
    · obtain ⟨i, c, hm, hc, ho, hn, _, hx', _⟩ := inv k d hk
      by_cases en : d.x = Ext.none
      · rw [en]
        rintro b ⟨i', d', _, hd', hne, _⟩
        rw [hk] at hd'
        obtain rfl : d = d' := by simpa using hd'
        exact hne en
      · rw [Tp_eq k i d hm hk en, ρp_eq k i hm]
        rcases hx' with e | e
        · exact absurd e en
        · rw [e]; exact E.inv i c hc
    · obtain ⟨i, c, hm, hc, ho, hn, _⟩ := inv k d hk
      refine ⟨⟨k, i, hm, .inr hb⟩, ?_⟩
      have := (E.mine i c b hc (TpS k i b hm hb)).1
      rw [ρp_eq k i hm]; omega
    · obtain ⟨i, c, hm, hc, ho, _⟩ := inv k d hk
      obtain ⟨i2, c2, hm2, hc2, ho2, _⟩ := inv l e hl
      have hii : i ≠ i2 := fun ei => hne (ixOne_out hone k i l i2 hm hm2 (.inr ei)).1
      refine ⟨by rw [ρp_eq k i hm, ρp_eq l i2 hm2]; exact H.sep i c i2 c2 hc ho hc2 hii, fun b hb => ?_⟩
      obtain ⟨a1, a2⟩ := E.apart i c b i2 c2 hc (TpS k i b hm hb) hc2 (Ne.symm hii)
      exact ⟨by rw [ρp_eq l i2 hm2]; exact a1, fun hb2 => a2 (TpS l i2 b hm2 hb2)⟩
  have m00 := ixK_mem h00
  have H' : HOK X ρ (closeH (packC ok hB) m keep h 0) w := by
    refine H.redo (T := fun k b => k = m ∧ F b) E (fun i => ∃ k, (k, i) ∈ ix) (fun k => k = m) F (fun b hb => ?_) (fun b hb => ?_) (fun i hi => ?_) (fun k d hk hA => ?_) (fun k d hk hA => ?_) (fun k d l e hk hA hl hB' hne => ?_)
    · obtain ⟨k, i, hm, hb⟩ := hb
      obtain ⟨d, c, hd, hc, ho, _⟩ := act k i hm
      rcases hb with hb | hb
      · exact ⟨i, c, ⟨k, hm⟩, hc, .inl ⟨ho, hb⟩⟩
      · exact ⟨i, c, ⟨k, hm⟩, hc, .inr (TpS k i b hm hb)⟩
    · obtain ⟨k, i, hm, hb⟩ := hb
      rcases hb with rfl | hb
      · exact mayB k i hm
      · obtain ⟨d, c, hd, hc, _⟩ := act k i hm
        exact (E.mine i c b hc (TpS k i b hm hb)).2.2
    · have hi : i < ss.length := by have := T.n0; omega
      rcases hbs i hi with rfl | h1
      · exact ⟨fil0, rfl⟩
      · have hf := (H.base i (by have := T.n0; omega)).1
        obtain ⟨c, hc⟩ := hf
        exact ⟨closeH_fil (List.getElem?_eq_some_iff.1 hc).1 (.inr ⟨by rw [Nat.zero_add]; exact h1, c, hc⟩), rfl⟩
    · rcases closeH_get hk with ⟨h1, _⟩ | ⟨h1, h2, h3⟩
      · exact absurd (by omega) hA
      · rw [Nat.zero_add] at h1 h2
        refine ⟨fun ⟨l, hm⟩ => hkk k h2 l k hm rfl, rfl, h3, fun j hj y hy r hrr => ?_⟩
        rw [(hkd k h2 d h3 j hj).inScope ρ r hrr]
        exact hy.self
    · subst hA
      rcases closeH_get hk with ⟨_, rfl⟩ | ⟨h1, _⟩
      · refine ⟨⟨0, k, m00, .inl rfl⟩, fun j hj => absurd hj (Nat.not_lt_zero j), fun _ j hj => absurd hj (Nat.not_lt_zero j), ⟨⟨rfl, 0, k, m00, .inl rfl⟩, β, hok, ρp, Tp, ρp_eq 0 k m00, hf0, ?_⟩, fun b hb => ⟨hb.2, .inl rfl⟩⟩
        have : (fun b => k = k ∧ F b) = F := by funext b; exact propext ⟨fun h => h.2, fun h => ⟨rfl, h⟩⟩
        rw [this]; exact K1
      · exact absurd (by omega) h1
    · exact absurd (hA.trans hB'.symm) hne
  refine ⟨v, _, ρ, H', fun r hrr => ?_, kk⟩
  rw [hv ρ r hrr]; exact hd.self
end Go.Proofs.YtbepibdjlajppaaDoor.Sx
