/-
  Families of stretches at real addresses: one is taken out, one is laid in; callees that are handed real addresses.
-/
import Derived.Test.YtpafcfelaaibgaaPack
set_option linter.unusedVariables false
set_option linter.unusedSimpArgs false
namespace Go.Proofs.Ytpafcfelaaibgaa.Sx
open Go Go.RowKit

/-- A value that is the same whatever the numbers stand for. -/
theorem plain1_Den1 {F : Nat → Prop} {ρ : Nat → Nat × Nat} {v : Value} (h : plain1 v = true) : Den1 F ρ v v := Den1.plain h
/-- One of a family is taken out. -/
theorem HOK.famOut {α : Type} {X : Ctx} {ρ : Nat → Nat × Nat} {h : List (Option Chunk)} {w : World} {i k n : Nat} {o : Bool} {m : Nat} {ps : List (Nat × Nat × Value)} {enc : α → Nat → Value} {F F' : List ((Nat × Nat) × α)} {q : Nat × Nat} {a : α} {e : Chunk}
    (H : HOK X ρ h w) (hm : 0 < m) (hi : h[i]? = some (some (@Chunk.mk (famX n enc F) true m ps))) (hk : h[k]? = some none) (hmay : May X (ρ i).1) (hF : F.Perm ((q, a) :: F')) (hex : e.x = atX q) (hen : e.n = n) (hef : ∀ j, j < n → e.f j = enc a j) (hpl : ∀ j, j < n → plain1 (enc a j) = true) :
    ∃ ρ', AgreeOn (Fil h) ρ ρ' ∧ HOK X ρ' ((h.set i (some (@Chunk.mk (famX n enc F') true m ps))).set k (some e)) w := by
  obtain ⟨S, E⟩ := H.ext
  have hil := (List.getElem?_eq_some_iff.1 hi).1
  have hkl := (List.getElem?_eq_some_iff.1 hk).1
  have hik : i ≠ k := fun e => by rw [e, hk] at hi; cases hi
  have nf : ¬ Fil h k := fun ⟨d, hd⟩ => by rw [hk] at hd; cases hd
  have FO : FamOK n enc F (S i) w := E.inv i _ hi
  have memF : ∀ x, x ∈ F ↔ x ∈ (q, a) :: F' := fun x => hF.mem_iff
  have qF : (q, a) ∈ F := (memF _).2 (by simp)
  have hS : S i q.1 := (FO.dom _).2 ⟨_, qF, rfl⟩
  have ndF : (((q, a) :: F').map (·.1.1)).Nodup := (hF.map _).nodup_iff.1 FO.nodup
  simp only [List.map_cons, List.nodup_cons] at ndF
  let ρ' : Nat → Nat × Nat := fun j => if j = k then q else ρ j
  have ρk : ρ' k = q := if_pos rfl
  have ρo : ∀ j, j ≠ k → ρ' j = ρ j := fun j hj => if_neg hj
  have hag : AgreeOn (Fil h) ρ ρ' := fun j hj => ρo j fun e => nf (e ▸ hj)
  let hh := (h.set i (some (@Chunk.mk (famX n enc F') true m ps))).set k (some e)
  have get : ∀ j d, hh[j]? = some (some d) → (j = k ∧ d = e) ∨ (j = i ∧ d = @Chunk.mk (famX n enc F') true m ps) ∨ (j ≠ i ∧ j ≠ k ∧ h[j]? = some (some d)) := fun j d hj => by
    by_cases ej : k = j
    · subst ej
      rw [List.getElem?_set_self (by simpa using hkl)] at hj
      exact .inl ⟨rfl, by simpa using hj.symm⟩
    · rw [List.getElem?_set_ne ej] at hj
      by_cases ei : i = j
      · subst ei
        rw [List.getElem?_set_self hil] at hj
        exact .inr (.inl ⟨rfl, by simpa using hj.symm⟩)
      · rw [List.getElem?_set_ne ei] at hj
        exact .inr (.inr ⟨fun e => ei e.symm, fun e => ej e.symm, hj⟩)
  have fil : ∀ j, Fil h j → Fil hh j := fun j hj => by
    obtain ⟨d, hd⟩ := hj
    by_cases ej : k = j
    · exact ⟨e, by subst ej; rw [List.getElem?_set_self (by simpa using hkl)]⟩
    · by_cases ei : i = j
      · exact ⟨_, by subst ei; rw [List.getElem?_set_ne ej, List.getElem?_set_self hil]⟩
      · exact ⟨d, by rw [List.getElem?_set_ne ej, List.getElem?_set_ne ei]; exact hd⟩
  have qne : q.1 ≠ (ρ i).1 := by
    rcases (E.mine i _ _ hi hS).1 with h0 | h0
    · have h0 : m = 0 := h0
      omega
    · exact h0
  refine ⟨ρ', hag, ?_⟩
  refine H.redo (T := fun j b => j = i ∧ S i b ∧ b ≠ q.1) E (fun j => j = i) (fun j => j = i ∨ j = k) (fun b => b = (ρ i).1 ∨ S i b) (fun b hb => ⟨i, _, rfl, hi, hb.imp (fun h => ⟨rfl, h⟩) id⟩) (fun b hb => ?_) (fun j hj => ?_) (fun j d hj hA => ?_) (fun j d hj hA => ?_) (fun j d l f hj hA hl hB hne => ?_)
  · rcases hb with rfl | hb
    · exact hmay
    · exact (E.mine i _ b hi hb).2.2
  · obtain ⟨hf, _⟩ := H.base j hj
    exact ⟨fil j hf, hag j hf⟩
  · rcases get j d hj with ⟨rfl, _⟩ | ⟨rfl, _⟩ | ⟨h1, h2, h3⟩
    · exact absurd (.inr rfl) hA
    · exact absurd (.inl rfl) hA
    · exact ⟨h1, ρo j h2, h3, fun l _ x hx => hx.more hag fil⟩
  · rcases get j d hj with ⟨rfl, rfl⟩ | ⟨rfl, rfl⟩ | ⟨h1, h2, _⟩
    · refine ⟨by rw [ρk]; exact .inr hS, fun l hl => ?_, fun _ l hl => ?_, ?_, fun b hb => absurd hb.1 (Ne.symm hik)⟩
      · rw [hen] at hl
        rw [ρk]
        exact ⟨_, (FO.cell _ qF l hl).1, by rw [hef l hl]; exact Den1.plain (hpl l hl)⟩
      · rw [hen] at hl
        rw [ρk]
        exact (FO.cell _ qF l hl).2
      · rw [hex]
        exact ⟨ρk, fun b hb => hik hb.1.symm⟩
    · refine ⟨by rw [ρo j hik]; exact .inl rfl, fun l hl => ?_, fun _ l hl => ?_, ?_, fun b hb => ⟨.inr hb.2.1, ?_⟩⟩
      · rw [ρo j hik]
        obtain ⟨x, hx, hd⟩ := H.cell j _ hi l hl
        exact ⟨x, hx, hd.more hag fil⟩
      · rw [ρo j hik]
        exact (H.own j _ hi rfl l hl).1
      · show FamOK n enc F' (fun b => j = j ∧ S j b ∧ b ≠ q.1) w
        refine ⟨fun b => ⟨fun hb => ?_, fun ⟨x, hx, hb⟩ => ⟨rfl, (FO.dom b).2 ⟨x, (memF x).2 (by simp [hx]), hb⟩, fun e => ndF.1 (by rw [← e, ← hb]; exact List.mem_map.2 ⟨x, hx, rfl⟩)⟩⟩, ndF.2, fun x hx => FO.cell x ((memF x).2 (by simp [hx]))⟩
        obtain ⟨x, hx, hxb⟩ := (FO.dom b).1 hb.2.1
        rcases List.mem_cons.1 ((memF x).1 hx) with rfl | hx
        · exact absurd hxb.symm hb.2.2
        · exact ⟨x, hx, hxb⟩
      · rw [ρo j hik]
        exact (E.mine j _ b hi hb.2.1).1
    · exact absurd hA (by rintro (rfl | rfl) <;> contradiction)
  · have two : ∀ x, (x = i ∨ x = k) → (x = i ∧ ρ' x = ρ i) ∨ (x = k ∧ ρ' x = q) := fun x hx => by
      rcases hx with rfl | rfl
      · exact .inl ⟨rfl, ρo _ hik⟩
      · exact .inr ⟨rfl, ρk⟩
    rcases two j hA with ⟨rfl, e1⟩ | ⟨rfl, e1⟩ <;> rcases two l hB with ⟨rfl, e2⟩ | ⟨rfl, e2⟩
    · exact absurd rfl hne
    · exact ⟨fun _ => by rw [e1, e2]; exact fun e => qne e.symm, fun b hb => ⟨by rw [e2]; exact fun e => hb.2.2 e.symm, fun h => hik h.1.symm⟩⟩
    · exact ⟨fun _ => by rw [e1, e2]; exact qne, fun b hb => absurd hb.1 (Ne.symm hik)⟩
    · exact absurd rfl hne
/-- A stretch is laid into a family. -/
theorem HOK.famIn {α : Type} {X : Ctx} {ρ : Nat → Nat × Nat} {h : List (Option Chunk)} {w : World} {i k n : Nat} {m : Nat} {ps : List (Nat × Nat × Value)} {enc : α → Nat → Value} {F : List ((Nat × Nat) × α)} {q : Nat × Nat} {a : α} {e : Chunk}
    (H : HOK X ρ h w) (hm : 0 < m) (hn : 0 < n) (hi : h[i]? = some (some (@Chunk.mk (famX n enc F) true m ps))) (hk : h[k]? = some (some e)) (hik : i ≠ k) (hkb : X.n0 ≤ k) (hmay : May X (ρ i).1) (hmk : May X (ρ k).1) (hex : e.x = atX q) (heo : e.own = true) (hen : n ≤ e.n) (hef : ∀ j, j < n → e.f j = enc a j) (hpl : ∀ j, j < n → plain1 (enc a j) = true)
    (hsc : ∀ (l : Nat) (d : Chunk), l ≠ k → h[l]? = some (some d) → ∀ j, j < d.n → ∀ ρ ρ', (∀ l, l ≠ k → ρ' l = ρ l) → den1 ρ' (d.f j) = den1 ρ (d.f j)) :
    HOK X ρ ((h.set i (some (@Chunk.mk (famX n enc ((q, a) :: F)) true m ps))).set k none) w := by
  obtain ⟨S, E⟩ := H.ext
  have hil := (List.getElem?_eq_some_iff.1 hi).1
  have hkl := (List.getElem?_eq_some_iff.1 hk).1
  have FO : FamOK n enc F (S i) w := E.inv i _ hi
  obtain ⟨ρk, Sk⟩ : ρ k = q ∧ ∀ b, ¬ S k b := by have := E.inv k e hk; rw [hex] at this; exact this
  let hh := (h.set i (some (@Chunk.mk (famX n enc ((q, a) :: F)) true m ps))).set k none
  have get : ∀ j d, hh[j]? = some (some d) → (j = i ∧ d = @Chunk.mk (famX n enc ((q, a) :: F)) true m ps) ∨ (j ≠ i ∧ j ≠ k ∧ h[j]? = some (some d)) := fun j d hj => by
    by_cases ej : k = j
    · subst ej
      rw [List.getElem?_set_self (by simpa using hkl)] at hj
      cases hj
    · rw [List.getElem?_set_ne ej] at hj
      by_cases ei : i = j
      · subst ei
        rw [List.getElem?_set_self hil] at hj
        exact .inl ⟨rfl, by simpa using hj.symm⟩
      · rw [List.getElem?_set_ne ei] at hj
        exact .inr ⟨fun e => ei e.symm, fun e => ej e.symm, hj⟩
  have fil : ∀ j, j ≠ k → Fil h j → Fil hh j := fun j hjk hj => by
    obtain ⟨d, hd⟩ := hj
    by_cases ei : i = j
    · exact ⟨_, by subst ei; rw [List.getElem?_set_ne (Ne.symm hjk), List.getElem?_set_self hil]⟩
    · exact ⟨d, by rw [List.getElem?_set_ne (Ne.symm hjk), List.getElem?_set_ne ei]; exact hd⟩
  have qS : ¬ S i q.1 := fun hs => by
    have := (E.apart i _ _ k e hi hs hk (Ne.symm hik)).1
    rw [ρk] at this; exact this rfl
  have qi : q.1 ≠ (ρ i).1 := by
    have := H.sep k e i _ hk heo hi (Ne.symm hik)
    rw [ρk] at this; exact this
  -- what is known of a cell is known with any number for k
  have less : ∀ l d, l ≠ k → h[l]? = some (some d) → ∀ j, j < d.n → ∀ x, Den1 (Fil h) ρ (d.f j) x → Den1 (Fil hh) ρ (d.f j) x := fun l d hlk hd j hj x hx r hr => by
    let r' : Nat → Nat × Nat := fun i => if i = k then ρ k else if filB h i then r i else ρ i
    have e1 : den1 r' (d.f j) = x := hx r' fun i hf => by
      show (if i = k then ρ k else if filB h i then r i else ρ i) = ρ i
      by_cases ek : i = k
      · rw [if_pos ek, ek]
      · rw [if_neg ek, if_pos (filB_iff.2 hf)]
        exact hr i (fil i ek hf)
    let r2 : Nat → Nat × Nat := fun i => if i = k then r k else r' i
    have e2 : den1 r2 (d.f j) = den1 r' (d.f j) := hsc l d hlk hd j hj r' r2 fun i hi => if_neg hi
    have e3 : den1 r2 (d.f j) = x := e2.trans e1
    -- outside of what is known the numbers do not matter
    let r3 : Nat → Nat × Nat := fun i => if i = k then ρ k else r i
    have e4 : den1 r3 (d.f j) = den1 r (d.f j) := hsc l d hlk hd j hj r r3 fun i hi => if_neg hi
    have e5 : den1 r3 (d.f j) = x := hx r3 fun i hf => by
      show (if i = k then ρ k else r i) = ρ i
      by_cases ek : i = k
      · rw [if_pos ek, ek]
      · rw [if_neg ek]; exact hr i (fil i ek hf)
    exact e4.symm.trans e5
  refine H.redo (T := fun j b => j = i ∧ (S i b ∨ b = q.1)) E (fun j => j = i ∨ j = k) (fun j => j = i) (fun b => b = (ρ i).1 ∨ b = q.1 ∨ S i b) (fun b hb => ?_) (fun b hb => ?_) (fun j hj => ?_) (fun j d hj hA => ?_) (fun j d hj hA => ?_) (fun j d l f hj hA hl hB hne => absurd (hA.trans hB.symm) hne)
  · rcases hb with hb | hb | hb
    · exact ⟨i, _, .inl rfl, hi, .inl ⟨rfl, hb⟩⟩
    · exact ⟨k, e, .inr rfl, hk, .inl ⟨heo, by rw [ρk]; exact hb⟩⟩
    · exact ⟨i, _, .inl rfl, hi, .inr hb⟩
  · rcases hb with rfl | rfl | hb
    · exact hmay
    · rw [ρk] at hmk; exact hmk
    · exact (E.mine i _ b hi hb).2.2
  · exact ⟨fil j (by omega) (H.base j hj).1, rfl⟩
  · rcases get j d hj with ⟨rfl, _⟩ | ⟨h1, h2, h3⟩
    · exact absurd rfl hA
    · exact ⟨fun h => by rcases h with h | h; exact h1 h; exact h2 h, rfl, h3, fun l hl x hx => less j d h2 h3 l hl x hx⟩
  · rcases get j d hj with ⟨rfl, rfl⟩ | ⟨h1, _⟩
    · refine ⟨.inl rfl, fun l hl => ?_, fun _ l hl => (H.own j _ hi rfl l hl).1, ?_, fun b hb => ⟨?_, ?_⟩⟩
      · obtain ⟨x, hx, hd⟩ := H.cell j _ hi l hl
        exact ⟨x, hx, less j _ hik hi l hl x hd⟩
      · show FamOK n enc ((q, a) :: F) (fun b => j = j ∧ (S j b ∨ b = q.1)) w
        refine ⟨fun b => ⟨fun hb => ?_, fun ⟨x, hx, hb⟩ => ⟨rfl, ?_⟩⟩, ?_, fun x hx l hl => ?_⟩
        · rcases hb.2 with hb | hb
          · obtain ⟨x, hx, hxb⟩ := (FO.dom b).1 hb
            exact ⟨x, List.mem_cons_of_mem _ hx, hxb⟩
          · exact ⟨(q, a), by simp, hb.symm⟩
        · rcases List.mem_cons.1 hx with rfl | hx
          · exact .inr hb.symm
          · exact .inl ((FO.dom b).2 ⟨x, hx, hb⟩)
        · simp only [List.map_cons, List.nodup_cons]
          refine ⟨fun hmem => ?_, FO.nodup⟩
          obtain ⟨x, hx, hxb⟩ := List.mem_map.1 hmem
          exact qS ((FO.dom _).2 ⟨x, hx, hxb⟩)
        · rcases List.mem_cons.1 hx with rfl | hx
          · obtain ⟨y, hy, hdy⟩ := H.cell k e hk l (Nat.lt_of_lt_of_le hl hen)
            rw [hef l hl] at hdy
            have := den1_any (hpl l hl) hdy
            subst this
            rw [ρk] at hy
            have h2 := (H.own k e hk heo l (Nat.lt_of_lt_of_le hl hen)).1
            rw [ρk] at h2
            exact ⟨hy, h2⟩
          · exact FO.cell x hx l hl
      · rcases hb.2 with hb | hb
        · exact .inr (.inr hb)
        · exact .inr (.inl hb)
      · rcases hb.2 with hb | rfl
        · exact (E.mine j _ b hi hb).1
        · exact .inr qi
    · exact absurd hA h1

/-! ### Callees that are handed real addresses -/
inductive AtRe (q : Nat × Nat) (k : Nat) : Value → Value → Prop
  | same (v : Value) : AtRe q k v v
  | ptr {s : Nat} : AtRe q k (realP q) (.pointer (some ⟨k, 0, some s⟩))
theorem all2_at {F : Nat → Prop} {ρ : Nat → Nat × Nat} {q : Nat × Nat} {k : Nat} (hF : F k) (hρ : ρ k = q) : ∀ {vs vs' xs : List Value}, All2 (AtRe q k) vs vs' → All2 (Den F ρ) vs xs → All2 (Den F ρ) vs' xs
  | [], [], xs, _, h => h
  | [], _ :: _, _, h, _ => h.elim
  | _ :: _, [], _, h, _ => h.elim
  | _ :: _, _ :: _, [], _, h => h.elim
  | v :: vs, v' :: vs', x :: xs, h, h' => by
    refine ⟨?_, all2_at hF hρ h.2 h'.2⟩
    have h1 := h.1
    cases h1 with
    | same => exact h'.1
    | ptr =>
      intro r hr
      have e1 : x = realP q := h'.1.self.symm.trans realP_den
      have e2 : r k = q := (hr k hF).trans hρ
      rw [e1]
      simp [den, den2, den1, den0, denA, e2, realP]
theorem call_at {P : Program} {g : FuncId} {vs : List Value} {h : List (Option Chunk)} {v : Value} {ms : List (Nat × Chunk)} {rh : List Nat} {q : Nat × Nat} {k : Nat} {c : Chunk} (vs' : List Value) (hk : h[k]? = some (some c)) (hx : c.x = atX q) (hvs : All2 (AtRe q k) vs vs') (hin : k ∈ rh ∨ ∃ d, (k, d) ∈ ms) (hc : CallOK P g vs' h v ms rh) : CallOK P g vs h v ms rh :=
  fun h₂ hr hm X ρ w xs H hxs => by
    have hk2 : h₂[k]? = some (some c) := by
      rcases hin with h1 | ⟨d, h1⟩
      · exact (hr k h1).trans hk
      · exact (hm _ h1).trans hk
    obtain ⟨S, E⟩ := H.ext
    have hρ : ρ k = q := by have := E.inv k c hk2; rw [hx] at this; exact this.1
    exact hc h₂ hr hm X ρ w xs H (all2_at ⟨c, hk2⟩ hρ hvs hxs)
/-- A stretch that bears nothing is told to bear what is nothing more. -/
theorem HOK.setX {X : Ctx} {ρ : Nat → Nat × Nat} {h : List (Option Chunk)} {w : World} {k n : Nat} {o : Bool} {ps : List (Nat × Nat × Value)} (H : HOK X ρ h w) (hk : h[k]? = some (some (@Chunk.mk Ext.none o n ps))) (y : Ext) (hy : ∀ S, (∀ b, ¬ S b) → y.inv (ρ k) S w) : HOK X ρ (h.set k (some (@Chunk.mk y o n ps))) w := by
  obtain ⟨S, E⟩ := H.ext
  have hkl := (List.getElem?_eq_some_iff.1 hk).1
  have get : ∀ j d, (h.set k (some (@Chunk.mk y o n ps)))[j]? = some (some d) → ∃ c : Chunk, h[j]? = some (some c) ∧ d.own = c.own ∧ d.n = c.n ∧ d.ps = c.ps ∧ (d.x = c.x ∨ (j = k ∧ d.x = y ∧ c.x = Ext.none)) := fun j d hj => by
    by_cases ej : k = j
    · subst ej
      rw [List.getElem?_set_self hkl] at hj
      obtain rfl : _ = d := by simpa using hj
      exact ⟨_, hk, rfl, rfl, rfl, .inr ⟨rfl, rfl, rfl⟩⟩
    · rw [List.getElem?_set_ne ej] at hj
      exact ⟨d, hj, rfl, rfl, rfl, .inl rfl⟩
  have fil : ∀ j, Fil h j → Fil (h.set k (some (@Chunk.mk y o n ps))) j := fun j hj => hj.set
  refine ⟨H.evo, fun i hi => ⟨fil i (H.base i hi).1, (H.base i hi).2⟩, fun j d hj => ?_, fun j d hj l hl => ?_, fun j d hj ho l hl => ?_, fun j d l f hj ho hl hne => ?_, S, fun j d hj => ?_, fun j d b hj hb => ?_, fun j d b l f hj hb hl hne => ?_⟩
  · obtain ⟨c, hc, _⟩ := get j d hj; exact H.lt j c hc
  · obtain ⟨c, hc, _, e2, e3, _⟩ := get j d hj
    obtain ⟨x, hx, hd⟩ := H.cell j c hc l (by omega)
    refine ⟨x, hx, ?_⟩
    have : d.f l = c.f l := by unfold Chunk.f; rw [e3]
    rw [this]; exact hd.more (AgreeOn.refl _ _) fil
  · obtain ⟨c, hc, e1, e2, _⟩ := get j d hj
    exact H.own j c hc (by rw [← e1]; exact ho) l (by omega)
  · obtain ⟨c, hc, e1, _⟩ := get j d hj
    obtain ⟨c2, hc2, _⟩ := get l f hl
    exact H.sep j c l c2 hc (by rw [← e1]; exact ho) hc2 hne
  · obtain ⟨c, hc, _, _, _, e⟩ := get j d hj
    rcases e with e | ⟨rfl, e, e'⟩
    · rw [e]; exact E.inv j c hc
    · have := E.inv j c hc
      rw [e'] at this
      rw [e]; exact hy _ this
  · obtain ⟨c, hc, _, e2, _⟩ := get j d hj
    rw [e2]; exact E.mine j c b hc hb
  · obtain ⟨c, hc, _⟩ := get j d hj
    obtain ⟨c2, hc2, _⟩ := get l f hl
    exact E.apart j c b l c2 hc hb hc2 hne
/-- A new stretch's address, as it is. -/
theorem HOK.mark {X : Ctx} {ρ : Nat → Nat × Nat} {h : List (Option Chunk)} {w : World} {k n : Nat} {o : Bool} {ps : List (Nat × Nat × Value)} (H : HOK X ρ h w) (hk : h[k]? = some (some (@Chunk.mk Ext.none o n ps))) : HOK X ρ (h.set k (some (@Chunk.mk (atX (ρ k)) o n ps))) w :=
  H.setX hk _ fun S hS => ⟨rfl, hS⟩
/-- A stretch that bears nothing bears an empty family. -/
theorem HOK.famNil {α : Type} {X : Ctx} {ρ : Nat → Nat × Nat} {h : List (Option Chunk)} {w : World} {k n m : Nat} {o : Bool} {ps : List (Nat × Nat × Value)} {enc : α → Nat → Value} (H : HOK X ρ h w) (hk : h[k]? = some (some (@Chunk.mk Ext.none o n ps))) : HOK X ρ (h.set k (some (@Chunk.mk (famX m enc []) o n ps))) w :=
  H.setX hk _ fun S hS => ⟨fun b => ⟨fun hb => absurd hb (hS b), fun ⟨q, hq, _⟩ => by cases hq⟩, List.nodup_nil, fun q hq => by cases hq⟩
/-- The stretch lies at its block's beginning. -/
abbrev atZ : Ext where
  inv := fun p S _ => p.2 = 0 ∧ ∀ b, ¬ S b
  keep := fun h _ => h
theorem N_endFam {α : Type} {ss : List Piece} {h : List (Option Chunk)} {v : Value} {K : Value → List (Option Chunk) → Prop} {k n : Nat} {o : Bool} {ps : List (Nat × Nat × Value)} (m : Nat) (enc : α → Nat → Value) (hk : h[k]? = some (some (@Chunk.mk Ext.none o n ps))) (kk : N (EndN ss (h.set k (some (@Chunk.mk (famX m enc []) o n ps))) v K)) : N (EndN ss h v K) :=
  N.mk fun X ρ w x T H hd => N.out kk X ρ w x T (H.famNil hk) (hd.more (AgreeOn.refl _ _) fun j hj => hj.set)
/-- A new stretch's address is told as it is. -/
theorem N_endMark {ss : List Piece} {h : List (Option Chunk)} {v : Value} {K : Value → List (Option Chunk) → Prop} {k n : Nat} {o : Bool} {ps : List (Nat × Nat × Value)} (v' : Nat × Nat → Value) (hk : h[k]? = some (some (@Chunk.mk Ext.none o n ps))) (hv : ∀ q ρ, ρ k = q → den ρ v = den ρ (v' q)) (kk : ∀ q, N (EndN ss (h.set k (some (@Chunk.mk (atX q) o n ps))) (v' q) K)) : N (EndN ss h v K) :=
  N.mk fun X ρ w x T H hd => N.out (kk (ρ k)) X ρ w x T (H.mark hk) (fun r hr => by
    have h1 : AgreeOn (Fil h) ρ r := fun i hi => hr i hi.set
    rw [← hv (ρ k) r (h1 k ⟨_, hk⟩)]
    exact hd r h1)
/-- A stretch is laid into a family at a callee's end. -/
theorem N_endFamIn {α : Type} {ss : List Piece} {h : List (Option Chunk)} {v : Value} {K : Value → List (Option Chunk) → Prop} {i k n m : Nat} {ps : List (Nat × Nat × Value)} {enc : α → Nat → Value} {F : List ((Nat × Nat) × α)} {q : Nat × Nat} {e : Chunk} (a : α) (hm : 0 < m) (hn : 0 < n) (hi : h[i]? = some (some (@Chunk.mk (famX n enc F) true m ps))) (hk : h[k]? = some (some e)) (hik : i ≠ k) (hkb : ss.length ≤ k)
    (hib : i < ss.length → ∃ s, ss[i]? = some s ∧ s.e.x ≠ Ext.none ∧ Selfish s.e.x) (hex : e.x = atX q) (heo : e.own = true) (hen : n ≤ e.n) (hef : ∀ j, j < n → e.f j = enc a j) (hpl : ∀ j, j < n → plain1 (enc a j) = true)
    (hsc : ∀ (l : Nat) (d : Chunk), l ≠ k → h[l]? = some (some d) → ∀ j, j < d.n → ∀ ρ ρ', (∀ l, l ≠ k → ρ' l = ρ l) → den1 ρ' (d.f j) = den1 ρ (d.f j)) (hv : plain3 v = true)
    (kk : (∀ x ∈ F, x.1 ≠ q) → N (EndN ss ((h.set i (some (@Chunk.mk (famX n enc ((q, a) :: F)) true m ps))).set k none) v K)) : N (EndN ss h v K) :=
  N.mk fun X ρ w x T H hd => by
    have mi : May X (ρ i).1 := by
      by_cases hl : i < ss.length
      · obtain ⟨s, h1, h2, h3⟩ := hib hl
        exact T.mayX H h1 h2 h3
      · exact T.may H hi rfl hm (by omega)
    have mk : May X (ρ k).1 := T.may H hk heo (by omega) hkb
    have H2 := H.famIn hm hn hi hk hik (by rw [T.n0]; exact hkb) mi mk hex heo hen hef hpl hsc
    have hne : ∀ x ∈ F, x.1 ≠ q := fun y hy e' => by
      obtain ⟨S, E⟩ := H.ext
      have FO : FamOK n enc F (S i) w := E.inv i _ hi
      have hρ : ρ k = q := by have := E.inv k e hk; rw [hex] at this; exact this.1
      have := (E.apart i _ _ k e hi ((FO.dom _).2 ⟨y, hy, rfl⟩) hk (Ne.symm hik)).1
      rw [hρ, e'] at this; exact this rfl
    exact N.out (kk hne) X ρ w x T H2 (fun r hr => by rw [den_plain3 hv, ← hd.self, den_plain3 hv])
end Go.Proofs.Ytpafcfelaaibgaa.Sx
