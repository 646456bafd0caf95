
/-
  Loops in whose rounds a stretch of memory gives way to a new one: at the head the new one has the old one's number.
-/
import Derived.Test.YtbepibdjlajppaaDoorEngB
set_option linter.unusedVariables false
set_option linter.unusedSimpArgs false
namespace Go.Proofs.YtbepibdjlajppaaDoor.Sx
open Go Go.RowKit

/-- The number with the callee of a number at the head. -/
def ixI : List (Nat × Nat) → Nat → Option Nat
  | [], _ => none
  | (k, i) :: r, n => match Nat.beq i n with
    | true => some k
    | false => ixI r n
def ixFree : List (Nat × Nat) → Nat → Nat → Bool
  | [], _, _ => true
  | (k, i) :: r, a, b => (!Nat.beq k a && !Nat.beq i b) && ixFree r a b
def ixNo : List (Nat × Nat) → Bool
  | [] => true
  | (k, i) :: r => ixFree r k i && ixNo r
def ixBase (ix : List (Nat × Nat)) : Nat → Bool
  | 0 => true
  | n + 1 => (match ixI ix n with
    | some k => Nat.beq k n
    | none => false) && ixBase ix n
def ixFil (h : List (Option Chunk)) : List (Nat × Nat) → Bool
  | [] => true
  | (_, i) :: r => filB h i && ixFil h r
theorem ixFree_out : ∀ {ix : List (Nat × Nat)} {a b : Nat}, ixFree ix a b = true → ∀ k i, (k, i) ∈ ix → k ≠ a ∧ i ≠ b
  | [], _, _, _, k, i, h => by simp at h
  | (x, y) :: r, a, b, h, k, i, hm => by
    simp only [ixFree, Bool.and_eq_true, Bool.not_eq_true'] at h
    rcases List.mem_cons.1 hm with e | hm
    · simp only [Prod.mk.injEq] at e
      obtain ⟨rfl, rfl⟩ := e
      exact ⟨fun e => by subst e; simp at h, fun e => by subst e; simp at h⟩
    · exact ixFree_out h.2 k i hm
theorem ixNo_out : ∀ {ix : List (Nat × Nat)}, ixNo ix = true → ∀ k i k' i', (k, i) ∈ ix → (k', i') ∈ ix → ((k = k' ∨ i = i') → k = k' ∧ i = i')
  | [], _, k, i, k', i', h, _, _ => by simp at h
  | (x, y) :: r, hn, k, i, k', i', h, h', he => by
    simp only [ixNo, Bool.and_eq_true] at hn
    rcases List.mem_cons.1 h with e | hm <;> rcases List.mem_cons.1 h' with e' | hm'
    · simp only [Prod.mk.injEq] at e e'; omega
    · simp only [Prod.mk.injEq] at e
      have := ixFree_out hn.1 k' i' hm'
      omega
    · simp only [Prod.mk.injEq] at e'
      have := ixFree_out hn.1 k i hm
      omega
    · exact ixNo_out hn.2 k i k' i' hm hm' he
theorem ixI_mem : ∀ {ix : List (Nat × Nat)} {i k : Nat}, ixI ix i = some k → (k, i) ∈ ix
  | [], _, _, h => by cases h
  | (a, b) :: r, i, k, h => by
    simp only [ixI] at h
    cases e : Nat.beq b i with
    | true =>
      rw [e] at h
      have := Nat.eq_of_beq_eq_true e
      simp only [Option.some.injEq] at h
      subst this h; simp
    | false => rw [e] at h; exact List.mem_cons_of_mem _ (ixI_mem h)
theorem ixI_of : ∀ {ix : List (Nat × Nat)} {i k : Nat}, ixNo ix = true → (k, i) ∈ ix → ixI ix i = some k
  | [], _, _, _, h => by simp at h
  | (a, b) :: r, i, k, hn, h => by
    simp only [ixI]
    cases e : Nat.beq b i with
    | true =>
      have e := Nat.eq_of_beq_eq_true e
      subst e
      have := (ixNo_out hn a b k b (by simp) h (.inr rfl)).1
      rw [this]
    | false =>
      simp only [ixNo, Bool.and_eq_true] at hn
      rcases List.mem_cons.1 h with e' | hm
      · simp only [Prod.mk.injEq] at e'
        obtain ⟨rfl, rfl⟩ := e'
        rw [Nat.beq_refl] at e; cases e
      · exact ixI_of hn.2 hm
theorem ixBase_out {ix : List (Nat × Nat)} : ∀ {n : Nat}, ixBase ix n = true → ∀ i, i < n → ixI ix i = some i
  | 0, _, i, h => absurd h (by omega)
  | n + 1, hb, i, h => by
    simp only [ixBase, Bool.and_eq_true] at hb
    rcases Nat.lt_or_ge i n with h1 | h1
    · exact ixBase_out hb.2 i h1
    · obtain rfl : i = n := by omega
      cases e : ixI ix i with
      | none => rw [e] at hb; simp at hb
      | some k => rw [e] at hb; simp only at hb; rw [Nat.eq_of_beq_eq_true hb.1]
theorem ixFil_out {h : List (Option Chunk)} : ∀ {ix : List (Nat × Nat)}, ixFil h ix = true → ∀ k i, (k, i) ∈ ix → Fil h i
  | [], _, k, i, hm => by simp at hm
  | (a, b) :: r, hb, k, i, hm => by
    simp only [ixFil, Bool.and_eq_true] at hb
    rcases List.mem_cons.1 hm with e | hm
    · simp only [Prod.mk.injEq] at e
      obtain ⟨rfl, rfl⟩ := e
      exact filB_iff.1 hb.1
    · exact ixFil_out hb.2 k i hm

/-- A stretch at the head, out of one at the round's end. -/
class XLe (c' c : Chunk) : Prop where
  le : c'.x = Ext.none ∨ c'.x = c.x
instance XLe.none {o : Bool} {n : Nat} {ps : List (Nat × Nat × Value)} {c : Chunk} : XLe (@Chunk.mk Ext.none o n ps) c := ⟨.inl rfl⟩
instance XLe.refl (c : Chunk) : XLe c c := ⟨.inr rfl⟩
structure ChunkReLe (ix : List (Nat × Nat)) (c' c : Chunk) : Prop where
  [x : XLe c' c]
  own : c'.own = true → c.own = true
  le : c'.n ≤ c.n
  re : ∀ j, j < c'.n → Re1 ix (c'.f j) (c.f j)
theorem ChunkReLe.same {ix : List (Nat × Nat)} {o : Bool} {n : Nat} {ps : List (Nat × Nat × Value)} (hp : ∀ j, j < n → plain1 (cellOf ps j) = true) : ChunkReLe ix ⟨o, n, ps⟩ ⟨o, n, ps⟩ := ⟨id, Nat.le_refl _, fun j hj => .plain (hp j hj)⟩
def renT (ix : List (Nat × Nat)) : List (Option Value) → List (Option Value) → Prop → Prop
  | [], [], A => A
  | _ :: a, none :: b, A => renT ix a b A
  | some u :: a, some v :: b, A => N (Obl (Re ix v u) (renT ix a b A))
  | _, _, _ => False
def renH (ix : List (Nat × Nat)) (h : List (Option Chunk)) : List (Option Chunk) → Nat → Prop → Prop
  | [], _, A => A
  | none :: b, i, A => renH ix h b (i + 1) A
  | some c' :: b, i, A => match ixI ix i with
    | some k => getH h k fun c => N (Obl (ChunkReLe ix c' c) (renH ix h b (i + 1) A))
    | none => False
def renK (n0 : Nat) (ix : List (Nat × Nat)) (st s : St) (A : Prop) : Prop :=
  match st, s with
  | ⟨t, h⟩, ⟨t', h'⟩ => match ixNo ix && ixBase ix n0 && ixFil h' ix with
    | true => renT ix t t' (renH ix h h' 0 A)
    | false => False
theorem renT_out {ix : List (Nat × Nat)} : ∀ {t t' : List (Option Value)} {A : Prop}, renT ix t t' A → t'.length = t.length ∧ (∀ (i : Nat) (v : Value), t'[i]? = some (some v) → ∃ u, t[i]? = some (some u) ∧ Re ix v u) ∧ A
  | [], [], A, h => ⟨rfl, fun i v hi => by simp at hi, h⟩
  | x :: a, none :: b, A, h => by
    have h : renT ix a b A := by cases x <;> exact h
    obtain ⟨h1, h2, h3⟩ := renT_out h
    refine ⟨by simp [h1], fun i v hi => ?_, h3⟩
    cases i with
    | zero => simp at hi
    | succ i => simpa using h2 i v (by simpa using hi)
  | some u :: a, some v :: b, A, h => by
    obtain ⟨e, h⟩ := N.out h
    obtain ⟨h1, h2, h3⟩ := renT_out h
    refine ⟨by simp [h1], fun i w hi => ?_, h3⟩
    cases i with
    | zero => simp at hi; subst hi; exact ⟨u, rfl, e⟩
    | succ i => simpa using h2 i w (by simpa using hi)
  | none :: a, some v :: b, A, h => h.elim
  | [], _ :: _, A, h => h.elim
  | _ :: _, [], A, h => by cases ‹Option Value› <;> exact h.elim
theorem renH_out {ix : List (Nat × Nat)} {h : List (Option Chunk)} : ∀ {b : List (Option Chunk)} {i0 : Nat} {A : Prop}, renH ix h b i0 A → (∀ (i : Nat) (c' : Chunk), b[i]? = some (some c') → ∃ k c, ixI ix (i0 + i) = some k ∧ h[k]? = some (some c) ∧ ChunkReLe ix c' c) ∧ A
  | [], i0, A, hh => ⟨fun i c' hi => by simp at hi, hh⟩
  | none :: b, i0, A, hh => by
    obtain ⟨h1, h2⟩ := renH_out (b := b) hh
    refine ⟨fun i c' hi => ?_, h2⟩
    cases i with
    | zero => simp at hi
    | succ i => have := h1 i c' (by simpa using hi); rwa [show i0 + 1 + i = i0 + (i + 1) from by omega] at this
  | some c0 :: b, i0, A, hh => by
    simp only [renH] at hh
    split at hh
    · rename_i k hk
      obtain ⟨c, hc, hh⟩ := getH_out hh
      obtain ⟨e, hh⟩ := N.out hh
      obtain ⟨h1, h2⟩ := renH_out (b := b) hh
      refine ⟨fun i c' hi => ?_, h2⟩
      cases i with
      | zero => simp at hi; subst hi; exact ⟨k, c, hk, hc, e⟩
      | succ i => have := h1 i c' (by simpa using hi); rwa [show i0 + 1 + i = i0 + (i + 1) from by omega] at this
    · exact hh.elim
theorem ren_out {n0 : Nat} {ix : List (Nat × Nat)} {st s : St} {A : Prop} (hh : renK n0 ix st s A) : Wkg n0 st s ∧ A := by
  obtain ⟨t, h⟩ := st
  obtain ⟨t', h'⟩ := s
  simp only [renK] at hh
  cases hb : ixNo ix && ixBase ix n0 && ixFil h' ix with
  | false => rw [hb] at hh; exact hh.elim
  | true =>
    rw [hb] at hh
    simp only [Bool.and_eq_true] at hb
    obtain ⟨a1, a2, hh⟩ := renT_out hh
    obtain ⟨b1, hA⟩ := renH_out hh
    refine ⟨fun X ρ a w hn R => ?_, hA⟩
    subst hn
    let ρ' : Nat → Nat × Nat := fun i => match ixI ix i with
      | some k => ρ k
      | none => ρ i
    have hρ : ∀ k i, (k, i) ∈ ix → ρ' i = ρ k := fun k i hm => by
      show (match ixI ix i with | some k => ρ k | none => ρ i) = ρ k
      rw [ixI_of hb.1.1 hm]
    have hr : ∀ r, AgreeOn (Fil h') ρ' r → ∀ k i, (k, i) ∈ ix → r i = ρ k := fun r hrr k i hm => (hrr i (ixFil_out hb.2 k i hm)).trans (hρ k i hm)
    have hat : ∀ i c', h'[i]? = some (some c') → ∃ k c, (k, i) ∈ ix ∧ h[k]? = some (some c) ∧ ChunkReLe ix c' c := fun i c' hi => by
      obtain ⟨k, c, h1, h2, h3⟩ := b1 i c' hi
      rw [Nat.zero_add] at h1
      exact ⟨k, c, ixI_mem h1, h2, h3⟩
    refine ⟨ρ', R.defers, R.size.trans a1.symm, fun i v hi => ?_, R.heap.evo, fun i hi => ?_, fun i c' hi => ?_, fun i c' hi j hj => ?_, fun i c' hi ho j hj => ?_, fun i c' j d' hi ho hj hne => ?_, ?_⟩
    · obtain ⟨u, hu, hre⟩ := a2 i v hi
      obtain ⟨x, hx, hd⟩ := R.slot i u hu
      exact ⟨x, hx, fun r hrr => (hre.den (hr r hrr)).trans hd.self⟩
    · have hm := ixI_mem (ixBase_out hb.1.2 i hi)
      exact ⟨ixFil_out hb.2 i i hm, (hρ i i hm).trans (R.heap.base i hi).2⟩
    · obtain ⟨k, c, hm, hc, _⟩ := hat i c' hi
      rw [hρ k i hm]; exact R.heap.lt k c hc
    · obtain ⟨k, c, hm, hc, L⟩ := hat i c' hi
      obtain ⟨x, hx, hd⟩ := R.heap.cell k c hc j (Nat.lt_of_lt_of_le hj L.le)
      rw [hρ k i hm]
      exact ⟨x, hx, fun r hrr => ((L.re j hj).den (hr r hrr)).trans hd.self⟩
    · obtain ⟨k, c, hm, hc, L⟩ := hat i c' hi
      rw [hρ k i hm]
      exact R.heap.own k c hc (L.own ho) j (Nat.lt_of_lt_of_le hj L.le)
    · obtain ⟨k, c, hm, hc, L⟩ := hat i c' hi
      obtain ⟨l, d, hm', hd, _⟩ := hat j d' hj
      rw [hρ k i hm, hρ l j hm']
      exact R.heap.sep k c l d hc (L.own ho) hd fun e => hne (ixNo_out hb.1.1 k i l j hm hm' (.inl e)).2
    · obtain ⟨S, E⟩ := R.heap.ext
      refine ⟨fun i b => ∃ k c', (k, i) ∈ ix ∧ h'[i]? = some (some c') ∧ c'.x ≠ Ext.none ∧ S k b, fun i c' hi => ?_, fun i c' b hi hS => ?_, fun i c' b j d' hi hS hj hne => ?_⟩
      · obtain ⟨k, c, hm, hc, L⟩ := hat i c' hi
        by_cases en : c'.x = Ext.none
        · rw [en]
          rintro b ⟨_, c'', _, hi', h1, _⟩
          rw [hi] at hi'
          obtain rfl : c' = c'' := by simpa using hi'
          exact h1 en
        · have : (fun b => ∃ k c', (k, i) ∈ ix ∧ h'[i]? = some (some c') ∧ c'.x ≠ Ext.none ∧ S k b) = S k := by
            funext b
            refine propext ⟨?_, fun hb => ⟨k, c', hm, hi, en, hb⟩⟩
            rintro ⟨k', _, hm', _, _, hb'⟩
            rw [(ixNo_out hb.1.1 k i k' i hm hm' (.inr rfl)).1]; exact hb'
          rw [this, hρ k i hm]
          rcases L.x.le with e | e
          · exact absurd e en
          · rw [e]; exact E.inv k c hc
      · obtain ⟨k, c, hm, hc, L⟩ := hat i c' hi
        obtain ⟨k', _, hm', _, _, hb'⟩ := hS
        rw [← (ixNo_out hb.1.1 k i k' i hm hm' (.inr rfl)).1] at hb'
        obtain ⟨h1, h2, h3⟩ := E.mine k c b hc hb'
        have := L.le
        exact ⟨by rw [hρ k i hm]; omega, h2, h3⟩
      · obtain ⟨k, c, hm, hc, L⟩ := hat i c' hi
        obtain ⟨k', _, hm', _, _, hb'⟩ := hS
        rw [← (ixNo_out hb.1.1 k i k' i hm hm' (.inr rfl)).1] at hb'
        obtain ⟨l, d, hml, hd, _⟩ := hat j d' hj
        obtain ⟨a1, a2⟩ := E.apart k c b l d hc hb' hd fun e => hne (ixNo_out hb.1.1 l j k i hml hm (.inl e)).2
        refine ⟨by rw [hρ l j hml]; exact a1, ?_⟩
        rintro ⟨l', _, hml', _, _, hbl⟩
        rw [← (ixNo_out hb.1.1 l j l' j hml hml' (.inr rfl)).1] at hbl
        exact a2 hbl

def NextR {α : Type} (p : α → Prop) (K : List (Nat × Nat) → α → Prop) : Prop := ∃ y ix, p y ∧ K ix y
theorem N.nextR {α : Type} {p : α → Prop} {K : List (Nat × Nat) → α → Prop} (y : α) (ix : List (Nat × Nat)) (hp : p y) (k : K ix y) : N (NextR p K) := N.mk ⟨y, ix, hp, k⟩
section
variable {P : Program} {G : Tys}
theorem nonesK_iff : ∀ {n : Nat} {K : List (Option Chunk) → Prop}, nonesK n K ↔ K (List.replicate n none)
  | 0, K => Iff.rfl
  | n + 1, K => nonesK_iff (n := n) (K := fun r => K (none :: r))
theorem appK_iff : ∀ {h : List (Option Chunk)} {n : Nat} {K : List (Option Chunk) → Prop}, appK h n K ↔ K (h ++ List.replicate n none)
  | [], n, K => nonesK_iff
  | x :: r, n, K => appK_iff (h := r) (n := n) (K := fun r' => K (x :: r'))
/-- As N.loop; what the head is told of may have other numbers at a round's end. Three more numbers are free at the head. -/
theorem N.loopR {n0 : Nat} {c : Code} {A : (Exit → St → Prop) → St → Prop} {Q : Exit → St → Prop} {t : List (Option Value)} {h : List (Option Chunk)} {α : Type} (inv : α → Prop) (μ : α → Nat) (sets : α → List (Nat × Value)) (hs : α → List (Nat × Chunk)) (x0 : α) (ix0 : List (Nat × Nat)) (h0 : inv x0)
    (hw : updK (maskC c) (sets x0) t 0 fun t' => appK h 3 fun hp => setM hp (hs x0) fun h' => renK n0 ix0 ⟨t, h⟩ ⟨t', h'⟩ (N True))
    (hr : ∀ x, inv x → updK (maskC c) (sets x) t 0 fun t' => appK h 3 fun hp => setM hp (hs x) fun h' => A (thenQ (fun s => N (NextR (fun y => inv y ∧ μ y < μ x) fun ix y => updK (maskC c) (sets y) t 0 fun t'' => appK h 3 fun hp => setM hp (hs y) fun h'' => renK n0 ix s ⟨t'', h''⟩ (N True))) Q) ⟨t', h'⟩) : N (LoopN P G n0 c A Q ⟨t, h⟩) := by
  refine N.mk ⟨α, fun x => ⟨updT (maskC c) (sets x) t 0, modH (h ++ List.replicate 3 none) (hs x)⟩, inv, μ, fun x s => N (NextR (fun y => inv y ∧ μ y < μ x) fun ix y => updK (maskC c) (sets y) t 0 fun t'' => appK h 3 fun hp => setM hp (hs y) fun h'' => renK n0 ix s ⟨t'', h''⟩ (N True)), fun x s hq => ?_, ⟨x0, h0, (ren_out (setM_iff.1 (appK_iff.1 (updK_iff.1 hw)))).1⟩, fun x hx => setM_iff.1 (appK_iff.1 (updK_iff.1 (hr x hx)))⟩
  obtain ⟨y, ix, ⟨hy, hlt⟩, hk⟩ := N.out hq
  exact ⟨y, hy, (ren_out (setM_iff.1 (appK_iff.1 (updK_iff.1 hk)))).1, hlt⟩
end
end Go.Proofs.YtbepibdjlajppaaDoor.Sx
