/-
  Sx, loops and calls on memory: the rules by which a proof goes round.
-/
import Derived.Test.YtfpmmahonddpoaaSf
set_option linter.unusedVariables false
set_option linter.unusedSimpArgs false
namespace Go.Proofs.Ytfpmmahonddpoaa.Sx
open Go Go.RowKit

/-! ### Which slots a piece of code writes -/
def maskO : List Oper → Nat
  | [] => 0
  | o :: os => match o.dst with
    | some d => Nat.lor (2 ^ d) (maskO os)
    | none => maskO os
noncomputable def maskC (c : Code) : Nat :=
  Code.rec (motive := fun _ => Nat) 0 (fun _ ops _ => maskO ops.toList) (fun _ _ a b => Nat.lor a b) (fun _ _ _ a b => Nat.lor a b) (fun _ _ a => a) (fun _ a => a) (fun _ _ _ _ a b => Nat.lor a b) (fun _ => 0) (fun _ a => a) (fun _ => 0) (fun _ => 0) 0 (fun _ => 0) c
def findN : List (Nat × Value) → Nat → Option Value
  | [], _ => none
  | (i, v) :: r, k => match Nat.beq i k with
    | true => some v
    | false => findN r k
def updT (m : Nat) (sets : List (Nat × Value)) : List (Option Value) → Nat → List (Option Value)
  | [], _ => []
  | x :: r, k => (match findN sets k with
    | some v => some v
    | none => match Nat.testBit m k with
      | true => none
      | false => x) :: updT m sets r (k + 1)
def updK (m : Nat) (sets : List (Nat × Value)) : List (Option Value) → Nat → (List (Option Value) → Prop) → Prop
  | [], _, K => K []
  | x :: r, k, K => match findN sets k with
    | some v => updK m sets r (k + 1) fun l => K (some v :: l)
    | none => match Nat.testBit m k with
      | true => updK m sets r (k + 1) fun l => K (none :: l)
      | false => updK m sets r (k + 1) fun l => K (x :: l)
theorem updK_iff {m : Nat} {sets : List (Nat × Value)} : ∀ {t : List (Option Value)} {k : Nat} {K : List (Option Value) → Prop}, updK m sets t k K ↔ K (updT m sets t k)
  | [], k, K => Iff.rfl
  | x :: r, k, K => by
    simp only [updK, updT]
    cases findN sets k with
    | some v => exact updK_iff
    | none =>
      cases Nat.testBit m k with
      | true => exact updK_iff
      | false => exact updK_iff

/-! ### What is still known at the head of a loop -/
def ChunkLe (c' c : Chunk) : Prop := (c'.own = true → c.own = true) ∧ c'.n ≤ c.n ∧ ∀ j, j < c'.n → c'.f j = c.f j
theorem ChunkLe.of {o : Bool} {n : Nat} {p q : List (Nat × Nat × Value)} (h : p = q) : ChunkLe ⟨o, n, p⟩ ⟨o, n, q⟩ := by subst h; exact ⟨id, Nat.le_refl _, fun _ _ => rfl⟩
theorem ChunkLe.refl (c : Chunk) : ChunkLe c c := ⟨id, Nat.le_refl _, fun _ _ => rfl⟩
def filB (h : List (Option Chunk)) (i : Nat) : Bool :=
  match nthL h i with
  | some (some _) => true
  | _ => false
theorem filB_iff {h : List (Option Chunk)} {i : Nat} : filB h i = true ↔ Fil h i := by
  unfold filB Fil
  rw [nthL_eq]
  cases h[i]? with
  | none => simp
  | some c => cases c <;> simp
def Safe1 (h : List (Option Chunk)) (v : Value) : Prop :=
  match v with
  | .pointer (some ⟨i, _, some _⟩) => filB h i = true
  | .slice (some ⟨i, _, some _⟩) _ _ => filB h i = true
  | .func _ _ _ => False
  | _ => True
def Safe (h : List (Option Chunk)) (v : Value) : Prop :=
  match v with
  | .agg cs => ∀ x ∈ cs.toList, Safe1 h x
  | .tuple _ => False
  | v => Safe1 h v
theorem Safe1.scoped {h : List (Option Chunk)} {v : Value} (hs : Safe1 h v) : Scoped1 (Fil h) v := fun ρ ρ' ha => by
  cases v with
  | pointer a => cases a with
    | none => rfl
    | some a =>
      obtain ⟨i, o, s⟩ := a
      cases s with
      | none => rfl
      | some s => have := ha i (filB_iff.1 hs); simp [den1, den0, denA, this]
  | slice a l c => cases a with
    | none => rfl
    | some a =>
      obtain ⟨i, o, s⟩ := a
      cases s with
      | none => rfl
      | some s => have := ha i (filB_iff.1 hs); simp [den1, den0, denA, this]
  | func f x y => exact hs.elim
  | _ => rfl
theorem Safe.scoped {h : List (Option Chunk)} {v : Value} (hs : Safe h v) : Scoped (Fil h) v := fun ρ ρ' ha => by
  cases v with
  | agg cs =>
    simp only [den, den2, Value.agg.injEq]
    apply Array.toList_inj.1
    rw [Array.toList_map, Array.toList_map]
    exact List.map_congr_left fun x hx => (hs x hx).scoped ρ ρ' ha
  | tuple vs => exact hs.elim
  | _ => (simp only [Safe] at hs; exact Safe1.scoped hs ρ ρ' ha)
def dropB : List (Option Chunk) → List (Option Chunk) → Bool
  | some _ :: a, some _ :: b => dropB a b
  | none :: a, _ :: b => dropB a b
  | some _ :: _, none :: _ => true
  | some _ :: _, [] => true
  | none :: a, [] => dropB a []
  | [], _ => false
theorem dropB_out : ∀ {a b : List (Option Chunk)}, dropB a b = false → ∀ i, Fil a i → Fil b i
  | some _ :: a, some d :: b, h, 0, _ => ⟨d, rfl⟩
  | some _ :: a, some d :: b, h, i + 1, hf => by obtain ⟨c, hc⟩ := dropB_out (a := a) (b := b) h i (by obtain ⟨c, hc⟩ := hf; exact ⟨c, by simpa using hc⟩); exact ⟨c, by simpa using hc⟩
  | none :: a, _ :: b, h, 0, hf => by obtain ⟨c, hc⟩ := hf; simp at hc
  | none :: a, _ :: b, h, i + 1, hf => by
    obtain ⟨c, hc⟩ := dropB_out (a := a) (b := b) (by cases ‹Option Chunk› <;> exact h) i (by obtain ⟨c, hc⟩ := hf; exact ⟨c, by simpa using hc⟩)
    exact ⟨c, by simpa using hc⟩
  | some _ :: _, none :: _, h, _, _ => by simp [dropB] at h
  | some _ :: _, [], h, _, _ => by simp [dropB] at h
  | none :: a, [], h, 0, hf => by obtain ⟨c, hc⟩ := hf; simp at hc
  | none :: a, [], h, i + 1, hf => by
    obtain ⟨c, hc⟩ := dropB_out (a := a) (b := []) h i (by obtain ⟨c, hc⟩ := hf; exact ⟨c, by simpa using hc⟩)
    simp at hc
  | [], _, _, i, hf => by obtain ⟨c, hc⟩ := hf; simp at hc

def wkT (h' : List (Option Chunk)) (drop : Bool) : List (Option Value) → List (Option Value) → Prop → Prop
  | [], [], A => A
  | _ :: a, none :: b, A => wkT h' drop a b A
  | some u :: a, some v :: b, A => N (Obl (u = v) (match drop with
    | false => wkT h' drop a b A
    | true => N (Obl (Safe h' v) (wkT h' drop a b A))))
  | _, _, _ => False
def wkH (h' : List (Option Chunk)) (drop : Bool) : List (Option Chunk) → List (Option Chunk) → Prop → Prop
  | [], [], A => A
  | _ :: a, [], A => wkH h' drop a [] A
  | _ :: a, none :: b, A => wkH h' drop a b A
  | some c :: a, some c' :: b, A => N (Obl (ChunkLe c' c) (match drop with
    | false => wkH h' drop a b A
    | true => N (Obl (∀ j, j < c'.n → Safe1 h' (c'.f j)) (wkH h' drop a b A))))
  | _, _, _ => False
def wkK (n0 : Nat) (st s : St) (A : Prop) : Prop :=
  match st, s with
  | ⟨t, h⟩, ⟨t', h'⟩ => match dropB (h.take n0) h' with
    | true => False
    | false => match dropB h h' with
      | d => wkT h' d t t' (wkH h' d h h' A)
theorem wkT_out {h' : List (Option Chunk)} {drop : Bool} : ∀ {t t' : List (Option Value)} {A : Prop}, wkT h' drop t t' A →
    t'.length = t.length ∧ (∀ (i : Nat) (v : Value), t'[i]? = some (some v) → t[i]? = some (some v)) ∧ (drop = true → ∀ (i : Nat) (v : Value), t'[i]? = some (some v) → Safe h' v) ∧ A
  | [], [], A, h => ⟨rfl, fun i v hi => by simp at hi, fun _ i v hi => by simp at hi, h⟩
  | x :: a, none :: b, A, h => by
    have h : wkT h' drop a b A := by cases x <;> exact h
    obtain ⟨h1, h2, h3, h4⟩ := wkT_out h
    refine ⟨by simp [h1], fun i v hi => ?_, fun hd i v hi => ?_, h4⟩
    · cases i with
      | zero => simp at hi
      | succ i => simpa using h2 i v (by simpa using hi)
    · cases i with
      | zero => simp at hi
      | succ i => exact h3 hd i v (by simpa using hi)
  | some u :: a, some v :: b, A, h => by
    obtain ⟨e, h⟩ := N.out h
    subst e
    have hh : (drop = true → Safe h' u) ∧ wkT h' drop a b A := by
      cases drop with
      | false => exact ⟨fun e => (by cases e), h⟩
      | true => obtain ⟨hs, h⟩ := N.out h; exact ⟨fun _ => hs, h⟩
    obtain ⟨h1, h2, h3, h4⟩ := wkT_out hh.2
    refine ⟨by simp [h1], fun i v hi => ?_, fun hd i v hi => ?_, h4⟩
    · cases i with
      | zero => exact hi
      | succ i => simpa using h2 i v (by simpa using hi)
    · cases i with
      | zero => simp at hi; subst hi; exact hh.1 hd
      | succ i => exact h3 hd i v (by simpa using hi)
  | none :: a, some v :: b, A, h => h.elim
  | [], _ :: _, A, h => h.elim
  | _ :: _, [], A, h => by cases ‹Option Value› <;> exact h.elim
theorem wkH_out {h' : List (Option Chunk)} {drop : Bool} : ∀ {a b : List (Option Chunk)} {A : Prop}, wkH h' drop a b A →
    (∀ (i : Nat) (c : Chunk), b[i]? = some (some c) → ∃ d, a[i]? = some (some d) ∧ ChunkLe c d) ∧ (drop = true → ∀ (i : Nat) (c : Chunk), b[i]? = some (some c) → ∀ j, j < c.n → Safe1 h' (c.f j)) ∧ A
  | [], [], A, h => ⟨fun i v hi => by simp at hi, fun _ i v hi => by simp at hi, h⟩
  | x :: a, [], A, h => by
    have h : wkH h' drop a [] A := by cases x <;> exact h
    obtain ⟨_, _, h3⟩ := wkH_out h
    exact ⟨fun i v hi => by simp at hi, fun _ i v hi => by simp at hi, h3⟩
  | x :: a, none :: b, A, h => by
    have h : wkH h' drop a b A := by cases x <;> exact h
    obtain ⟨h1, h2, h3⟩ := wkH_out h
    refine ⟨fun i v hi => ?_, fun hd i v hi => ?_, h3⟩
    · cases i with
      | zero => simp at hi
      | succ i => simpa using h1 i v (by simpa using hi)
    · cases i with
      | zero => simp at hi
      | succ i => exact h2 hd i v (by simpa using hi)
  | some c :: a, some c' :: b, A, h => by
    obtain ⟨e, h⟩ := N.out h
    have hh : (drop = true → ∀ j, j < c'.n → Safe1 h' (c'.f j)) ∧ wkH h' drop a b A := by
      cases drop with
      | false => exact ⟨fun e => (by cases e), h⟩
      | true => obtain ⟨hs, h⟩ := N.out h; exact ⟨fun _ => hs, h⟩
    obtain ⟨h1, h2, h3⟩ := wkH_out hh.2
    refine ⟨fun i v hi => ?_, fun hd i v hi => ?_, h3⟩
    · cases i with
      | zero => simp at hi; subst hi; exact ⟨c, rfl, e⟩
      | succ i => simpa using h1 i v (by simpa using hi)
    · cases i with
      | zero => simp at hi; subst hi; exact hh.1 hd
      | succ i => exact h2 hd i v (by simpa using hi)
  | none :: a, some c' :: b, A, h => h.elim
  | [], none :: b, A, h => h.elim
  | [], some _ :: b, A, h => h.elim
theorem wk_out {n0 : Nat} {st s : St} {A : Prop} (h : wkK n0 st s A) : Wk n0 st s ∧ A := by
  obtain ⟨t, hh⟩ := st
  obtain ⟨t', h'⟩ := s
  simp only [wkK] at h
  cases hb : dropB (hh.take n0) h' with
  | true => rw [hb] at h; exact h.elim
  | false =>
    rw [hb] at h
    simp only at h
    obtain ⟨a1, a2, a3, h⟩ := wkT_out h
    obtain ⟨b1, b2, h⟩ := wkH_out h
    refine ⟨⟨a1, a2, fun i c hi => ?_, fun i hi hf => ?_, ?_⟩, h⟩
    · obtain ⟨d, hd, h1, h2, h3⟩ := b1 i c hi
      exact ⟨d, hd, h1, h2, h3⟩
    · refine dropB_out hb i ?_
      obtain ⟨c, hc⟩ := hf
      exact ⟨c, by rw [List.getElem?_take, if_pos hi]; exact hc⟩
    · cases hd : dropB hh h' with
      | false => exact .inl (dropB_out hd)
      | true =>
        refine .inr ⟨fun i v hi => (a3 hd i v hi).scoped, fun i c hi j hj => (b2 hd i c hi j hj).scoped⟩

def NextN {α : Type} (p : α → Prop) (K : α → Prop) : Prop := ∃ y, p y ∧ K y
theorem N.next {α : Type} {p : α → Prop} {K : α → Prop} (y : α) (hp : p y) (k : K y) : N (NextN p K) := N.mk ⟨y, hp, k⟩
theorem N.true : N True := N.mk trivial

section
variable {P : Program} {G : Tys}
theorem setM_iff {K : List (Option Chunk) → Prop} : ∀ {ms : List (Nat × Chunk)} {h : List (Option Chunk)}, setM h ms K ↔ K (modH h ms) := by
  have one : ∀ {l : List (Option Chunk)} {n : Nat} {v : Chunk} {K : List (Option Chunk) → Prop}, setK l n v K ↔ K (l.set n (some v)) := by
    intro l
    induction l with
    | nil => intro n v K; exact Iff.rfl
    | cons x r ih => intro n v K; cases n with
      | zero => exact Iff.rfl
      | succ n => exact ih (K := fun r' => K (x :: r'))
  intro ms
  induction ms with
  | nil => intro h; exact Iff.rfl
  | cons m ms ih => intro h; exact one.trans ih
/-- A loop: what its rounds keep (inv), which slots hold what at its head (sets), which stretches of memory hold what (hs), what falls (μ). -/
theorem N.loop {n0 : Nat} {c : Code} {A : (Exit → St → Prop) → St → Prop} {Q : Exit → St → Prop} {t : List (Option Value)} {h : List (Option Chunk)} {α : Type} (inv : α → Prop) (μ : α → Nat) (sets : α → List (Nat × Value)) (hs : α → List (Nat × Chunk)) (x0 : α) (h0 : inv x0)
    (hw : updK (maskC c) (sets x0) t 0 fun t' => setM h (hs x0) fun h' => wkK n0 ⟨t, h⟩ ⟨t', h'⟩ (N True))
    (hr : ∀ x, inv x → updK (maskC c) (sets x) t 0 fun t' => setM h (hs x) fun h' => A (thenQ (fun s => N (NextN (fun y => inv y ∧ μ y < μ x) fun y => updK (maskC c) (sets y) t 0 fun t'' => setM h (hs y) fun h'' => wkK n0 s ⟨t'', h''⟩ (N True))) Q) ⟨t', h'⟩) : N (LoopN P G n0 c A Q ⟨t, h⟩) := by
  refine N.mk ⟨α, fun x => ⟨updT (maskC c) (sets x) t 0, modH h (hs x)⟩, inv, μ, fun x s => N (NextN (fun y => inv y ∧ μ y < μ x) fun y => updK (maskC c) (sets y) t 0 fun t'' => setM h (hs y) fun h'' => wkK n0 s ⟨t'', h''⟩ (N True)), fun x s hq => ?_, ⟨x0, h0, (wk_out (setM_iff.1 (updK_iff.1 hw))).1.g⟩, fun x hx => setM_iff.1 (updK_iff.1 (hr x hx))⟩
  obtain ⟨y, ⟨hy, hlt⟩, hk⟩ := N.out hq
  exact ⟨y, hy, (wk_out (setM_iff.1 (updK_iff.1 hk))).1.g, hlt⟩
end
end Go.Proofs.Ytfpmmahonddpoaa.Sx
