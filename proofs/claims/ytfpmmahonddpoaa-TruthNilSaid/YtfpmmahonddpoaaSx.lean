/-
  Sx: a small symbolic evaluator for the operations of a function, with its soundness over the model's steps: what a region, a condition, a loop leaves in the slots and in the cells that a call knows of.
-/
import Derived.WalkKit
import Derived.WalkSpells
import Derived.WalkLawsBesides
import Derived.ProofKit
set_option linter.unusedVariables false
set_option linter.unusedSimpArgs false
namespace Go.Proofs.Ytfpmmahonddpoaa.Sx
open Go Go.RowKit

/-! ### Symbolic addresses: an address with a spot stands for a place in a known stretch of cells -/

def denA (ρ : Nat → Nat × Nat) (a : Addr) : Addr :=
  match a.spot with
  | some _ => ⟨(ρ a.block).1, (ρ a.block).2 + a.off, none⟩
  | none => a
def den0 (ρ : Nat → Nat × Nat) : Value → Value
  | .pointer (some a) => .pointer (some (denA ρ a))
  | .slice (some a) l c => .slice (some (denA ρ a)) l c
  | v => v
def den1 (ρ : Nat → Nat × Nat) : Value → Value
  | .func f x y => .func f (x.map (den0 ρ)) (y.map (den0 ρ))
  | v => den0 ρ v
def den2 (ρ : Nat → Nat × Nat) : Value → Value
  | .agg cs => .agg (cs.map (den1 ρ))
  | v => den1 ρ v
def den (ρ : Nat → Nat × Nat) : Value → Value
  | .tuple vs => .tuple (vs.map (den2 ρ))
  | v => den2 ρ v

/-- A stretch of cells: pieces laid over one another, the newest first. -/
structure Chunk where
  own : Bool
  n : Nat
  ps : List (Nat × Nat × Value)

def cellIn (v : Value) (j : Nat) : Value :=
  match v with
  | .agg cs => cs.toList.getD j undef
  | v => v
def cellOf : List (Nat × Nat × Value) → Nat → Value
  | [], _ => undef
  | (o, n, v) :: r, j => match Nat.ble o j && Nat.ble (j + 1) (o + n) with
    | true => cellIn v (j - o)
    | false => cellOf r j
theorem cellOf_cons (o n : Nat) (v : Value) (r : List (Nat × Nat × Value)) (j : Nat) : cellOf ((o, n, v) :: r) j = if o ≤ j ∧ j < o + n then cellIn v (j - o) else cellOf r j := by
  by_cases hc : o ≤ j ∧ j < o + n
  · have h : (Nat.ble o j && Nat.ble (j + 1) (o + n)) = true := by simp only [Bool.and_eq_true, Nat.ble_eq]; omega
    rw [if_pos hc]; simp only [cellOf, h]
  · have h : (Nat.ble o j && Nat.ble (j + 1) (o + n)) = false := by
      rw [Bool.eq_false_iff]; intro h; simp only [Bool.and_eq_true, Nat.ble_eq] at h; omega
    rw [if_neg hc]; simp only [cellOf, h]
def Chunk.f (c : Chunk) (j : Nat) : Value := cellOf c.ps j

structure St where
  t : List (Option Value)
  h : List (Option Chunk)

def Fil (h : List (Option Chunk)) (i : Nat) : Prop := ∃ c, h[i]? = some (some c)
def AgreeOn (F : Nat → Prop) (ρ ρ' : Nat → Nat × Nat) : Prop := ∀ i, F i → ρ' i = ρ i
def Den (F : Nat → Prop) (ρ : Nat → Nat × Nat) (v x : Value) : Prop := ∀ ρ', AgreeOn F ρ ρ' → den ρ' v = x
def Den1 (F : Nat → Prop) (ρ : Nat → Nat × Nat) (v x : Value) : Prop := ∀ ρ', AgreeOn F ρ ρ' → den1 ρ' v = x

theorem AgreeOn.refl (F : Nat → Prop) (ρ : Nat → Nat × Nat) : AgreeOn F ρ ρ := fun _ _ => rfl
theorem AgreeOn.trans {F : Nat → Prop} {a b c : Nat → Nat × Nat} (h : AgreeOn F a b) (k : AgreeOn F b c) : AgreeOn F a c := fun i hi => (k i hi).trans (h i hi)
theorem AgreeOn.less {F G : Nat → Prop} {a b : Nat → Nat × Nat} (h : AgreeOn G a b) (hi : ∀ i, F i → G i) : AgreeOn F a b := fun i hf => h i (hi i hf)
theorem Den.self {F : Nat → Prop} {ρ : Nat → Nat × Nat} {v x : Value} (h : Den F ρ v x) : den ρ v = x := h ρ (AgreeOn.refl _ _)
theorem Den1.self {F : Nat → Prop} {ρ : Nat → Nat × Nat} {v x : Value} (h : Den1 F ρ v x) : den1 ρ v = x := h ρ (AgreeOn.refl _ _)
theorem Den.more {F F' : Nat → Prop} {ρ ρ' : Nat → Nat × Nat} {v x : Value} (h : Den F ρ v x) (ha : AgreeOn F ρ ρ') (hF : ∀ i, F i → F' i) : Den F' ρ' v x :=
  fun r hr => h r (ha.trans (hr.less hF))
theorem Den1.more {F F' : Nat → Prop} {ρ ρ' : Nat → Nat × Nat} {v x : Value} (h : Den1 F ρ v x) (ha : AgreeOn F ρ ρ') (hF : ∀ i, F i → F' i) : Den1 F' ρ' v x :=
  fun r hr => h r (ha.trans (hr.less hF))

/-! ### How memory turns: what may be written is told by M -/

def ObjEvo (M : Addr → Prop) (b : Nat) (x y : Option Obj) : Prop :=
  x = y ∨ M ⟨b, 0, some 0⟩ ∨ ∃ cs ty fz cs', x = some (.cells cs ty fz) ∧ y = some (.cells cs' ty fz) ∧ cs'.size = cs.size ∧ ∀ j, ¬ M ⟨b, j, none⟩ → cs'[j]? = cs[j]?
theorem ObjEvo.trans {M : Addr → Prop} {b : Nat} {x y z : Option Obj} (h : ObjEvo M b x y) (k : ObjEvo M b y z) : ObjEvo M b x z := by
  rcases h with rfl | h | ⟨cs, ty, fz, cs', rfl, rfl, hs, hc⟩
  · exact k
  · exact .inr (.inl h)
  · rcases k with rfl | k | ⟨cs1, ty1, fz1, cs2, h1, rfl, hs1, hc1⟩
    · exact .inr (.inr ⟨cs, ty, fz, cs', rfl, rfl, hs, hc⟩)
    · exact .inr (.inl k)
    · simp only [Option.some.injEq, Obj.cells.injEq] at h1
      obtain ⟨rfl, rfl, rfl⟩ := h1
      exact .inr (.inr ⟨cs, ty, fz, cs2, rfl, rfl, hs1.trans hs, fun j hj => (hc1 j hj).trans (hc j hj)⟩)

structure Evo (M : Addr → Prop) (w w' : World) : Prop where
  os : w'.os = w.os
  tape : w'.tape = w.tape
  output : w'.output = w.output
  size : w.heap.size ≤ w'.heap.size
  block : ∀ b, b < w.heap.size → ObjEvo M b w.heap[b]? w'.heap[b]?

theorem Evo.refl (M : Addr → Prop) (w : World) : Evo M w w := ⟨rfl, rfl, rfl, Nat.le_refl _, fun _ _ => .inl rfl⟩
theorem Evo.trans {M : Addr → Prop} {a b c : World} (h : Evo M a b) (k : Evo M b c) : Evo M a c :=
  ⟨k.os.trans h.os, k.tape.trans h.tape, k.output.trans h.output, Nat.le_trans h.size k.size, fun i hi => (h.block i hi).trans (k.block i (Nat.lt_of_lt_of_le hi h.size))⟩
theorem Evo.of_below {M : Addr → Prop} {B : Nat} {w w' : World} (h : Below B w w') (hB : w.heap.size ≤ B) : Evo M w w' :=
  ⟨h.os, h.tape, h.output, h.size, fun b hb => .inl (h.block b (Nat.lt_of_lt_of_le hb hB)).symm⟩
theorem Evo.below {w w' : World} (h : Evo (fun _ => False) w w') : Below w.heap.size w w' :=
  ⟨h.os, h.tape, h.output, h.size, fun b hb => by
    rcases h.block b hb with e | e | ⟨cs, ty, fz, cs', e1, e2, hs, hc⟩
    · exact e.symm
    · exact e.elim
    · rw [e1, e2]
      have : cs' = cs := Array.ext_getElem? fun j => hc j id
      rw [this]⟩
theorem Evo.alloc {M : Addr → Prop} {w0 w : World} (h : Evo M w0 w) (o : Obj) : Evo M w0 (w.alloc o) :=
  h.trans (Evo.of_below ((Below.refl w.heap.size w).alloc (Nat.le_refl _) o) (Nat.le_refl _))
theorem Evo.drew {M : Addr → Prop} {w0 w : World} (h : Evo M w0 w) : Evo M w0 w.drew :=
  h.trans (Evo.of_below ((Below.refl w.heap.size w).drew) (Nat.le_refl _))
theorem Evo.setCell {M : Addr → Prop} {w0 w : World} (h : Evo M w0 w) {b o : Nat} (hp : w0.heap.size ≤ b ∨ M ⟨b, o, none⟩) (v : Value) : Evo M w0 (w.setCell ⟨b, o, none⟩ v) := by
  rcases hp with hp | hp
  · exact ⟨h.os, h.tape, h.output, by simpa [World.setCell] using h.size, fun k hk => by
      rw [Below.heap_setCell w ⟨b, o, none⟩ v k (by simp; omega)]; exact h.block k hk⟩
  · exact h.trans ⟨rfl, rfl, rfl, by simp [World.setCell], fun k hk => by
      by_cases e : k = b
      · subst e
        have hg : w.heap[k]? = some w.heap[k] := by simp [hk]
        cases hw : w.heap[k] with
        | cells cs ty fz =>
          refine .inr (.inr ⟨cs, ty, fz, cs.setIfInBounds o v, by rw [hg, hw], ?_, by simp, fun j hj => ?_⟩)
          · simp [World.setCell, Array.getElem?_modify, hg, hw]
          · rw [Array.getElem?_setIfInBounds]
            split
            · rename_i e; subst e; exact absurd hp hj
            · rfl
        | _ => exact .inl (by simp [World.setCell, Array.getElem?_modify, hg, hw])
      · exact .inl (Below.heap_setCell w ⟨b, o, none⟩ v k (by simpa using e)).symm⟩

/-! ### What a call knows of memory and of its slots -/

structure Ctx where
  w0 : World
  M : Addr → Prop
  n0 : Nat
  ρ0 : Nat → Nat × Nat

structure HOK (X : Ctx) (ρ : Nat → Nat × Nat) (h : List (Option Chunk)) (w : World) : Prop where
  evo : Evo X.M X.w0 w
  base : ∀ i, i < X.n0 → Fil h i ∧ ρ i = X.ρ0 i
  lt : ∀ i c, h[i]? = some (some c) → (ρ i).1 < w.heap.size
  cell : ∀ i c, h[i]? = some (some c) → ∀ j, j < c.n → ∃ x, w.cell? ⟨(ρ i).1, (ρ i).2 + j, none⟩ = some x ∧ Den1 (Fil h) ρ (c.f j) x
  own : ∀ i c, h[i]? = some (some c) → c.own = true → ∀ j, j < c.n → w.frozen? ⟨(ρ i).1, (ρ i).2 + j, none⟩ = false ∧ (X.w0.heap.size ≤ (ρ i).1 ∨ X.M ⟨(ρ i).1, (ρ i).2 + j, none⟩)
  sep : ∀ i c j d, h[i]? = some (some c) → c.own = true → h[j]? = some (some d) → i ≠ j → (ρ i).1 ≠ (ρ j).1

structure Rel (X : Ctx) (ρ : Nat → Nat × Nat) (st : St) (a : Act) (w : World) : Prop where
  defers : a.defers = []
  size : a.tmps.size = st.t.length
  slot : ∀ (i : Nat) (v : Value), st.t[i]? = some (some v) → ∃ x, a.tmps[i]? = some x ∧ Den (Fil st.h) ρ v x
  heap : HOK X ρ st.h w

def modH (h : List (Option Chunk)) : List (Nat × Chunk) → List (Option Chunk)
  | [] => h
  | (i, c) :: ms => modH (h.set i (some c)) ms

theorem Fil.set {h : List (Option Chunk)} {i j : Nat} {c : Chunk} (hf : Fil h j) : Fil (h.set i (some c)) j := by
  obtain ⟨d, hd⟩ := hf
  by_cases e : i = j
  · subst e
    exact ⟨c, by rw [List.getElem?_set_self (List.getElem?_eq_some_iff.1 hd).1]⟩
  · exact ⟨d, by rw [List.getElem?_set_ne e]; exact hd⟩
theorem Fil.mod {j : Nat} : ∀ {ms : List (Nat × Chunk)} {h : List (Option Chunk)}, Fil h j → Fil (modH h ms) j
  | [], _, hf => hf
  | (i, c) :: ms, h, hf => Fil.mod (ms := ms) hf.set

theorem Fil.of_set {h : List (Option Chunk)} {i j : Nat} {c d : Chunk} (hi : h[i]? = some (some d)) (hf : Fil (h.set i (some c)) j) : Fil h j := by
  obtain ⟨d', hd⟩ := hf
  by_cases e : i = j
  · subst e; exact ⟨d, hi⟩
  · rw [List.getElem?_set_ne e] at hd; exact ⟨d', hd⟩

theorem den_one {v : Value} (h : v.oneCell' = true) (ρ : Nat → Nat × Nat) : den ρ v = den1 ρ v := by
  cases v <;> first | rfl | simp [Value.oneCell'] at h
theorem Den.of_one {F : Nat → Prop} {ρ : Nat → Nat × Nat} {v x : Value} (h : Den1 F ρ v x) (hv : v.oneCell' = true) : Den F ρ v x := fun r hr => (den_one hv r).trans (h r hr)
theorem Den1.of_one {F : Nat → Prop} {ρ : Nat → Nat × Nat} {v x : Value} (h : Den F ρ v x) (hv : v.oneCell' = true) : Den1 F ρ v x := fun r hr => (den_one hv r).symm.trans (h r hr)

section
variable {X : Ctx} {ρ : Nat → Nat × Nat} {h : List (Option Chunk)} {w w' : World}

theorem HOK.frame (H : HOK X ρ h w) (hb : Below w.heap.size w w') : HOK X ρ h w' := by
  refine ⟨H.evo.trans (Evo.of_below hb (Nat.le_refl _)), H.base, fun i c hi => Nat.lt_of_lt_of_le (H.lt i c hi) hb.size, fun i c hi j hj => ?_, fun i c hi ho j hj => ?_, H.sep⟩
  · obtain ⟨x, hx, hd⟩ := H.cell i c hi j hj
    exact ⟨x, (hb.cell (p := ⟨(ρ i).1, (ρ i).2 + j, none⟩) (H.lt i c hi)).trans hx, hd⟩
  · obtain ⟨hx, hd⟩ := H.own i c hi ho j hj
    exact ⟨(hb.frozen (p := ⟨(ρ i).1, (ρ i).2 + j, none⟩) (H.lt i c hi)).trans hx, hd⟩

theorem HOK.drew (H : HOK X ρ h w) : HOK X ρ h w.drew := H.frame ((Below.refl _ _).drew)

/-- Another way to say what a stretch holds. -/
theorem HOK.say {i : Nat} {c d : Chunk} (H : HOK X ρ h w) (hi : h[i]? = some (some c)) (ho : d.own = true → c.own = true) (hn : d.n ≤ c.n) (hf : ∀ j, j < d.n → d.f j = c.f j) : HOK X ρ (h.set i (some d)) w := by
  have hl := (List.getElem?_eq_some_iff.1 hi).1
  have get : ∀ k e, (h.set i (some d))[k]? = some (some e) → (k = i ∧ e = d) ∨ (k ≠ i ∧ h[k]? = some (some e)) := fun k e hk => by
    by_cases ek : i = k
    · subst ek
      rw [List.getElem?_set_self hl] at hk
      exact .inl ⟨rfl, by simpa using hk.symm⟩
    · rw [List.getElem?_set_ne ek] at hk
      exact .inr ⟨fun h => ek h.symm, hk⟩
  have fil : ∀ k, Fil h k → Fil (h.set i (some d)) k := fun k hk => hk.set
  refine ⟨H.evo, fun k hk => ⟨fil k (H.base k hk).1, (H.base k hk).2⟩, fun k e hk => ?_, fun k e hk j hj => ?_, fun k e hk hoe j hj => ?_, fun k e l f hk hoe hlf hne => ?_⟩
  · rcases get k e hk with ⟨rfl, rfl⟩ | ⟨_, hk⟩
    · exact H.lt _ _ hi
    · exact H.lt _ _ hk
  · rcases get k e hk with ⟨rfl, rfl⟩ | ⟨_, hk⟩
    · obtain ⟨x, hx, hd⟩ := H.cell _ _ hi j (Nat.lt_of_lt_of_le hj hn)
      exact ⟨x, hx, by rw [hf j hj]; exact hd.more (AgreeOn.refl _ _) fil⟩
    · obtain ⟨x, hx, hd⟩ := H.cell _ _ hk j hj
      exact ⟨x, hx, hd.more (AgreeOn.refl _ _) fil⟩
  · rcases get k e hk with ⟨rfl, rfl⟩ | ⟨_, hk⟩
    · exact H.own _ _ hi (ho hoe) j (Nat.lt_of_lt_of_le hj hn)
    · exact H.own _ _ hk hoe j hj
  · rcases get k e hk with ⟨rfl, rfl⟩ | ⟨hk1, hk'⟩ <;> rcases get l f hlf with ⟨rfl, rfl⟩ | ⟨hl1, hl'⟩
    · exact absurd rfl hne
    · exact H.sep _ _ _ _ hi (ho hoe) hl' hne
    · exact H.sep _ _ _ _ hk' hoe hi hne
    · exact H.sep _ _ _ _ hk' hoe hl' hne

/-- One cell is written. -/
theorem HOK.store {i o : Nat} {c d : Chunk} {v x : Value} (H : HOK X ρ h w) (hi : h[i]? = some (some c)) (ho : c.own = true) (hod : d.own = true) (hn : d.n = c.n) (hlt : o < c.n) (hv : Den1 (Fil h) ρ v x)
    (hf : ∀ j, j < c.n → d.f j = if j = o then v else c.f j) : HOK X ρ (h.set i (some d)) (w.setCell ⟨(ρ i).1, (ρ i).2 + o, none⟩ x) := by
  have hl := (List.getElem?_eq_some_iff.1 hi).1
  have get : ∀ k e, (h.set i (some d))[k]? = some (some e) → (k = i ∧ e = d) ∨ (k ≠ i ∧ h[k]? = some (some e)) := fun k e hk => by
    by_cases ek : i = k
    · subst ek
      rw [List.getElem?_set_self hl] at hk
      exact .inl ⟨rfl, by simpa using hk.symm⟩
    · rw [List.getElem?_set_ne ek] at hk
      exact .inr ⟨fun h => ek h.symm, hk⟩
  have fil : ∀ k, Fil h k → Fil (h.set i (some d)) k := fun k hk => hk.set
  have hsz : (w.setCell ⟨(ρ i).1, (ρ i).2 + o, none⟩ x).heap.size = w.heap.size := by simp [World.setCell]
  obtain ⟨y0, hy0, _⟩ := H.cell _ _ hi o hlt
  have fr : ∀ q, (w.setCell ⟨(ρ i).1, (ρ i).2 + o, none⟩ x).frozen? q = w.frozen? q := fun q => World.frozen?_setCell _ _ _ _
  refine ⟨H.evo.setCell (H.own _ _ hi ho o hlt).2 x, fun k hk => ⟨fil k (H.base k hk).1, (H.base k hk).2⟩, fun k e hk => ?_, fun k e hk j hj => ?_, fun k e hk hoe j hj => ?_, fun k e l f hk hoe hlf hne => ?_⟩
  · rw [hsz]
    rcases get k e hk with ⟨rfl, rfl⟩ | ⟨_, hk⟩
    · exact H.lt _ _ hi
    · exact H.lt _ _ hk
  · rcases get k e hk with ⟨rfl, rfl⟩ | ⟨hne, hk⟩
    · rw [hn] at hj
      by_cases e : j = o
      · subst e
        exact ⟨x, World.cell?_setCell_same w _ x hy0, by rw [hf j hj, if_pos rfl]; exact hv.more (AgreeOn.refl _ _) fil⟩
      · obtain ⟨y, hy, hd⟩ := H.cell _ _ hi j hj
        refine ⟨y, ?_, by rw [hf j hj, if_neg e]; exact hd.more (AgreeOn.refl _ _) fil⟩
        rw [World.cell?_setCell_other w _ _ x (by intro e'; simp only [Addr.mk.injEq] at e'; omega)]
        exact hy
    · obtain ⟨y, hy, hd⟩ := H.cell _ _ hk j hj
      refine ⟨y, ?_, hd.more (AgreeOn.refl _ _) fil⟩
      have := H.sep _ _ _ _ hi ho hk (fun e => hne e.symm)
      rw [World.cell?_setCell_other w _ _ x (by intro e'; simp only [Addr.mk.injEq] at e'; exact absurd e'.1 this)]
      exact hy
  · rw [fr]
    rcases get k e hk with ⟨rfl, rfl⟩ | ⟨_, hk⟩
    · exact H.own _ _ hi ho j (by omega)
    · exact H.own _ _ hk hoe j hj
  · rcases get k e hk with ⟨rfl, rfl⟩ | ⟨hk1, hk'⟩ <;> rcases get l f hlf with ⟨rfl, rfl⟩ | ⟨hl1, hl'⟩
    · exact absurd rfl hne
    · exact H.sep _ _ _ _ hi ho hl' hne
    · exact H.sep _ _ _ _ hk' hoe hi hne
    · exact H.sep _ _ _ _ hk' hoe hl' hne

/-- A new block. -/
theorem HOK.alloc {i : Nat} {c : Chunk} {xs : Array Value} {ty : TypeId} (H : HOK X ρ h w) (hi : h[i]? = some none) (hn : c.n = xs.size) (hf : ∀ j x, xs[j]? = some x → Den1 (Fil h) ρ (c.f j) x) :
    ∃ ρ', AgreeOn (Fil h) ρ ρ' ∧ ρ' i = (w.heap.size, 0) ∧ HOK X ρ' (h.set i (some c)) (w.alloc (.cells xs ty)) := by
  have hl := (List.getElem?_eq_some_iff.1 hi).1
  have nf : ¬ Fil h i := fun ⟨d, hd⟩ => by rw [hi] at hd; cases hd
  let ρ' : Nat → Nat × Nat := fun k => if k = i then (w.heap.size, 0) else ρ k
  have hag : AgreeOn (Fil h) ρ ρ' := fun k hk => by
    show (if k = i then _ else _) = _
    rw [if_neg]; rintro rfl; exact nf hk
  have hρi : ρ' i = (w.heap.size, 0) := if_pos rfl
  have hρk : ∀ k, k ≠ i → ρ' k = ρ k := fun k hk => if_neg hk
  have get : ∀ k e, (h.set i (some c))[k]? = some (some e) → (k = i ∧ e = c) ∨ (k ≠ i ∧ h[k]? = some (some e)) := fun k e hk => by
    by_cases ek : i = k
    · subst ek
      rw [List.getElem?_set_self hl] at hk
      exact .inl ⟨rfl, by simpa using hk.symm⟩
    · rw [List.getElem?_set_ne ek] at hk
      exact .inr ⟨fun h => ek h.symm, hk⟩
  have fil : ∀ k, Fil h k → Fil (h.set i (some c)) k := fun k hk => hk.set
  have hsz : (w.alloc (.cells xs ty)).heap.size = w.heap.size + 1 := by show (w.heap.push _).size = _; simp
  refine ⟨ρ', hag, hρi, H.evo.alloc _, fun k hk => ⟨fil k (H.base k hk).1, ?_⟩, fun k e hk => ?_, fun k e hk j hj => ?_, fun k e hk hoe j hj => ?_, fun k e l f hk hoe hlf hne => ?_⟩
  · rw [hag k (H.base k hk).1]; exact (H.base k hk).2
  · rw [hsz]
    rcases get k e hk with ⟨rfl, rfl⟩ | ⟨hne, hk⟩
    · rw [hρi]; simp
    · rw [hρk k hne]; have := H.lt _ _ hk; omega
  · rcases get k e hk with ⟨rfl, rfl⟩ | ⟨hne, hk⟩
    · rw [hρi]
      have hj' : j < xs.size := by omega
      refine ⟨xs[j], ?_, (hf j _ (by simp [hj'])).more hag fil⟩
      rw [World.cell?_alloc_at _ _ _ _ rfl]
      simp [hj']
    · rw [hρk k hne]
      obtain ⟨y, hy, hd⟩ := H.cell _ _ hk j hj
      refine ⟨y, ?_, hd.more hag fil⟩
      exact ((Below.refl w.heap.size w).alloc (Nat.le_refl _) _).cell (p := ⟨(ρ k).1, (ρ k).2 + j, none⟩) (H.lt _ _ hk) |>.trans hy
  · rcases get k e hk with ⟨rfl, rfl⟩ | ⟨hne, hk⟩
    · rw [hρi]
      refine ⟨?_, .inl H.evo.size⟩
      show World.frozen? { w with heap := w.heap.push _ } _ = false; simp [World.frozen?]
    · rw [hρk k hne]
      obtain ⟨h1, h2⟩ := H.own _ _ hk hoe j hj
      exact ⟨(Below.frozen ((Below.refl w.heap.size w).alloc (Nat.le_refl _) _) (p := ⟨(ρ k).1, (ρ k).2 + j, none⟩) (H.lt _ _ hk)).trans h1, h2⟩
  · rcases get k e hk with ⟨rfl, rfl⟩ | ⟨hk1, hk'⟩ <;> rcases get l f hlf with ⟨rfl, rfl⟩ | ⟨hl1, hl'⟩
    · exact absurd rfl hne
    · rw [hρi, hρk l hl1]; have := H.lt _ _ hl'; simp; omega
    · rw [hρi, hρk k hk1]; have := H.lt _ _ hk'; simp; omega
    · rw [hρk k hk1, hρk l hl1]; exact H.sep _ _ _ _ hk' hoe hl' hne
end

/-! ### The evaluator -/

/-- A place at which the evaluator asks. -/
@[irreducible] def N (A : Prop) : Prop := A
theorem N.go {A : Prop} (h : N A) : N A := h
theorem N.out {A : Prop} (h : N A) : A := by unfold N at h; exact h
theorem N.mk {A : Prop} (h : A) : N A := by unfold N; exact h
def Obl (p A : Prop) : Prop := p ∧ A
def Fork (b : Bool) (A B : Prop) : Prop := (b = true → A) ∧ (b = false → B)
def Sub {α : Type} (p : α → Prop) (K : α → Prop) : Prop := ∃ x, p x ∧ K x

abbrev Tys := List (TypeId × TypeInfo × TypeDesc)
def lookT : Tys → TypeId → (TypeInfo → TypeDesc → Prop) → Prop
  | [], _, _ => False
  | (u, i, d) :: r, t, K => match Nat.beq u t with
    | true => K i d
    | false => lookT r t K
def TysOK (P : Program) (G : Tys) : Prop := ∀ r ∈ G, P.info? r.1 = some r.2.1 ∧ P.underlying r.1 = some r.2.2

def getK : List (Option Value) → Nat → (Value → Prop) → Prop
  | [], _, _ => False
  | none :: _, 0, _ => False
  | some v :: _, 0, K => K v
  | _ :: r, n + 1, K => getK r n K
def getH : List (Option Chunk) → Nat → (Chunk → Prop) → Prop
  | [], _, _ => False
  | none :: _, 0, _ => False
  | some v :: _, 0, K => K v
  | _ :: r, n + 1, K => getH r n K
def setK {α : Type} : List (Option α) → Nat → α → (List (Option α) → Prop) → Prop
  | [], _, _, K => K []
  | _ :: r, 0, v, K => K (some v :: r)
  | x :: r, n + 1, v, K => setK r n v fun r' => K (x :: r')
def setM : List (Option Chunk) → List (Nat × Chunk) → (List (Option Chunk) → Prop) → Prop
  | h, [], K => K h
  | h, (i, c) :: ms, K => setK h i c fun h' => setM h' ms K

def plain1 : Value → Bool
  | .pointer (some a) | .slice (some a) _ _ => a.spot.isNone
  | .func _ x y => x.toList.isEmpty && y.toList.isEmpty
  | .agg _ | .tuple _ => false
  | _ => true
def plain2 : Value → Bool
  | .agg cs => cs.toList.all plain1
  | v => plain1 v

def evalS (x : Operand) (st : St) (K : Value → Prop) : Prop :=
  match x with
  | .tmp t => getK st.t t K
  | .const v => match plain2 v with
    | true => K v
    | false => False
  | .global g => K (.pointer (some ⟨g, 0, none⟩))
  | .func f => K (.func (.func f) #[] #[])
def evalL : List Operand → St → (List Value → Prop) → Prop
  | [], _, K => K []
  | x :: r, st, K => evalS x st fun v => evalL r st fun vs => K (v :: vs)

def All2 {α β : Type} (p : α → β → Prop) : List α → List β → Prop
  | [], [] => True
  | a :: r, b :: s => p a b ∧ All2 p r s
  | _, _ => False
def EvTo (x : Operand) (st : St) (v : Value) : Prop :=
  match x with
  | .tmp t => st.t[t]? = some (some v)
  | .const c => v = c ∧ plain2 c = true
  | .global g => v = .pointer (some ⟨g, 0, none⟩)
  | .func f => v = .func (.func f) #[] #[]

theorem lookT_out {P : Program} {t : TypeId} {K : TypeInfo → TypeDesc → Prop} : ∀ {G : Tys}, TysOK P G → lookT G t K → ∃ i d, P.info? t = some i ∧ P.underlying t = some d ∧ K i d
  | [], _, h => h.elim
  | (u, i, d) :: r, hG, h => by
    unfold lookT at h
    split at h
    · rename_i e
      have e : u = t := Nat.eq_of_beq_eq_true e
      subst e
      have := hG (u, i, d) (by simp)
      exact ⟨i, d, this.1, this.2, h⟩
    · exact lookT_out (fun r' hr => hG r' (by simp [hr])) h
theorem getK_out {K : Value → Prop} : ∀ {l : List (Option Value)} {n : Nat}, getK l n K → ∃ v, l[n]? = some (some v) ∧ K v
  | [], _, h => h.elim
  | none :: _, 0, h => h.elim
  | some v :: _, 0, h => ⟨v, rfl, h⟩
  | none :: r, n + 1, h => by simpa using getK_out (l := r) (n := n) h
  | some _ :: r, n + 1, h => by simpa using getK_out (l := r) (n := n) h
theorem getH_out {K : Chunk → Prop} : ∀ {l : List (Option Chunk)} {n : Nat}, getH l n K → ∃ v, l[n]? = some (some v) ∧ K v
  | [], _, h => h.elim
  | none :: _, 0, h => h.elim
  | some v :: _, 0, h => ⟨v, rfl, h⟩
  | none :: r, n + 1, h => by simpa using getH_out (l := r) (n := n) h
  | some _ :: r, n + 1, h => by simpa using getH_out (l := r) (n := n) h
theorem setK_out {α : Type} : ∀ {l : List (Option α)} {n : Nat} {v : α} {K : List (Option α) → Prop}, setK l n v K → K (l.set n (some v))
  | [], _, _, _, h => h
  | _ :: _, 0, _, _, h => h
  | x :: r, n + 1, v, K, h => setK_out (l := r) (n := n) (K := fun r' => K (x :: r')) h
theorem setM_out {K : List (Option Chunk) → Prop} : ∀ {ms : List (Nat × Chunk)} {h : List (Option Chunk)}, setM h ms K → K (modH h ms)
  | [], _, hk => hk
  | (i, c) :: ms, h, hk => setM_out (ms := ms) (setK_out hk)
theorem evalS_out {x : Operand} {st : St} {K : Value → Prop} (h : evalS x st K) : ∃ v, EvTo x st v ∧ K v := by
  cases x with
  | tmp t => exact getK_out h
  | const c =>
    simp only [evalS] at h
    cases e : plain2 c with
    | true => rw [e] at h; exact ⟨c, ⟨rfl, e⟩, h⟩
    | false => rw [e] at h; exact h.elim
  | global g => exact ⟨_, rfl, h⟩
  | func f => exact ⟨_, rfl, h⟩
theorem evalL_out {st : St} : ∀ {xs : List Operand} {K : List Value → Prop}, evalL xs st K → ∃ vs, All2 (fun x v => EvTo x st v) xs vs ∧ K vs
  | [], K, h => ⟨[], trivial, h⟩
  | x :: r, K, h => by
    obtain ⟨v, hv, h⟩ := evalS_out h
    obtain ⟨vs, hvs, h⟩ := evalL_out (xs := r) h
    exact ⟨v :: vs, ⟨hv, hvs⟩, h⟩

theorem den0_plain {v : Value} (h : plain1 v = true) (ρ : Nat → Nat × Nat) : den0 ρ v = v := by
  cases v with
  | pointer a => cases a with
    | none => rfl
    | some a => obtain ⟨b, o, s⟩ := a; cases s <;> simp [plain1] at h; rfl
  | slice a l c => cases a with
    | none => rfl
    | some a => obtain ⟨b, o, s⟩ := a; cases s <;> simp [plain1] at h; rfl
  | _ => rfl
theorem den1_plain {v : Value} (h : plain1 v = true) (ρ : Nat → Nat × Nat) : den1 ρ v = v := by
  cases v with
  | func f x y =>
    simp [plain1] at h
    obtain ⟨rfl, rfl⟩ := h
    simp [den1]
  | _ => exact den0_plain h ρ
theorem den2_plain {v : Value} (h : plain2 v = true) (ρ : Nat → Nat × Nat) : den2 ρ v = v := by
  cases v with
  | agg cs =>
    simp only [plain2, List.all_eq_true] at h
    simp only [den2, Value.agg.injEq]
    apply Array.toList_inj.1
    rw [Array.toList_map]
    exact (List.map_congr_left fun x hx => den1_plain (h x hx) ρ).trans (List.map_id _)
  | tuple vs => simp [plain2, plain1] at h
  | _ => exact den1_plain (by simpa [plain2] using h) ρ
theorem den_plain {v : Value} (h : plain2 v = true) (ρ : Nat → Nat × Nat) : den ρ v = v := by
  cases v with
  | tuple vs => simp [plain2, plain1] at h
  | _ => exact den2_plain h ρ
theorem Den.plain {F : Nat → Prop} {ρ : Nat → Nat × Nat} {v : Value} (h : plain2 v = true) : Den F ρ v v := fun r _ => den_plain h r

theorem EvTo.den {X : Ctx} {ρ : Nat → Nat × Nat} {st : St} {a : Act} {w : World} {x : Operand} {v : Value} (h : EvTo x st v) (R : Rel X ρ st a w) : Den (Fil st.h) ρ v (a.eval x) := by
  cases x with
  | tmp t =>
    obtain ⟨y, hy, hd⟩ := R.slot t v h
    have : a.eval (.tmp t) = y := by simp [Act.eval, Array.getD_eq_getD_getElem?, hy]
    rw [this]; exact hd
  | const c => obtain ⟨rfl, hp⟩ := h; exact Den.plain hp
  | global g => subst h; exact Den.plain rfl
  | func f => subst h; exact Den.plain rfl
end Go.Proofs.Ytfpmmahonddpoaa.Sx
