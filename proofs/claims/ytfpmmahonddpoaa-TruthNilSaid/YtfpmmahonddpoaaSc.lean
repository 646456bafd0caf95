/-
  Sx, its fifth part: conditions, blocks, loops, whole functions.
-/
import Derived.Test.YtfpmmahonddpoaaSr
import Derived.Scope
set_option linter.unusedVariables false
set_option linter.unusedSimpArgs false
namespace Go.Proofs.Ytfpmmahonddpoaa.Sx
open Go Go.RowKit

/-! ### A statement's operations -/
def nonesK : Nat → (List (Option Chunk) → Prop) → Prop
  | 0, K => K []
  | n + 1, K => nonesK n fun r => K (none :: r)
def appK : List (Option Chunk) → Nat → (List (Option Chunk) → Prop) → Prop
  | [], n, K => nonesK n K
  | x :: r, n, K => appK r n fun r' => K (x :: r')
def trimK : List (Option Chunk) → (List (Option Chunk) → Prop) → Prop
  | [], K => K []
  | some c :: r, K => trimK r fun r' => K (some c :: r')
  | none :: r, K => trimK r fun r' => match r' with
    | [] => K []
    | x :: q => K (none :: x :: q)
def slotsN : List Oper → Nat
  | [] => 1
  | o :: os => slotsOf o.op + slotsN os
def SameH (h h' : List (Option Chunk)) : Prop := ∀ (i : Nat) (c : Chunk), h'[i]? = some (some c) ↔ h[i]? = some (some c)
theorem nonesK_out : ∀ {n : Nat} {K : List (Option Chunk) → Prop}, nonesK n K → ∃ h', SameH [] h' ∧ K h'
  | 0, K, h => ⟨[], fun _ _ => Iff.rfl, h⟩
  | n + 1, K, h => by
    obtain ⟨h', hs, hk⟩ := nonesK_out (n := n) h
    refine ⟨_, fun i c => ?_, hk⟩
    cases i with
    | zero => simp
    | succ i => simpa using hs i c
theorem appK_out : ∀ {h : List (Option Chunk)} {n : Nat} {K : List (Option Chunk) → Prop}, appK h n K → ∃ h', SameH h h' ∧ K h'
  | [], n, K, h => nonesK_out h
  | x :: r, n, K, h => by
    obtain ⟨h', hs, hk⟩ := appK_out (h := r) (n := n) h
    refine ⟨_, fun i c => ?_, hk⟩
    cases i with
    | zero => simp
    | succ i => simpa using hs i c
theorem trimK_out : ∀ {h : List (Option Chunk)} {K : List (Option Chunk) → Prop}, trimK h K → ∃ h', SameH h h' ∧ K h'
  | [], K, h => ⟨[], fun _ _ => Iff.rfl, h⟩
  | some x :: r, K, h => by
    obtain ⟨h', hs, hk⟩ := trimK_out (h := r) h
    refine ⟨_, fun i c => ?_, hk⟩
    cases i with
    | zero => simp
    | succ i => simpa using hs i c
  | none :: r, K, h => by
    obtain ⟨h', hs, hk⟩ := trimK_out (h := r) h
    split at hk
    · refine ⟨[], fun i c => ?_, hk⟩
      cases i with
      | zero => simp
      | succ i => simpa using hs i c
    · refine ⟨_, fun i c => ?_, hk⟩
      cases i with
      | zero => simp
      | succ i => simpa using hs i c
theorem SameH.fil {h h' : List (Option Chunk)} (s : SameH h h') (i : Nat) : Fil h' i ↔ Fil h i := ⟨fun ⟨c, hc⟩ => ⟨c, (s i c).1 hc⟩, fun ⟨c, hc⟩ => ⟨c, (s i c).2 hc⟩⟩
theorem HOK.same {X : Ctx} {ρ : Nat → Nat × Nat} {h h' : List (Option Chunk)} {w : World} (H : HOK X ρ h w) (s : SameH h h') : HOK X ρ h' w := by
  refine ⟨H.evo, fun i hi => ⟨(s.fil i).2 (H.base i hi).1, (H.base i hi).2⟩, fun i c hi => H.lt i c ((s i c).1 hi), fun i c hi j hj => ?_, fun i c hi => H.own i c ((s i c).1 hi), fun i c j d hi ho hj => H.sep i c j d ((s i c).1 hi) ho ((s j d).1 hj)⟩
  obtain ⟨x, hx, hd⟩ := H.cell i c ((s i c).1 hi) j hj
  exact ⟨x, hx, hd.more (AgreeOn.refl _ _) fun k hk => (s.fil k).2 hk⟩
theorem Rel.same {X : Ctx} {ρ : Nat → Nat × Nat} {st : St} {h' : List (Option Chunk)} {a : Act} {w : World} (R : Rel X ρ st a w) (s : SameH st.h h') : Rel X ρ ⟨st.t, h'⟩ a w := by
  refine ⟨R.defers, R.size, fun i v hi => ?_, R.heap.same s⟩
  obtain ⟨x, hx, hd⟩ := R.slot i v hi
  exact ⟨x, hx, hd.more (AgreeOn.refl _ _) fun k hk => (s.fil k).2 hk⟩

def regK (P : Program) (G : Tys) (ops : Array Oper) (draw : Bool) (st : St) (K : St → Prop) : Prop :=
  match st with
  | ⟨t0, h0⟩ => appK h0 (slotsN ops.toList) fun h => litK h0.length fun sl => match draw with
    | false => wpQ P G ops.toList ops.toList sl ⟨t0, h⟩ fun s => match s with
      | ⟨t, h1⟩ => trimK h1 fun h' => K ⟨t, h'⟩
    | true => wpR P G ops.toList ops.toList sl ⟨t0, h⟩ [] fun s acc => match s with
      | ⟨t, h1⟩ => trimK h1 fun h' => N (Obl (checkF ops.toList acc.reverse = true ∧ edgesOK ops.toList 0 = true) (K ⟨t, h'⟩))

section
variable {P : Program} {G : Tys}
theorem reg_out {ops : Array Oper} {draw : Bool} {st : St} {K : St → Prop} {id : Nat} {X : Ctx} {Q : Exit → Act → World → Prop} (hG : TysOK P G) (hm : P.follows .mixedOrders = true) (h : regK P G ops draw st K) (hq : ∀ s ρ a w, K s → Rel X ρ s a w → Q .normal a w) {ρ : Nat → Nat × Nat} {a : Act} {w : World} (R : Rel X ρ st a w) :
    (Code.region id ops draw).wp P Q a w := by
  obtain ⟨t0, h0⟩ := st
  obtain ⟨h1, hs1, h⟩ := appK_out h
  have R1 := R.same hs1
  cases draw with
  | false =>
    have h := litK_out (K := fun sl => wpQ P G ops.toList ops.toList sl ⟨t0, h1⟩ _) h
    refine wp_region ?_
    rw [List.range_eq_range']
    refine wpQ_run (X := X) hG (fun s ρ a w hk R' => ?_) ops.toList _ 0 _ h (fun i _ => by simp) ρ a w R1
    obtain ⟨t2, h3⟩ := s
    obtain ⟨h2, hs2, hk⟩ := trimK_out hk
    exact hq _ ρ a w hk (R'.same hs2)
  | true =>
    have h := litK_out (K := fun sl => wpR P G ops.toList ops.toList sl ⟨t0, h1⟩ [] _) h
    obtain ⟨rs, s, ht, h⟩ := wpR_out hG h
    obtain ⟨t2, h3⟩ := s
    obtain ⟨h2, hs2, h⟩ := trimK_out h
    obtain ⟨⟨hc, he⟩, h⟩ := h.out
    refine wp_region_any hm ?_
    have hc' : checkF ops.toList (feet rs) = true := by simpa using hc
    refine drawn_run (X := X) (st' := ⟨t2, h3⟩) (ρ := ρ) ht hc' he (fun ρ a w R' => hq _ ρ a w h (R'.same hs2)) ?_
    exact ⟨R1.defers, R1.size, R1.slot, R1.heap.drew⟩

/-! ### Weaker knowledge -/
def Scoped (F : Nat → Prop) (v : Value) : Prop := ∀ ρ ρ', AgreeOn F ρ ρ' → den ρ' v = den ρ v
def Scoped1 (F : Nat → Prop) (v : Value) : Prop := ∀ ρ ρ', AgreeOn F ρ ρ' → den1 ρ' v = den1 ρ v
structure Wk (n0 : Nat) (st s : St) : Prop where
  len : s.t.length = st.t.length
  slot : ∀ (i : Nat) (v : Value), s.t[i]? = some (some v) → st.t[i]? = some (some v)
  chunk : ∀ (i : Nat) (c : Chunk), s.h[i]? = some (some c) → ∃ d, st.h[i]? = some (some d) ∧ (c.own = true → d.own = true) ∧ c.n ≤ d.n ∧ ∀ j, j < c.n → c.f j = d.f j
  base : ∀ i, i < n0 → Fil st.h i → Fil s.h i
  scope : (∀ i, Fil st.h i → Fil s.h i) ∨ ((∀ (i : Nat) (v : Value), s.t[i]? = some (some v) → Scoped (Fil s.h) v) ∧ ∀ (i : Nat) (c : Chunk), s.h[i]? = some (some c) → ∀ j, j < c.n → Scoped1 (Fil s.h) (c.f j))
theorem Wk.refl (n0 : Nat) (st : St) : Wk n0 st st := ⟨rfl, fun _ _ h => h, fun i c h => ⟨c, h, id, Nat.le_refl _, fun _ _ => rfl⟩, fun _ _ h => h, .inl fun _ h => h⟩
theorem Wk.rel {X : Ctx} {ρ : Nat → Nat × Nat} {st s : St} {a : Act} {w : World} (h : Wk X.n0 st s) (R : Rel X ρ st a w) : Rel X ρ s a w := by
  have fil : ∀ i, Fil s.h i → Fil st.h i := fun i ⟨c, hc⟩ => by obtain ⟨d, hd, _⟩ := h.chunk i c hc; exact ⟨d, hd⟩
  refine ⟨R.defers, R.size.trans h.len.symm, fun i v hi => ?_, R.heap.evo, fun i hi => ⟨h.base i hi (R.heap.base i hi).1, (R.heap.base i hi).2⟩, fun i c hi => ?_, fun i c hi j hj => ?_, fun i c hi ho j hj => ?_, fun i c j d hi ho hj hne => ?_⟩
  · obtain ⟨x, hx, hd⟩ := R.slot i v (h.slot i v hi)
    refine ⟨x, hx, ?_⟩
    rcases h.scope with hs | ⟨hs, _⟩
    · exact hd.more (AgreeOn.refl _ _) hs
    · exact fun r hr => (hs i v hi ρ r hr).trans hd.self
  · obtain ⟨d, hd, _⟩ := h.chunk i c hi
    exact R.heap.lt i d hd
  · obtain ⟨d, hd, _, hn, hf⟩ := h.chunk i c hi
    obtain ⟨x, hx, hxd⟩ := R.heap.cell i d hd j (Nat.lt_of_lt_of_le hj hn)
    refine ⟨x, hx, ?_⟩
    rcases h.scope with hs | ⟨_, hs⟩
    · rw [hf j hj]; exact hxd.more (AgreeOn.refl _ _) hs
    · exact fun r hr => (hs i c hi j hj ρ r hr).trans (by rw [hf j hj]; exact hxd.self)
  · obtain ⟨d, hd, hod, hn, hf⟩ := h.chunk i c hi
    exact R.heap.own i d hd (hod ho) j (Nat.lt_of_lt_of_le hj hn)
  · obtain ⟨c', hc', hoc, _⟩ := h.chunk i c hi
    obtain ⟨d', hd', _⟩ := h.chunk j d hj
    exact R.heap.sep i c' j d' hc' (hoc ho) hd' hne

/-- What is known of one state is known of the other, with other numbers perhaps. -/
def Wkg (n0 : Nat) (st s : St) : Prop := ∀ (X : Ctx) (ρ : Nat → Nat × Nat) (a : Act) (w : World), X.n0 = n0 → Rel X ρ st a w → ∃ ρ', Rel X ρ' s a w
theorem Wk.g {n0 : Nat} {st s : St} (h : Wk n0 st s) : Wkg n0 st s := fun X ρ a w hn R => ⟨ρ, by subst hn; exact h.rel R⟩

/-! ### Code -/
def thenQ (K : St → Prop) (Q : Exit → St → Prop) : Exit → St → Prop
  | .normal, st => K st
  | e, st => Q e st
def blockQ (id : Nat) (Q : Exit → St → Prop) : Exit → St → Prop
  | .exit i, st => match Nat.beq i id with
    | true => Q .normal st
    | false => Q (.exit i) st
  | e, st => Q e st
def scopeQ (Q : Exit → St → Prop) : Exit → St → Prop
  | .goto _, _ => False
  | e, st => Q e st
def LoopN (P : Program) (G : Tys) (n0 : Nat) (c : Code) (B : (Exit → St → Prop) → St → Prop) (Q : Exit → St → Prop) (st : St) : Prop :=
  ∃ (α : Type) (mk : α → St) (inv : α → Prop) (μ : α → Nat) (nx : α → St → Prop), (∀ x s, nx x s → ∃ y, inv y ∧ Wkg n0 s (mk y) ∧ μ y < μ x) ∧ (∃ x, inv x ∧ Wkg n0 st (mk x)) ∧ ∀ x, inv x → B (thenQ (nx x) Q) (mk x)
def CutN (n0 : Nat) (st : St) (K : St → Prop) : Prop := ∃ s, Wk n0 st s ∧ K s
abbrev CodeT := (Exit → St → Prop) → St → Prop
def wpSeq (A B : CodeT) : CodeT := fun Q st => A (thenQ (B Q) Q) st
def wpCond (c : Operand) (A B : CodeT) : CodeT := fun Q st =>
  match st with
  | ⟨t0, h0⟩ => match c with
    | .tmp t => getK t0 t fun g => match g with
      | .bool b => N (Fork b (setK t0 t (.bool true) fun l => A Q ⟨l, h0⟩) (setK t0 t (.bool false) fun l => B Q ⟨l, h0⟩))
      | _ => False
    | .const (.bool true) => A Q ⟨t0, h0⟩
    | .const (.bool false) => B Q ⟨t0, h0⟩
    | _ => False
def wpBlock (id : Nat) (A : CodeT) : CodeT := fun Q st => A (blockQ id Q) st
def wpLoop (P : Program) (G : Tys) (n0 : Nat) (c : Code) (A : CodeT) : CodeT := fun Q st => N (LoopN P G n0 c A Q st)
def wpScope (A : CodeT) : CodeT := fun Q st => A (scopeQ Q) st
noncomputable def wpC (P : Program) (G : Tys) (n0 : Nat) (c : Code) : CodeT :=
  Code.rec (motive := fun _ => CodeT) (fun Q st => Q .normal st) (fun _ ops draw Q st => regK P G ops draw st (Q .normal)) (fun _ _ A B => wpSeq A B) (fun c _ _ A B => wpCond c A B) (fun id _ A => wpBlock id A) (fun c A => wpLoop P G n0 c A)
    (fun _ _ _ _ _ _ _ _ => False) (fun id Q st => Q (.exit id) st) (fun _ A => wpScope A) (fun _ Q st => Q .normal st) (fun _ _ _ => False) (fun Q st => Q .ret st) (fun _ _ _ => False) c

def Lift (X : Ctx) (Q : Exit → St → Prop) : Exit → Act → World → Prop := fun e a w => ∃ ρ s, Rel X ρ s a w ∧ Q e s

theorem wpC_out (hG : TysOK P G) (hm : P.follows .mixedOrders = true) (X : Ctx) : ∀ (c : Code) (Q : Exit → St → Prop) (st : St), wpC P G X.n0 c Q st → ∀ ρ a w, Rel X ρ st a w → c.wp P (Lift X Q) a w := by
  intro c
  induction c with
  | skip => exact fun Q st h ρ a w R => wp_skip ⟨ρ, st, R, h⟩
  | label l => exact fun Q st h ρ a w R => wp_label ⟨ρ, st, R, h⟩
  | region id ops draw => exact fun Q st h ρ a w R => reg_out (X := X) hG hm h (fun s ρ a w hk R' => ⟨ρ, s, R', hk⟩) R
  | seq x y ihx ihy =>
    intro Q st h ρ a w R
    refine wp_seq (wp_mono (ihx _ _ h ρ a w R) ?_)
    rintro e a' w' ⟨ρ', s, R', hq⟩
    cases e with
    | normal => exact ihy Q s hq ρ' a' w' R'
    | _ => exact ⟨ρ', s, R', hq⟩
  | cond c x y ihx ihy =>
    intro Q st h ρ a w R
    obtain ⟨t0, h0⟩ := st
    cases c with
    | tmp t =>
      have h : wpCond (.tmp t) (wpC P G X.n0 x) (wpC P G X.n0 y) Q ⟨t0, h0⟩ := h
      unfold wpCond at h
      simp only at h
      obtain ⟨g, hg, h⟩ := getK_out (l := t0) (n := t) h
      split at h
      · rename_i b
        obtain ⟨z, hz, hzd⟩ := R.slot t _ hg
        have hzb : z = .bool b := hzd.self.symm
        have he : a.eval (.tmp t) = .bool b := by simp [Act.eval, Array.getD_eq_getD_getElem?, hz, hzb]
        have h := h.out
        refine wp_cond_split he (fun e => ?_) (fun e => ?_)
        · subst e
          have h := setK_out (K := fun l => wpC P G X.n0 x Q ⟨l, h0⟩) (h.1 rfl)
          rw [set_same hg] at h
          exact ihx Q ⟨t0, h0⟩ h ρ a w R
        · subst e
          have h := setK_out (K := fun l => wpC P G X.n0 y Q ⟨l, h0⟩) (h.2 rfl)
          rw [set_same hg] at h
          exact ihy Q ⟨t0, h0⟩ h ρ a w R
      · exact h.elim
    | const v =>
      cases v with
      | bool b =>
        cases b with
        | true => exact wp_cond_true rfl (ihx Q ⟨t0, h0⟩ h ρ a w R)
        | false => exact wp_cond_false rfl (ihy Q ⟨t0, h0⟩ h ρ a w R)
      | _ => exact h.elim
    | _ => exact h.elim
  | block id c ih =>
    intro Q st h ρ a w R
    refine wp_block (wp_mono (ih _ _ h ρ a w R) ?_)
    rintro e a' w' ⟨ρ', s, R', hq⟩
    cases e with
    | exit i =>
      simp only [blockQ] at hq
      simp only [Exit.inBlock]
      cases hb : Nat.beq i id with
      | true =>
        rw [hb] at hq
        have := Nat.eq_of_beq_eq_true hb
        rw [if_pos this]
        exact ⟨ρ', s, R', hq⟩
      | false =>
        rw [hb] at hq
        have : i ≠ id := fun e => by subst e; rw [Nat.beq_refl] at hb; cases hb
        rw [if_neg this]
        exact ⟨ρ', s, R', hq⟩
    | _ => exact ⟨ρ', s, R', hq⟩
  | loop c ih =>
    intro Q st h ρ a w R
    obtain ⟨α, mk, inv, μ, nx, hnx, ⟨x0, hx0, hw0⟩, hr⟩ := N.out h
    intro b k cs
    have key : ∀ n x ρ a w, μ x = n → inv x → Rel X ρ (mk x) a w →
        ∃ e a' w', Lift X Q e a' w' ∧ Arrives P (lone (b.at a (.code c :: .inLoop c :: k)) cs w) b k cs e a' w' := by
      intro n
      induction n using Nat.strongRecOn with
      | _ n ihn =>
        intro x ρ a w hn hx R
        obtain ⟨e, a₁, w₁, ⟨ρ₁, s, R₁, hq⟩, harr⟩ := ih _ _ (hr x hx) ρ a w R b (.inLoop c :: k) cs
        cases e with
        | normal =>
          obtain ⟨y, hy, hwk, hlt⟩ := hnx _ _ hq
          obtain ⟨ρ₂, R₂⟩ := hwk X ρ₁ a₁ w₁ rfl R₁
          obtain ⟨e₂, a₂, w₂, hq₂, harr₂⟩ := ihn (μ y) (hn ▸ hlt) y ρ₂ a₁ w₁ rfl hy R₂
          exact ⟨e₂, a₂, w₂, hq₂, .of_steps (Steps.trans harr (.one step_inLoop)) harr₂⟩
        | exit id => exact ⟨_, a₁, w₁, ⟨ρ₁, s, R₁, hq⟩, .pass (x := .inLoop c) rfl (fun _ _ => .inl (by simp)) harr⟩
        | goto l => exact ⟨_, a₁, w₁, ⟨ρ₁, s, R₁, hq⟩, .pass (x := .inLoop c) rfl (fun _ _ => .inl (by simp)) harr⟩
        | ret => exact ⟨_, a₁, w₁, ⟨ρ₁, s, R₁, hq⟩, .pass (x := .inLoop c) rfl (fun _ _ => .inl (by simp)) harr⟩
        | panic ch => exact ⟨_, a₁, w₁, ⟨ρ₁, s, R₁, hq⟩, .pass (x := .inLoop c) rfl (fun _ _ => .inl (by simp)) harr⟩
        | outgrown => exact ⟨_, a₁, w₁, ⟨ρ₁, s, R₁, hq⟩, .pass (x := .inLoop c) rfl (fun _ _ => .inl (by simp)) harr⟩
    obtain ⟨ρ₀, R₀⟩ := hw0 X ρ a w rfl R
    obtain ⟨e, a', w', hq, harr⟩ := key _ x0 ρ₀ a w rfl hx0 R₀
    exact ⟨e, a', w', hq, .of_steps (.one step_loop) harr⟩
  | exit id => exact fun Q st h ρ a w R => wp_exit ⟨ρ, st, R, h⟩
  | scope c ih =>
    intro Q st h ρ a w R
    refine wp_scope_straight (wp_mono (ih _ _ h ρ a w R) ?_)
    rintro e a' w' ⟨ρ', s, R', hq⟩
    cases e with
    | goto l => exact hq.elim
    | _ => exact ⟨ρ', s, R', hq⟩
  | ret => exact fun Q st h ρ a w R => wp_ret ⟨ρ, st, R, h⟩
  | _ => exact fun Q st h => h.elim
end
end Go.Proofs.Ytfpmmahonddpoaa.Sx
