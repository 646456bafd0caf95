/-
  Calls on memory, in general: a callee that reads and writes some of the known stretches of cells, and that may make new ones.
-/
import Derived.Test.YtfpmmahonddpoaaSg
set_option linter.unusedVariables false
set_option linter.unusedSimpArgs false
namespace Go.Proofs.Ytfpmmahonddpoaa.Sx
open Go Go.RowKit

theorem Evo.into {M M' : Addr → Prop} {a b c : World} (h : Evo M a b) (k : Evo M' b c) (hs : ∀ b, ¬ M' ⟨b, 0, some 0⟩) (hm : ∀ p j, M' ⟨p, j, none⟩ → a.heap.size ≤ p ∨ M ⟨p, j, none⟩) : Evo M a c :=
  ⟨k.os.trans h.os, k.tape.trans h.tape, k.output.trans h.output, Nat.le_trans h.size k.size, fun i hi => (h.block i hi).trans (by
    rcases k.block i (Nat.lt_of_lt_of_le hi h.size) with e | e | ⟨cs, ty, fz, cs', e1, e2, hs', hc⟩
    · exact .inl e
    · exact absurd e (hs i)
    · refine .inr (.inr ⟨cs, ty, fz, cs', e1, e2, hs', fun j hj => hc j fun hj' => ?_⟩)
      rcases hm i j hj' with h1 | h1
      · omega
      · exact hj h1)⟩
theorem Evo.same {M : Addr → Prop} {w w' : World} (k : Evo M w w') {b : Nat} (hb : b < w.heap.size) (hs : ¬ M ⟨b, 0, some 0⟩) (hm : ∀ j, ¬ M ⟨b, j, none⟩) : w'.heap[b]? = w.heap[b]? := by
  rcases k.block b hb with e | e | ⟨cs, ty, fz, cs', e1, e2, hs', hc⟩
  · exact e.symm
  · exact absurd e hs
  · rw [e1, e2]
    have : cs' = cs := Array.ext_getElem? fun j => hc j (hm j)
    rw [this]
theorem den1_any {F : Nat → Prop} {ρ : Nat → Nat × Nat} {v x : Value} (hv : plain1 v = true) (h : Den1 F ρ v x) : x = v := by
  rw [← h.self, den1_plain hv]
theorem Den1.plain {F : Nat → Prop} {ρ : Nat → Nat × Nat} {v : Value} (hv : plain1 v = true) : Den1 F ρ v v := fun r _ => den1_plain hv r

/-! ### Values with other numbers for the stretches: ix pairs an inner number with an outer one -/
def ixK : List (Nat × Nat) → Nat → Option Nat
  | [], _ => none
  | (k, i) :: r, n => match Nat.beq k n with
    | true => some i
    | false => ixK r n
theorem ixK_mem : ∀ {ix : List (Nat × Nat)} {k i : Nat}, ixK ix k = some i → (k, i) ∈ ix
  | [], _, _, h => by cases h
  | (a, b) :: r, k, i, h => by
    simp only [ixK] at h
    cases e : Nat.beq a k with
    | true =>
      rw [e] at h
      have := Nat.eq_of_beq_eq_true e
      simp only [Option.some.injEq] at h
      subst this h; simp
    | false => rw [e] at h; exact List.mem_cons_of_mem _ (ixK_mem h)
inductive Re1 (ix : List (Nat × Nat)) : Value → Value → Prop
  | plain {v : Value} (h : plain1 v = true) : Re1 ix v v
  | ptr {i k f s s' : Nat} (h : ixK ix k = some i) : Re1 ix (.pointer (some ⟨i, f, some s⟩)) (.pointer (some ⟨k, f, some s'⟩))
  | slice {i k f s s' l c : Nat} (h : ixK ix k = some i) : Re1 ix (.slice (some ⟨i, f, some s⟩) l c) (.slice (some ⟨k, f, some s'⟩) l c)
inductive Re2 (ix : List (Nat × Nat)) : Value → Value → Prop
  | plain {v : Value} (h : plain2 v = true) : Re2 ix v v
  | ptr {i k f s s' : Nat} (h : ixK ix k = some i) : Re2 ix (.pointer (some ⟨i, f, some s⟩)) (.pointer (some ⟨k, f, some s'⟩))
  | slice {i k f s s' l c : Nat} (h : ixK ix k = some i) : Re2 ix (.slice (some ⟨i, f, some s⟩) l c) (.slice (some ⟨k, f, some s'⟩) l c)
  | agg {l l' : List Value} (h : All2 (Re1 ix) l l') : Re2 ix (.agg ⟨l⟩) (.agg ⟨l'⟩)
inductive Re (ix : List (Nat × Nat)) : Value → Value → Prop
  | plain {v : Value} (h : plain3 v = true) : Re ix v v
  | one {v v' : Value} (h : Re2 ix v v') : Re ix v v'
  | tuple {l l' : List Value} (h : All2 (Re2 ix) l l') : Re ix (.tuple ⟨l⟩) (.tuple ⟨l'⟩)
theorem Re1.den {ix : List (Nat × Nat)} {v v' : Value} {r r' : Nat → Nat × Nat} (h : Re1 ix v v') (hr : ∀ k i, (k, i) ∈ ix → r i = r' k) : den1 r v = den1 r' v' := by
  cases h with
  | plain h => rw [den1_plain h, den1_plain h]
  | ptr h => simp only [den1, den0, denA, hr _ _ (ixK_mem h)]
  | slice h => simp only [den1, den0, denA, hr _ _ (ixK_mem h)]
theorem all2_den1 {ix : List (Nat × Nat)} {r r' : Nat → Nat × Nat} (hr : ∀ k i, (k, i) ∈ ix → r i = r' k) : ∀ {l l' : List Value}, All2 (Re1 ix) l l' → l.map (den1 r) = l'.map (den1 r')
  | [], [], _ => rfl
  | [], _ :: _, h => h.elim
  | _ :: _, [], h => h.elim
  | _ :: _, _ :: _, h => by rw [List.map_cons, List.map_cons, h.1.den hr, all2_den1 hr h.2]
theorem Re2.den2 {ix : List (Nat × Nat)} {v v' : Value} {r r' : Nat → Nat × Nat} (h : Re2 ix v v') (hr : ∀ k i, (k, i) ∈ ix → r i = r' k) : Sx.den2 r v = Sx.den2 r' v' := by
  cases h with
  | plain h => rw [den2_plain h, den2_plain h]
  | ptr h => simp only [Sx.den2, den1, den0, denA, hr _ _ (ixK_mem h)]
  | slice h => simp only [Sx.den2, den1, den0, denA, hr _ _ (ixK_mem h)]
  | agg h =>
    simp only [Sx.den2, Value.agg.injEq]
    apply Array.toList_inj.1
    rw [Array.toList_map, Array.toList_map]
    exact all2_den1 hr h
theorem all2_den2 {ix : List (Nat × Nat)} {r r' : Nat → Nat × Nat} (hr : ∀ k i, (k, i) ∈ ix → r i = r' k) : ∀ {l l' : List Value}, All2 (Re2 ix) l l' → l.map (den2 r) = l'.map (den2 r')
  | [], [], _ => rfl
  | [], _ :: _, h => h.elim
  | _ :: _, [], h => h.elim
  | _ :: _, _ :: _, h => by rw [List.map_cons, List.map_cons, h.1.den2 hr, all2_den2 hr h.2]
theorem Re2.den {ix : List (Nat × Nat)} {v v' : Value} {r r' : Nat → Nat × Nat} (h : Re2 ix v v') (hr : ∀ k i, (k, i) ∈ ix → r i = r' k) : Sx.den r v = Sx.den r' v' := by
  have e := h.den2 hr
  cases h with
  | plain h => rw [den_plain h, den_plain h]
  | ptr h => exact e
  | slice h => exact e
  | agg h => exact e
theorem Re.den {ix : List (Nat × Nat)} {v v' : Value} {r r' : Nat → Nat × Nat} (h : Re ix v v') (hr : ∀ k i, (k, i) ∈ ix → r i = r' k) : Sx.den r v = Sx.den r' v' := by
  cases h with
  | plain h => rw [den_plain3 h, den_plain3 h]
  | one h => exact h.den hr
  | tuple h =>
    simp only [Sx.den, Value.tuple.injEq]
    apply Array.toList_inj.1
    rw [Array.toList_map, Array.toList_map]
    exact all2_den2 hr h

/-! ### What a callee takes part in -/
/-- A stretch that a callee sees: its number with the caller, what the caller knows of it (c), what the callee does (e: owned, if it may be written), what the caller knows of it then (d). -/
structure Piece where
  i : Nat
  c : Chunk
  e : Chunk
  d : Chunk
/-- A stretch that a callee makes: its number with the caller, its number with the callee, what it holds. -/
structure Fresh where
  i : Nat
  k : Nat
  d : Chunk
def partH : List Piece → List (Option Chunk)
  | [] => []
  | s :: r => some s.e :: partH r
def partX : List Piece → Nat → List (Nat × Nat)
  | [], _ => []
  | s :: r, k => (k, s.i) :: partX r (k + 1)
def partM : List Piece → List (Nat × Chunk)
  | [] => []
  | s :: r => match s.e.own with
    | true => (s.i, s.d) :: partM r
    | false => partM r
def partR : List Piece → List Nat
  | [] => []
  | s :: r => match s.e.own with
    | true => partR r
    | false => s.i :: partR r
def madeX : List Fresh → List (Nat × Nat)
  | [] => []
  | n :: r => (n.k, n.i) :: madeX r
def madeM : List Fresh → List (Nat × Chunk)
  | [] => []
  | n :: r => (n.i, n.d) :: madeM r
theorem partH_get : ∀ {ss : List Piece} {k : Nat}, (partH ss)[k]? = (ss[k]?).map fun s => some s.e
  | [], k => by simp [partH]
  | s :: r, 0 => rfl
  | s :: r, k + 1 => by simpa [partH] using partH_get (ss := r) (k := k)
theorem partX_mem : ∀ {ss : List Piece} {k0 k i : Nat}, (k, i) ∈ partX ss k0 ↔ ∃ l s, ss[l]? = some s ∧ k = k0 + l ∧ i = s.i
  | [], k0, k, i => by simp [partX]
  | s :: r, k0, k, i => by
    simp only [partX, List.mem_cons, Prod.mk.injEq, partX_mem (ss := r)]
    constructor
    · rintro (⟨rfl, rfl⟩ | ⟨l, t, h, rfl, rfl⟩)
      · exact ⟨0, s, rfl, rfl, rfl⟩
      · exact ⟨l + 1, t, h, by omega, rfl⟩
    · rintro ⟨l, t, h, rfl, rfl⟩
      cases l with
      | zero => simp at h; subst h; exact .inl ⟨rfl, rfl⟩
      | succ l => exact .inr ⟨l, t, by simpa using h, by omega, rfl⟩
theorem partM_mem : ∀ {ss : List Piece} {m : Nat × Chunk}, m ∈ partM ss ↔ ∃ s ∈ ss, s.e.own = true ∧ m = (s.i, s.d)
  | [], m => by simp [partM]
  | s :: r, m => by
    simp only [partM]
    cases e : s.e.own with
    | true => simp only [List.mem_cons, partM_mem (ss := r)]; constructor
              · rintro (rfl | ⟨t, ht, h1, h2⟩)
                · exact ⟨s, .inl rfl, e, rfl⟩
                · exact ⟨t, .inr ht, h1, h2⟩
              · rintro ⟨t, rfl | ht, h1, h2⟩
                · exact .inl h2
                · exact .inr ⟨t, ht, h1, h2⟩
    | false => simp only [List.mem_cons, partM_mem (ss := r)]; constructor
               · rintro ⟨t, ht, h1, h2⟩; exact ⟨t, .inr ht, h1, h2⟩
               · rintro ⟨t, rfl | ht, h1, h2⟩
                 · rw [e] at h1; cases h1
                 · exact ⟨t, ht, h1, h2⟩
theorem partR_mem : ∀ {ss : List Piece} {i : Nat}, (∃ s ∈ ss, s.e.own = false ∧ i = s.i) → i ∈ partR ss
  | [], i, h => by simp at h
  | s :: r, i, ⟨t, ht, h1, h2⟩ => by
    simp only [partR]
    rcases List.mem_cons.1 ht with rfl | ht
    · rw [h1]; simp [h2]
    · have := partR_mem (ss := r) ⟨t, ht, h1, h2⟩
      cases s.e.own with
      | true => exact this
      | false => exact List.mem_cons_of_mem _ this
theorem madeX_mem : ∀ {ns : List Fresh} {k i : Nat}, (k, i) ∈ madeX ns ↔ ∃ n ∈ ns, k = n.k ∧ i = n.i
  | [], k, i => by simp [madeX]
  | n :: r, k, i => by simp [madeX, madeX_mem (ns := r)]
theorem madeM_mem : ∀ {ns : List Fresh} {m : Nat × Chunk}, m ∈ madeM ns ↔ ∃ n ∈ ns, m = (n.i, n.d)
  | [], m => by simp [madeM]
  | n :: r, m => by simp [madeM, madeM_mem (ns := r)]
theorem modH_len : ∀ {ms : List (Nat × Chunk)} {h : List (Option Chunk)}, (modH h ms).length = h.length
  | [], h => rfl
  | (i, c) :: ms, h => by simp [modH, modH_len (ms := ms)]
theorem modH_get : ∀ {ms : List (Nat × Chunk)} {h : List (Option Chunk)} {k : Nat} {e : Chunk}, (modH h ms)[k]? = some (some e) → (∃ m ∈ ms, m.1 = k ∧ m.2 = e) ∨ ((∀ m ∈ ms, m.1 ≠ k) ∧ h[k]? = some (some e))
  | [], h, k, e, hk => .inr ⟨by simp, hk⟩
  | (i, c) :: ms, h, k, e, hk => by
    rcases modH_get (ms := ms) hk with ⟨m, hm, h1, h2⟩ | ⟨h1, h2⟩
    · exact .inl ⟨m, List.mem_cons_of_mem _ hm, h1, h2⟩
    · by_cases ek : i = k
      · subst ek
        have hl : i < h.length := by have := (List.getElem?_eq_some_iff.1 h2).1; simpa using this
        rw [List.getElem?_set_self hl] at h2
        exact .inl ⟨(i, c), by simp, rfl, by simpa using h2⟩
      · rw [List.getElem?_set_ne ek] at h2
        refine .inr ⟨fun m hm => ?_, h2⟩
        rcases List.mem_cons.1 hm with rfl | hm
        · exact ek
        · exact h1 m hm
theorem modH_fil : ∀ {ms : List (Nat × Chunk)} {h : List (Option Chunk)} {m : Nat × Chunk}, m ∈ ms → m.1 < h.length → Fil (modH h ms) m.1
  | (i, c) :: ms, h, m, hm, hl => by
    rcases List.mem_cons.1 hm with rfl | hm
    · exact Fil.mod (ms := ms) ⟨c, by rw [List.getElem?_set_self hl]⟩
    · exact modH_fil (ms := ms) hm (by simpa using hl)

def PartsIn (h : List (Option Chunk)) : List Piece → Prop
  | [] => True
  | s :: r => h[s.i]? = some (some s.c) ∧ PartsIn h r
def ChunkRe (ix : List (Nat × Nat)) (c e : Chunk) : Prop := ∀ j, j < e.n → Re1 ix (c.f j) (e.f j)
def PartsRe (ix : List (Nat × Nat)) : List Piece → Prop
  | [] => True
  | s :: r => ((s.e.own = true → s.c.own = true ∧ s.d.n ≤ s.c.n) ∧ s.e.n ≤ s.c.n ∧ ChunkRe ix s.c s.e) ∧ PartsRe ix r
def Apart : List Piece → Prop
  | [] => True
  | s :: r => (∀ t ∈ r, (s.e.own = true ∨ t.e.own = true) → s.i ≠ t.i) ∧ Apart r
def MadeIn (h : List (Option Chunk)) : List Fresh → Prop
  | [] => True
  | n :: r => (h[n.i]? = some none ∧ n.d.own = true ∧ 0 < n.d.n ∧ ∀ m ∈ r, n.i ≠ m.i ∧ n.k ≠ m.k) ∧ MadeIn h r
theorem PartsIn.at {h : List (Option Chunk)} : ∀ {ss : List Piece}, PartsIn h ss → ∀ s ∈ ss, h[s.i]? = some (some s.c)
  | t :: r, hp, s, hs => by
    rcases List.mem_cons.1 hs with rfl | hs
    · exact hp.1
    · exact hp.2.at s hs
theorem PartsRe.at {ix : List (Nat × Nat)} : ∀ {ss : List Piece}, PartsRe ix ss → ∀ s ∈ ss, (s.e.own = true → s.c.own = true ∧ s.d.n ≤ s.c.n) ∧ s.e.n ≤ s.c.n ∧ ChunkRe ix s.c s.e
  | t :: r, hp, s, hs => by
    rcases List.mem_cons.1 hs with rfl | hs
    · exact hp.1
    · exact hp.2.at s hs
theorem Apart.at : ∀ {ss : List Piece}, Apart ss → ∀ (k l : Nat) (s t : Piece), ss[k]? = some s → ss[l]? = some t → k ≠ l → s.e.own = true → s.i ≠ t.i
  | a :: r, hp, 0, 0, s, t, hk, hl, hne, ho => absurd rfl hne
  | a :: r, hp, 0, l + 1, s, t, hk, hl, hne, ho => by
    simp at hk; subst hk
    exact hp.1 t (List.mem_of_getElem? (by simpa using hl)) (.inl ho)
  | a :: r, hp, k + 1, 0, s, t, hk, hl, hne, ho => by
    simp at hl; subst hl
    exact fun e => hp.1 s (List.mem_of_getElem? (by simpa using hk)) (.inr ho) e.symm
  | a :: r, hp, k + 1, l + 1, s, t, hk, hl, hne, ho => hp.2.at k l s t (by simpa using hk) (by simpa using hl) (by omega) ho
theorem MadeIn.at {h : List (Option Chunk)} : ∀ {ns : List Fresh}, MadeIn h ns → ∀ n ∈ ns, h[n.i]? = some none ∧ n.d.own = true ∧ 0 < n.d.n
  | t :: r, hp, s, hs => by
    rcases List.mem_cons.1 hs with rfl | hs
    · exact ⟨hp.1.1, hp.1.2.1, hp.1.2.2.1⟩
    · exact hp.2.at s hs
theorem MadeIn.ne {h : List (Option Chunk)} : ∀ {ns : List Fresh}, MadeIn h ns → ∀ n ∈ ns, ∀ m ∈ ns, (n.i = m.i ∨ n.k = m.k) → n = m
  | t :: r, hp, n, hn, m, hm, he => by
    rcases List.mem_cons.1 hn with h1 | h1 <;> rcases List.mem_cons.1 hm with h2 | h2
    · rw [h1, h2]
    · have := hp.1.2.2.2 m h2; rw [h1] at he; omega
    · have := hp.1.2.2.2 n h1; rw [h2] at he; omega
    · exact hp.2.ne n h1 m h2 he

/-- A stretch that is only read, and that holds no addresses. -/
theorem reSame {ix : List (Nat × Nat)} {o : Bool} {n m : Nat} {ps : List (Nat × Nat × Value)} (hp : ∀ j, j < n → plain1 (cellOf ps j) = true) :
    ((⟨false, n, ps⟩ : Chunk).own = true → (⟨o, n, ps⟩ : Chunk).own = true ∧ m ≤ (⟨o, n, ps⟩ : Chunk).n) ∧ (⟨false, n, ps⟩ : Chunk).n ≤ (⟨o, n, ps⟩ : Chunk).n ∧ ChunkRe ix ⟨o, n, ps⟩ ⟨false, n, ps⟩ :=
  ⟨fun h => (by cases h), Nat.le_refl _, fun j hj => .plain (hp j hj)⟩
theorem agg_plain {n : Nat} {l : List Value} (hl : l.length = n) (h : plain2 (.agg ⟨l⟩) = true) : ∀ j, j < n → plain1 (cellOf [(0, n, .agg ⟨l⟩)] j) = true := fun j hj => by
  rw [cellOf_cons, if_pos (by omega)]
  simp only [cellIn, Nat.sub_zero, List.getD_eq_getElem?_getD]
  rw [List.getElem?_eq_getElem (by omega)]
  simp only [plain2, List.all_eq_true] at h
  exact h _ (List.getElem_mem _)
/-- What a stretch must hold when the callee is done. -/
def PostC (ix : List (Nat × Nat)) (h : List (Option Chunk)) (k : Nat) (d : Chunk) : Prop := ∃ c, h[k]? = some (some c) ∧ (d.own = true → c.own = true) ∧ d.n ≤ c.n ∧ ∀ j, j < d.n → Re1 ix (d.f j) (c.f j)
def PostS (ix : List (Nat × Nat)) (h : List (Option Chunk)) : List Piece → Nat → Prop
  | [], _ => True
  | s :: r, k => match s.e.own with
    | true => PostC ix h k s.d ∧ PostS ix h r (k + 1)
    | false => PostS ix h r (k + 1)
def PostN (ix : List (Nat × Nat)) (h : List (Option Chunk)) (n0 : Nat) : List Fresh → Prop
  | [] => True
  | n :: r => (n0 ≤ n.k ∧ PostC ix h n.k n.d) ∧ PostN ix h n0 r
theorem PostS.at {ix : List (Nat × Nat)} {h : List (Option Chunk)} : ∀ {ss : List Piece} {k0 : Nat}, PostS ix h ss k0 → ∀ (l : Nat) (s : Piece), ss[l]? = some s → s.e.own = true → PostC ix h (k0 + l) s.d
  | a :: r, k0, hp, 0, s, hl, ho => by
    simp at hl; subst hl
    simp only [PostS] at hp
    rw [ho] at hp
    exact hp.1
  | a :: r, k0, hp, l + 1, s, hl, ho => by
    simp only [PostS] at hp
    have : PostS ix h r (k0 + 1) := by
      cases e : a.e.own with
      | true => rw [e] at hp; exact hp.2
      | false => rw [e] at hp; exact hp
    rw [show k0 + (l + 1) = k0 + 1 + l from by omega]
    exact this.at l s (by simpa using hl) ho
theorem PostN.at {ix : List (Nat × Nat)} {h : List (Option Chunk)} {n0 : Nat} : ∀ {ns : List Fresh}, PostN ix h n0 ns → ∀ n ∈ ns, n0 ≤ n.k ∧ PostC ix h n.k n.d
  | t :: r, hp, s, hs => by
    rcases List.mem_cons.1 hs with rfl | hs
    · exact hp.1
    · exact hp.2.at s hs

section
variable {P : Program} {G : Tys}
def subσ (ss : List Piece) (k : Nat) : Nat := match ss[k]? with
  | some s => s.i
  | none => 0
/-- What the callee may write. -/
def subM (ρ : Nat → Nat × Nat) (ss : List Piece) : Addr → Prop := fun a => a.spot = none ∧ ∃ s ∈ ss, s.e.own = true ∧ a.block = (ρ s.i).1 ∧ (ρ s.i).2 ≤ a.off ∧ a.off < (ρ s.i).2 + s.c.n
/-- The callee's run: what it begins with. -/
theorem sub_run {g : FuncId} {fn : Func} {cd : Code} {h₂ : List (Option Chunk)} {vs : List Value} (ss : List Piece) (vs' : List Value) {R : Value → St → Prop}
    (hG : TysOK P G) (hm : P.follows .mixedOrders = true) (hf : P.funcs[g]? = some fn) (hb : fn.body = some cd)
    (hI : ∀ s ∈ ss, h₂[s.i]? = some (some s.c)) (hre : PartsRe (partX ss 0) ss) (hap : Apart ss) (hvs : All2 (Re2 (partX ss 0)) vs vs')
    (hwp : initK vs' fn.ntmps fun t => wpC P G ss.length cd (bodyQ P G fn R) ⟨t, partH ss⟩)
    {X : Ctx} {ρ : Nat → Nat × Nat} {w : World} {xs : List Value} (H : HOK X ρ h₂ w) (hx : All2 (Den (Fil h₂) ρ) vs xs) :
    Calls P g ⟨xs⟩ w fun e w' => ∃ ρ1 v st x, e = .returned x ∧ HOK ⟨w, subM ρ ss, ss.length, fun k => ρ (subσ ss k)⟩ ρ1 st.h w' ∧ Den (Fil st.h) ρ1 v x ∧ R v st := by
  let σ : Nat → Nat := subσ ss
  have hσ : ∀ k s, ss[k]? = some s → σ k = s.i := fun k s hk => by show (match ss[k]? with | some s => s.i | none => 0) = s.i; rw [hk]
  let M' : Addr → Prop := subM ρ ss
  have hsp : ∀ b, ¬ M' ⟨b, 0, some 0⟩ := fun b hb => by simp [M', subM] at hb
  have hix0 : ∀ k i, (k, i) ∈ partX ss 0 → i = σ k ∧ k < ss.length := fun k i hki => by
    obtain ⟨l, s, hl, rfl, rfl⟩ := partX_mem.1 hki
    rw [Nat.zero_add]
    exact ⟨(hσ l s hl).symm, (List.getElem?_eq_some_iff.1 hl).1⟩
  have filH : ∀ k s, ss[k]? = some s → Fil (partH ss) k := fun k s hk => ⟨s.e, by rw [partH_get, hk]; rfl⟩
  have getP : ∀ k c, (partH ss)[k]? = some (some c) → ∃ s : Piece, ss[k]? = some s ∧ s.e = c := fun k c hk => by
    rw [partH_get] at hk
    cases e : ss[k]? with
    | none => rw [e] at hk; cases hk
    | some s => rw [e] at hk; exact ⟨s, e, by simpa using hk⟩
  have H0 : HOK ⟨w, M', ss.length, fun k => ρ (σ k)⟩ (fun k => ρ (σ k)) (partH ss) w := by
    refine ⟨Evo.refl _ _, fun k hk => ?_, fun k c hk => ?_, fun k c hk j hj => ?_, fun k c hk ho j hj => ?_, fun k c l e hk ho hl hne => ?_⟩
    · have hk : k < ss.length := hk
      exact ⟨filH k ss[k] (by simp [hk]), rfl⟩
    · obtain ⟨s, hs, rfl⟩ := getP k c hk
      show (ρ (σ k)).1 < _
      rw [hσ k s hs]
      exact H.lt _ _ (hI s (List.mem_of_getElem? hs))
    · obtain ⟨s, hs, rfl⟩ := getP k c hk
      have hmem := List.mem_of_getElem? hs
      obtain ⟨_, hn, hcr⟩ := hre.at s hmem
      obtain ⟨x, hx, hdx⟩ := H.cell _ _ (hI s hmem) j (Nat.lt_of_lt_of_le hj hn)
      show ∃ x, w.cell? ⟨(ρ (σ k)).1, (ρ (σ k)).2 + j, none⟩ = some x ∧ _
      rw [hσ k s hs]
      refine ⟨x, hx, fun r hrr => ?_⟩
      have := (hcr j hj).den (r := ρ) (r' := r) (fun k i hki => by
        obtain ⟨rfl, hlt⟩ := hix0 k i hki
        exact (hrr k (filH k ss[k] (by simp [hlt]))).symm)
      rw [← this]
      exact hdx.self
    · obtain ⟨s, hs, rfl⟩ := getP k c hk
      have hmem := List.mem_of_getElem? hs
      obtain ⟨ho1, hn, hcr⟩ := hre.at s hmem
      have hj' := Nat.lt_of_lt_of_le hj hn
      show w.frozen? ⟨(ρ (σ k)).1, (ρ (σ k)).2 + j, none⟩ = false ∧ (_ ≤ (ρ (σ k)).1 ∨ M' ⟨(ρ (σ k)).1, (ρ (σ k)).2 + j, none⟩)
      rw [hσ k s hs]
      exact ⟨(H.own _ _ (hI s hmem) (ho1 ho).1 j hj').1, .inr ⟨rfl, s, hmem, ho, rfl, Nat.le_add_right _ _, Nat.add_lt_add_left hj' _⟩⟩
    · obtain ⟨s, hs, rfl⟩ := getP k c hk
      obtain ⟨t, ht, rfl⟩ := getP l e hl
      have hmem := List.mem_of_getElem? hs
      show (ρ (σ k)).1 ≠ (ρ (σ l)).1
      rw [hσ k s hs, hσ l t ht]
      exact H.sep _ _ _ _ (hI s hmem) ((hre.at s hmem).1 ho).1 (hI t (List.mem_of_getElem? ht)) (hap.at k l s t hs ht hne ho)
  have hargs : ∀ (as bs ys : List Value), All2 (Re2 (partX ss 0)) as bs → All2 (Den (Fil h₂) ρ) as ys → All2 (Den (Fil (partH ss)) (fun k => ρ (σ k))) bs ys := by
    intro as
    induction as with
    | nil => intro bs ys h1 h2; cases bs with
      | nil => cases ys with
        | nil => exact trivial
        | cons _ _ => exact h2.elim
      | cons _ _ => exact h1.elim
    | cons a as ih =>
      intro bs ys h1 h2
      cases bs with
      | nil => exact h1.elim
      | cons b bs => cases ys with
        | nil => exact h2.elim
        | cons y ys =>
          refine ⟨fun r hrr => ?_, ih bs ys h1.2 h2.2⟩
          have := h1.1.den (r := ρ) (r' := r) (fun k i hki => by
            obtain ⟨rfl, hlt⟩ := hix0 k i hki
            exact (hrr k (filH k ss[k] (by simp [hlt]))).symm)
          rw [← this]
          exact h2.1.self
  exact calls_sx (X := ⟨w, M', ss.length, fun k => ρ (σ k)⟩) (args := ⟨xs⟩) hG hm hf hb H0 (hargs _ _ _ hvs hx) hwp
open Classical in
/-- The callee's end: what the caller knows of it. -/
theorem sub_glue {h h₂ : List (Option Chunk)} {V : Value} (ss : List Piece) (ns : List Fresh)
    (hI : ∀ s ∈ ss, h₂[s.i]? = some (some s.c)) (hNw : ∀ n ∈ ns, h₂[n.i]? = some none) (hre : PartsRe (partX ss 0) ss) (hap : Apart ss) (hmi : MadeIn h ns)
    {X : Ctx} {ρ : Nat → Nat × Nat} {w w' : World} {ρ1 : Nat → Nat × Nat} {v x : Value} {st : St} (H : HOK X ρ h₂ w)
    (H1 : HOK ⟨w, subM ρ ss, ss.length, fun k => ρ (subσ ss k)⟩ ρ1 st.h w') (hdx : Den (Fil st.h) ρ1 v x)
    (hV : Re (partX ss 0 ++ madeX ns) V v) (hS : PostS (partX ss 0 ++ madeX ns) st.h ss 0) (hN : PostN (partX ss 0 ++ madeX ns) st.h ss.length ns) :
    ∃ ρ', AgreeOn (Fil h₂) ρ ρ' ∧ HOK X ρ' (modH h₂ (partM ss ++ madeM ns)) w' ∧ Den (Fil (modH h₂ (partM ss ++ madeM ns))) ρ' V x := by
  let σ : Nat → Nat := subσ ss
  have hσ : ∀ k s, ss[k]? = some s → σ k = s.i := fun k s hk => by show (match ss[k]? with | some s => s.i | none => 0) = s.i; rw [hk]
  let M' : Addr → Prop := subM ρ ss
  have hsp : ∀ b, ¬ M' ⟨b, 0, some 0⟩ := fun b hb => by simp [M', subM] at hb
  have hsz : w.heap.size ≤ w'.heap.size := H1.evo.size
  have hbase : ∀ k s, ss[k]? = some s → Fil st.h k ∧ ρ1 k = ρ s.i := fun k s hk => by
    obtain ⟨h1, h2⟩ := H1.base k (List.getElem?_eq_some_iff.1 hk).1
    exact ⟨h1, h2.trans (by show ρ (σ k) = _; rw [hσ k s hk])⟩
  -- the new stretches lie in new blocks
  have hnew : ∀ n ∈ ns, w.heap.size ≤ (ρ1 n.k).1 := fun n hn => by
    obtain ⟨hk, c, hc, ho, hle, _⟩ := hN.at n hn
    obtain ⟨_, hdo, hpos⟩ := hmi.at n hn
    rcases (H1.own n.k c hc (ho hdo) 0 (Nat.lt_of_lt_of_le hpos hle)).2 with h | ⟨_, s, hs, hso, hbl, _⟩
    · exact h
    · obtain ⟨l, hl, hlt⟩ := List.getElem_of_mem hs
      have hl' : ss[l]? = some s := by rw [List.getElem?_eq_getElem hl, hlt]
      obtain ⟨⟨d, hd⟩, hρ⟩ := hbase l s hl'
      have := H1.sep n.k c l d hc (ho hdo) hd (by omega)
      rw [hρ] at this
      exact absurd hbl this
  let ρ' : Nat → Nat × Nat := fun j => if hj : ∃ n ∈ ns, n.i = j then ρ1 (Classical.choose hj).k else ρ j
  have ρnew : ∀ n ∈ ns, ρ' n.i = ρ1 n.k := fun n hn => by
    have hj : ∃ m ∈ ns, m.i = n.i := ⟨n, hn, rfl⟩
    have hc := Classical.choose_spec hj
    have : Classical.choose hj = n := hmi.ne _ hc.1 _ hn (.inl hc.2)
    show (if hj : ∃ m ∈ ns, m.i = n.i then ρ1 (Classical.choose hj).k else ρ n.i) = _
    rw [dif_pos hj, this]
  have ρold : ∀ j, Fil h₂ j → ρ' j = ρ j := fun j ⟨c, hc⟩ => by
    have : ¬ ∃ n ∈ ns, n.i = j := fun ⟨n, hn, he⟩ => by
      have := hNw n hn
      rw [he, hc] at this
      simp at this
    show (if hj : ∃ m ∈ ns, m.i = j then ρ1 (Classical.choose hj).k else ρ j) = _
    rw [dif_neg this]
  have filS : ∀ s ∈ ss, Fil h₂ s.i := fun s hs => ⟨_, hI s hs⟩
  let ms : List (Nat × Chunk) := partM ss ++ madeM ns
  have fil : ∀ k, Fil h₂ k → Fil (modH h₂ ms) k := fun k hk => hk.mod
  have filN : ∀ n ∈ ns, Fil (modH h₂ ms) n.i := fun n hn =>
    modH_fil (m := (n.i, n.d)) (List.mem_append_right _ (madeM_mem.2 ⟨n, hn, rfl⟩)) (List.getElem?_eq_some_iff.1 (hNw n hn)).1
  have hix : ∀ k i, (k, i) ∈ partX ss 0 ++ madeX ns → Fil (modH h₂ ms) i ∧ ρ' i = ρ1 k := fun k i hki => by
    rcases List.mem_append.1 hki with hki | hki
    · obtain ⟨l, s, hl, rfl, rfl⟩ := partX_mem.1 hki
      have hmem := List.mem_of_getElem? hl
      rw [Nat.zero_add]
      exact ⟨fil _ (filS s hmem), (ρold _ (filS s hmem)).trans (hbase l s hl).2.symm⟩
    · obtain ⟨n, hn, rfl, rfl⟩ := madeX_mem.1 hki
      exact ⟨filN n hn, ρnew n hn⟩
  have hden : ∀ r, AgreeOn (Fil (modH h₂ ms)) ρ' r → ∀ k i, (k, i) ∈ partX ss 0 ++ madeX ns → r i = ρ1 k := fun r hrr k i hki => by
    obtain ⟨h1, h2⟩ := hix k i hki
    exact (hrr i h1).trans h2
  -- where a stretch of the result comes from
  have get : ∀ k e, (modH h₂ ms)[k]? = some (some e) → (∃ (l : Nat) (s : Piece), ss[l]? = some s ∧ s.e.own = true ∧ s.i = k ∧ s.d = e) ∨ (∃ n ∈ ns, n.i = k ∧ n.d = e) ∨ ((∀ s ∈ ss, s.e.own = true → s.i ≠ k) ∧ h₂[k]? = some (some e)) := fun k e hk => by
    rcases modH_get hk with ⟨m, hm, h1, h2⟩ | ⟨h1, h2⟩
    · rcases List.mem_append.1 hm with hm | hm
      · obtain ⟨s, hs, ho, rfl⟩ := partM_mem.1 hm
        obtain ⟨l, hl, hlt⟩ := List.getElem_of_mem hs
        exact .inl ⟨l, s, by rw [List.getElem?_eq_getElem hl, hlt], ho, h1, h2⟩
      · obtain ⟨n, hn, rfl⟩ := madeM_mem.1 hm
        exact .inr (.inl ⟨n, hn, h1, h2⟩)
    · exact .inr (.inr ⟨fun s hs ho => h1 _ (List.mem_append_left _ (partM_mem.2 ⟨s, hs, ho, rfl⟩)), h2⟩)
  have old : ∀ k e, (modH h₂ ms)[k]? = some (some e) → (∃ n ∈ ns, n.i = k ∧ n.d = e) ∨ (∃ c, h₂[k]? = some (some c) ∧ (e.own = true → c.own = true) ∧ ρ' k = ρ k) := fun k e hk => by
    rcases get k e hk with ⟨l, s, hl, ho, rfl, rfl⟩ | hn | ⟨_, hk⟩
    · have hmem := List.mem_of_getElem? hl
      exact .inr ⟨_, hI s hmem, fun _ => ((hre.at s hmem).1 ho).1, ρold _ (filS s hmem)⟩
    · exact .inl hn
    · exact .inr ⟨e, hk, id, ρold k ⟨e, hk⟩⟩
  have same : ∀ k c', h₂[k]? = some (some c') → (∀ s ∈ ss, s.e.own = true → s.i ≠ k) → w'.heap[(ρ k).1]? = w.heap[(ρ k).1]? := fun k c' hk hne =>
    H1.evo.same (H.lt _ _ hk) (hsp _) fun j ⟨_, s, hs, hso, hbl, _⟩ => H.sep _ _ _ _ (hI s hs) ((hre.at s hs).1 hso).1 hk (hne s hs hso) hbl.symm
  refine ⟨ρ', fun k hk => ρold k hk, ?_, ?_⟩
  · show HOK X ρ' (modH h₂ ms) w'
    refine ⟨H.evo.into H1.evo hsp fun p j hj => ?_, fun k hk => ⟨fil k (H.base k hk).1, (ρold k (H.base k hk).1).trans (H.base k hk).2⟩, fun k e hk => ?_, fun k e hk j hj => ?_, fun k e hk hoe j hj => ?_, fun k e l f' hk hoe hlf hne => ?_⟩
    · obtain ⟨_, s, hs, hso, hbl, h1, h2⟩ := hj
      have hbl : p = (ρ s.i).1 := hbl
      have h1 : (ρ s.i).2 ≤ j := h1
      have h2 : j < (ρ s.i).2 + s.c.n := h2
      have := (H.own _ _ (hI s hs) ((hre.at s hs).1 hso).1 (j - (ρ s.i).2) (by omega)).2
      rw [show (ρ s.i).2 + (j - (ρ s.i).2) = j from by omega, ← hbl] at this
      exact this
    · rcases old k e hk with ⟨n, hn, rfl, rfl⟩ | ⟨c, hc, _, hρ⟩
      · rw [ρnew n hn]
        obtain ⟨_, c, hc, _⟩ := hN.at n hn
        exact H1.lt _ _ hc
      · rw [hρ]; exact Nat.lt_of_lt_of_le (H.lt _ _ hc) hsz
    · rcases get k e hk with ⟨l, s, hl, ho, rfl, rfl⟩ | ⟨n, hn, rfl, rfl⟩ | ⟨hne, hk⟩
      · have hmem := List.mem_of_getElem? hl
        obtain ⟨c, hc, _, hle, hR⟩ := hS.at l s hl ho
        rw [Nat.zero_add] at hc
        obtain ⟨y, hy, hdy⟩ := H1.cell l c hc j (Nat.lt_of_lt_of_le hj hle)
        rw [ρold _ (filS s hmem), ← (hbase l s hl).2]
        exact ⟨y, hy, fun r hrr => ((hR j hj).den (hden r hrr)).trans hdy.self⟩
      · obtain ⟨_, c, hc, _, hle, hR⟩ := hN.at n hn
        obtain ⟨y, hy, hdy⟩ := H1.cell n.k c hc j (Nat.lt_of_lt_of_le hj hle)
        rw [ρnew n hn]
        exact ⟨y, hy, fun r hrr => ((hR j hj).den (hden r hrr)).trans hdy.self⟩
      · obtain ⟨y, hy, hdy⟩ := H.cell _ _ hk j hj
        rw [ρold k ⟨e, hk⟩]
        refine ⟨y, ?_, hdy.more (fun i hi => ρold i hi) fil⟩
        have := same k e hk hne
        rw [← hy]
        unfold World.cell?
        simp only [this]
    · rcases get k e hk with ⟨l, s, hl, ho, rfl, rfl⟩ | ⟨n, hn, rfl, rfl⟩ | ⟨hne, hk⟩
      · have hmem := List.mem_of_getElem? hl
        obtain ⟨c, hc, hoc, hle, hR⟩ := hS.at l s hl ho
        rw [Nat.zero_add] at hc
        have h1 := (H1.own l c hc (hoc hoe) j (Nat.lt_of_lt_of_le hj hle)).1
        rw [(hbase l s hl).2] at h1
        rw [ρold _ (filS s hmem)]
        obtain ⟨hco, hdn⟩ := (hre.at s hmem).1 ho
        exact ⟨h1, (H.own _ _ (hI s hmem) hco j (Nat.lt_of_lt_of_le hj hdn)).2⟩
      · obtain ⟨_, c, hc, hoc, hle, _⟩ := hN.at n hn
        rw [ρnew n hn]
        exact ⟨(H1.own n.k c hc (hoc hoe) j (Nat.lt_of_lt_of_le hj hle)).1, .inl (Nat.le_trans H.evo.size (hnew n hn))⟩
      · obtain ⟨hy, hdy⟩ := H.own _ _ hk hoe j hj
        rw [ρold k ⟨e, hk⟩]
        refine ⟨?_, hdy⟩
        have := same k e hk hne
        rw [← hy]
        unfold World.frozen?
        simp only [this]
    · rcases old k e hk with ⟨n, hn, rfl, rfl⟩ | ⟨c, hc, hco, hρ⟩ <;> rcases old l f' hlf with ⟨m, hm', rfl, rfl⟩ | ⟨c', hc', _, hρ'⟩
      · rw [ρnew n hn, ρnew m hm']
        obtain ⟨_, c, hc, hoc, _⟩ := hN.at n hn
        obtain ⟨_, c', hc', _⟩ := hN.at m hm'
        refine H1.sep _ _ _ _ hc (hoc hoe) hc' fun ek => hne ?_
        rw [hmi.ne n hn m hm' (.inr ek)]
      · rw [ρnew n hn, hρ']
        have := H.lt _ _ hc'
        have := hnew n hn
        omega
      · rw [hρ, ρnew m hm']
        have := H.lt _ _ hc
        have := hnew m hm'
        omega
      · rw [hρ, hρ']
        exact H.sep _ _ _ _ hc (hco hoe) hc' hne
  · intro r hrr
    rw [hV.den (hden r hrr)]
    exact hdx.self
theorem call_sub {g : FuncId} {fn : Func} {cd : Code} {h : List (Option Chunk)} {vs : List Value} {V : Value} (ss : List Piece) (ns : List Fresh) (vs' : List Value)
    (hG : TysOK P G) (hm : P.follows .mixedOrders = true) (hf : P.funcs[g]? = some fn) (hb : fn.body = some cd) (hr : ∀ xs w, (callFunc g xs).run P w = .ok (.enter g xs) w)
    (hin : PartsIn h ss) (hre : PartsRe (partX ss 0) ss) (hap : Apart ss) (hmi : MadeIn h ns) (hvs : All2 (Re2 (partX ss 0)) vs vs')
    (hwp : initK vs' fn.ntmps fun t => wpC P G ss.length cd (bodyQ P G fn fun v st => N (Obl (Re (partX ss 0 ++ madeX ns) V v) (N (Obl (PostS (partX ss 0 ++ madeX ns) st.h ss 0) (N (Obl (PostN (partX ss 0 ++ madeX ns) st.h ss.length ns) (N True))))))) ⟨t, partH ss⟩) :
    CallOK P g vs h V (partM ss ++ madeM ns) (partR ss) := fun h₂ hrd hms X ρ w xs H hx => by
  have hI : ∀ s ∈ ss, h₂[s.i]? = some (some s.c) := fun s hs => by
    cases e : s.e.own with
    | true => exact (hms (s.i, s.d) (List.mem_append_left _ (partM_mem.2 ⟨s, hs, e, rfl⟩))).trans (hin.at s hs)
    | false => exact (hrd s.i (partR_mem ⟨s, hs, e, rfl⟩)).trans (hin.at s hs)
  have hNw : ∀ n ∈ ns, h₂[n.i]? = some none := fun n hn => (hms (n.i, n.d) (List.mem_append_right _ (madeM_mem.2 ⟨n, hn, rfl⟩))).trans (hmi.at n hn).1
  refine .inr ⟨hr _ w, ?_⟩
  refine (sub_run ss vs' hG hm hf hb hI hre hap hvs hwp H hx).mono ?_
  rintro e w' ⟨ρ1, v, st, x, rfl, H1, hdx, hq⟩
  have q1 : Re (partX ss 0 ++ madeX ns) V v ∧ N _ := N.out hq
  have q2 : PostS (partX ss 0 ++ madeX ns) st.h ss 0 ∧ N _ := N.out q1.2
  have q3 : PostN (partX ss 0 ++ madeX ns) st.h ss.length ns ∧ N True := N.out q2.2
  exact ⟨x, rfl, sub_glue ss ns hI hNw hre hap hmi H H1 hdx q1.1 q2.1 q3.1⟩

/-! ### All outcomes -/
def setD : List Piece → List Chunk → List Piece
  | [], _ => []
  | s :: r, [] => s :: setD r []
  | s :: r, d :: ds => ⟨s.i, s.c, s.e, d⟩ :: setD r ds
theorem setD_nil : ∀ (ss : List Piece), setD ss [] = ss
  | [] => rfl
  | s :: r => by simp [setD, setD_nil r]
theorem setD_map {β : Type} (f : Nat → Chunk → Chunk → β) : ∀ (ss : List Piece) (ds : List Chunk), (setD ss ds).map (fun s => f s.i s.c s.e) = ss.map (fun s => f s.i s.c s.e)
  | [], _ => rfl
  | s :: r, [] => by simp [setD, setD_nil]
  | s :: r, d :: ds => by simp only [setD, List.map_cons, setD_map f r ds]
theorem setD_len (ss : List Piece) (ds : List Chunk) : (setD ss ds).length = ss.length := by
  have := congrArg List.length (setD_map (fun i _ _ => i) ss ds); simpa using this
theorem setD_X : ∀ (ss : List Piece) (ds : List Chunk) (k : Nat), partX (setD ss ds) k = partX ss k
  | [], _, _ => rfl
  | s :: r, [], k => by rw [setD_nil]
  | s :: r, d :: ds, k => by simp only [setD, partX, setD_X r ds]
theorem setD_mem {ss : List Piece} {ds : List Chunk} {s : Piece} (h : s ∈ setD ss ds) : ∃ t ∈ ss, t.i = s.i ∧ t.c = s.c ∧ t.e = s.e := by
  have := setD_map (fun i c e => (i, c, e)) ss ds
  have hm : (s.i, s.c, s.e) ∈ (setD ss ds).map (fun s => (s.i, s.c, s.e)) := List.mem_map.2 ⟨s, h, rfl⟩
  rw [this] at hm
  obtain ⟨t, ht, e⟩ := List.mem_map.1 hm
  simp only [Prod.mk.injEq] at e
  exact ⟨t, ht, e.1, e.2.1, e.2.2⟩
theorem setD_mem' {ss : List Piece} {ds : List Chunk} {t : Piece} (h : t ∈ ss) : ∃ s ∈ setD ss ds, t.i = s.i ∧ t.c = s.c ∧ t.e = s.e := by
  have := setD_map (fun i c e => (i, c, e)) ss ds
  have hm : (t.i, t.c, t.e) ∈ ss.map (fun s => (s.i, s.c, s.e)) := List.mem_map.2 ⟨t, h, rfl⟩
  rw [← this] at hm
  obtain ⟨s, hs, e⟩ := List.mem_map.1 hm
  simp only [Prod.mk.injEq] at e
  exact ⟨s, hs, e.1.symm, e.2.1.symm, e.2.2.symm⟩
theorem setD_σ (ss : List Piece) (ds : List Chunk) : subσ (setD ss ds) = subσ ss := by
  funext k
  have := congrArg (fun l => l[k]?) (setD_map (fun i _ _ => i) ss ds)
  simp only [List.getElem?_map] at this
  unfold subσ
  cases h1 : (setD ss ds)[k]? <;> cases h2 : ss[k]? <;> simp_all
theorem setD_M (ρ : Nat → Nat × Nat) (ss : List Piece) (ds : List Chunk) : subM ρ (setD ss ds) = subM ρ ss := by
  funext a
  unfold subM
  refine propext ⟨fun ⟨h, s, hs, h1⟩ => ?_, fun ⟨h, s, hs, h1⟩ => ?_⟩
  · obtain ⟨t, ht, e1, e2, e3⟩ := setD_mem hs
    exact ⟨h, t, ht, by rw [e1, e2, e3]; exact h1⟩
  · obtain ⟨t, ht, e1, e2, e3⟩ := setD_mem' (ds := ds) hs
    exact ⟨h, t, ht, by rw [← e1, ← e2, ← e3]; exact h1⟩
theorem setD_apart : ∀ {ss : List Piece} {ds : List Chunk}, Apart ss → Apart (setD ss ds)
  | [], _, _ => trivial
  | s :: r, [], h => by rw [setD_nil]; exact h
  | s :: r, d :: ds, h => ⟨fun t ht ho => by
      obtain ⟨t', ht', e1, _, e3⟩ := setD_mem ht
      have := h.1 t' ht' (by rw [e3]; exact ho)
      rw [e1] at this; exact this, setD_apart h.2⟩
def SomeN {α : Type} (p : α → Prop) : Prop := ∃ κ, p κ
theorem N.some {α : Type} {p : α → Prop} (κ : α) (h : p κ) : N (SomeN p) := N.mk ⟨κ, h⟩
/-- As call_sub, where the outcome is one of many. -/
theorem call_suball {α : Type} {g : FuncId} {fn : Func} {cd : Code} {h : List (Option Chunk)} {vs : List Value} (ok : α → Prop) (V : α → Value) (ss : List Piece) (dd : α → List Chunk) (ns : α → List Fresh) (vs' : List Value)
    (hG : TysOK P G) (hm : P.follows .mixedOrders = true) (hf : P.funcs[g]? = some fn) (hb : fn.body = some cd) (hr : ∀ xs w, (callFunc g xs).run P w = .ok (.enter g xs) w)
    (hin : PartsIn h ss) (hre0 : PartsRe (partX ss 0) ss) (hre : ∀ κ, ok κ → PartsRe (partX ss 0) (setD ss (dd κ))) (hap : Apart ss) (hmi : ∀ κ, ok κ → MadeIn h (ns κ)) (hvs : All2 (Re2 (partX ss 0)) vs vs')
    (hwp : initK vs' fn.ntmps fun t => wpC P G ss.length cd (bodyQ P G fn fun v st => N (SomeN fun κ => ok κ ∧ N (Obl (Re (partX ss 0 ++ madeX (ns κ)) (V κ) v) (N (Obl (PostS (partX ss 0 ++ madeX (ns κ)) st.h (setD ss (dd κ)) 0) (N (Obl (PostN (partX ss 0 ++ madeX (ns κ)) st.h ss.length (ns κ)) (N True)))))))) ⟨t, partH ss⟩) :
    CallAll P g vs h fun v ms => ∃ κ, ok κ ∧ v = V κ ∧ ms = partM (setD ss (dd κ)) ++ madeM (ns κ) := fun X ρ w xs H hx => by
  refine .inr ⟨hr _ w, ?_⟩
  refine (sub_run ss vs' hG hm hf hb (fun s hs => hin.at s hs) hre0 hap hvs hwp H hx).mono ?_
  rintro e w' ⟨ρ1, v, st, x, rfl, H1, hdx, hq⟩
  obtain ⟨κ, hok, hq⟩ := N.out hq
  have q1 : Re (partX ss 0 ++ madeX (ns κ)) (V κ) v ∧ N _ := N.out hq
  have q2 : PostS (partX ss 0 ++ madeX (ns κ)) st.h (setD ss (dd κ)) 0 ∧ N _ := N.out q1.2
  have q3 : PostN (partX ss 0 ++ madeX (ns κ)) st.h ss.length (ns κ) ∧ N True := N.out q2.2
  obtain ⟨ρ', ha, hh, hd⟩ := sub_glue (h := h) (h₂ := h) (V := V κ) (setD ss (dd κ)) (ns κ) (fun s hs => by
    obtain ⟨t, ht, e1, e2, _⟩ := setD_mem hs
    rw [← e1, ← e2]; exact hin.at t ht) (fun n hn => ((hmi κ hok).at n hn).1) (by rw [setD_X]; exact hre κ hok) (setD_apart hap) (hmi κ hok) H
    (by rw [setD_M, setD_σ, setD_len]; exact H1) hdx (by rw [setD_X]; exact q1.1) (by rw [setD_X]; exact q2.1) (by rw [setD_X, setD_len]; exact q3.1)
  exact ⟨x, rfl, V κ, _, ρ', ⟨κ, hok, rfl, rfl⟩, ha, hh, hd⟩
end
end Go.Proofs.Ytfpmmahonddpoaa.Sx
