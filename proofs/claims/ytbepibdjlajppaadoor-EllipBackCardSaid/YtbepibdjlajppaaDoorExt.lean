
/-
  Stretches that bear blocks of their own: how they are opened and closed; contracts of callees that take or make such.
-/
import Derived.Test.YtbepibdjlajppaaDoorEngB
set_option linter.unusedVariables false
set_option linter.unusedSimpArgs false
namespace Go.Proofs.YtbepibdjlajppaaDoor.Sx
open Go Go.RowKit

/-! ### Another description of the same blocks -/
structure NewC (X : Ctx) (ρ' : Nat → Nat × Nat) (h' : List (Option Chunk)) (w : World) (F : Nat → Prop) (T : Nat → Nat → Prop) (k : Nat) (d : Chunk) : Prop where
  blk : F (ρ' k).1
  cell : ∀ j, j < d.n → ∃ x, w.cell? ⟨(ρ' k).1, (ρ' k).2 + j, none⟩ = some x ∧ Den1 (Fil h') ρ' (d.f j) x
  own : d.own = true → ∀ j, j < d.n → w.frozen? ⟨(ρ' k).1, (ρ' k).2 + j, none⟩ = false
  inv : d.x.inv (ρ' k) (T k) w
  foot : ∀ b, T k b → F b ∧ (d.n = 0 ∨ b ≠ (ρ' k).1)

/-- The stretches J, told anew as the stretches A. -/
theorem HOK.redo {X : Ctx} {ρ ρ' : Nat → Nat × Nat} {h h' : List (Option Chunk)} {w : World} {S T : Nat → Nat → Prop} (H : HOK X ρ h w) (E : ExtOK X ρ h w S) (J A F : Nat → Prop)
    (hF : ∀ b, F b → ∃ (j : Nat) (c : Chunk), J j ∧ h[j]? = some (some c) ∧ ((c.own = true ∧ b = (ρ j).1) ∨ S j b)) (hmay : ∀ b, F b → May X b)
    (hbase : ∀ i, i < X.n0 → Fil h' i ∧ ρ' i = ρ i)
    (hold : ∀ (k : Nat) (d : Chunk), h'[k]? = some (some d) → ¬ A k → ¬ J k ∧ ρ' k = ρ k ∧ h[k]? = some (some d) ∧ ∀ j, j < d.n → ∀ x, Den1 (Fil h) ρ (d.f j) x → Den1 (Fil h') ρ' (d.f j) x)
    (hnew : ∀ (k : Nat) (d : Chunk), h'[k]? = some (some d) → A k → NewC X ρ' h' w F T k d)
    (hsep : ∀ (k : Nat) (d : Chunk) (l : Nat) (e : Chunk), h'[k]? = some (some d) → A k → h'[l]? = some (some e) → A l → k ≠ l → (d.own = true → (ρ' k).1 ≠ (ρ' l).1) ∧ ∀ b, T k b → (ρ' l).1 ≠ b ∧ ¬ T l b) : HOK X ρ' h' w := by
  have outF : ∀ (k : Nat) (e : Chunk), h[k]? = some (some e) → ¬ J k → ¬ F (ρ k).1 := fun k e hk hJ hb => by
    obtain ⟨j, c, hj, hc, hb⟩ := hF _ hb
    have hne : j ≠ k := fun e => hJ (e ▸ hj)
    rcases hb with ⟨ho, hb⟩ | hb
    · exact H.sep _ _ _ _ hc ho hk hne hb.symm
    · exact (E.apart _ _ _ _ _ hc hb hk hne.symm).1 rfl
  have outS : ∀ (k : Nat) (e : Chunk) (b : Nat), h[k]? = some (some e) → ¬ J k → S k b → ¬ F b := fun k e b hk hJ hS hb => by
    obtain ⟨j, c, hj, hc, hb⟩ := hF _ hb
    have hne : j ≠ k := fun e => hJ (e ▸ hj)
    obtain ⟨a1, a2⟩ := E.apart _ _ b _ _ hk hS hc hne
    rcases hb with ⟨ho, hb⟩ | hb
    · exact a1 hb.symm
    · exact a2 hb
  have inF : ∀ b, F b → b < w.heap.size := fun b hb => by
    obtain ⟨j, c, hj, hc, hb⟩ := hF _ hb
    rcases hb with ⟨ho, rfl⟩ | hb
    · exact H.lt _ _ hc
    · exact (E.mine _ _ _ hc hb).2.1
  refine ⟨H.evo, fun i hi => ⟨(hbase i hi).1, (hbase i hi).2.trans (H.base i hi).2⟩, fun k d hk => ?_, fun k d hk j hj => ?_, fun k d hk ho j hj => ?_, fun k d l e hk ho hl hne => ?_, ?_⟩
  · by_cases hA : A k
    · exact inF _ (hnew k d hk hA).blk
    · obtain ⟨_, hρ, hk', _⟩ := hold k d hk hA
      rw [hρ]; exact H.lt _ _ hk'
  · by_cases hA : A k
    · exact (hnew k d hk hA).cell j hj
    · obtain ⟨_, hρ, hk', hd⟩ := hold k d hk hA
      rw [hρ]
      obtain ⟨x, hx, hx2⟩ := H.cell _ _ hk' j hj
      exact ⟨x, hx, hd j hj x hx2⟩
  · by_cases hA : A k
    · refine ⟨(hnew k d hk hA).own ho j hj, ?_⟩
      rcases hmay _ (hnew k d hk hA).blk with h1 | h1
      · exact .inl h1
      · exact .inr (h1.2 _)
    · obtain ⟨_, hρ, hk', _⟩ := hold k d hk hA
      rw [hρ]; exact H.own _ _ hk' ho j hj
  · by_cases hA : A k <;> by_cases hB : A l
    · exact (hsep k d l e hk hA hl hB hne).1 ho
    · obtain ⟨hJ, hρ, hl', _⟩ := hold l e hl hB
      rw [hρ]
      exact fun e' => outF l e hl' hJ (e' ▸ (hnew k d hk hA).blk)
    · obtain ⟨hJ, hρ, hk', _⟩ := hold k d hk hA
      rw [hρ]
      exact fun e' => outF k d hk' hJ (e' ▸ (hnew l e hl hB).blk)
    · obtain ⟨hJ, hρ, hk', _⟩ := hold k d hk hA
      obtain ⟨hJ2, hρ2, hl', _⟩ := hold l e hl hB
      rw [hρ, hρ2]
      exact H.sep _ _ _ _ hk' ho hl' hne
  · refine ⟨fun k b => (A k ∧ T k b) ∨ (¬ A k ∧ S k b), fun k d hk => ?_, fun k d b hk hS => ?_, fun k d b l e hk hS hl hne => ?_⟩
    · by_cases hA : A k
      · have : (fun b => (A k ∧ T k b) ∨ (¬ A k ∧ S k b)) = T k := by
          funext b; exact propext ⟨fun h => by rcases h with h | h; exact h.2; exact absurd hA h.1, fun h => .inl ⟨hA, h⟩⟩
        rw [this]; exact (hnew k d hk hA).inv
      · have : (fun b => (A k ∧ T k b) ∨ (¬ A k ∧ S k b)) = S k := by
          funext b; exact propext ⟨fun h => by rcases h with h | h; exact absurd h.1 hA; exact h.2, fun h => .inr ⟨hA, h⟩⟩
        rw [this]
        obtain ⟨_, hρ, hk', _⟩ := hold k d hk hA
        rw [hρ]; exact E.inv k d hk'
    · rcases hS with ⟨hA, hT⟩ | ⟨hA, hS⟩
      · obtain ⟨h1, h2⟩ := (hnew k d hk hA).foot b hT
        exact ⟨h2, inF b h1, hmay b h1⟩
      · obtain ⟨_, hρ, hk', _⟩ := hold k d hk hA
        rw [hρ]; exact E.mine k d b hk' hS
    · rcases hS with ⟨hA, hT⟩ | ⟨hA, hS⟩
      · by_cases hB : A l
        · obtain ⟨a1, a2⟩ := (hsep k d l e hk hA hl hB (Ne.symm hne)).2 b hT
          exact ⟨a1, fun h => by rcases h with h | h; exact a2 h.2; exact h.1 hB⟩
        · obtain ⟨hJ, hρ, hl', _⟩ := hold l e hl hB
          have hFb := ((hnew k d hk hA).foot b hT).1
          refine ⟨by rw [hρ]; exact fun e' => outF l e hl' hJ (e' ▸ hFb), fun h => ?_⟩
          rcases h with h | h
          · exact hB h.1
          · exact outS l e b hl' hJ h.2 hFb
      · obtain ⟨hJ, hρ, hk', _⟩ := hold k d hk hA
        by_cases hB : A l
        · refine ⟨fun e' => outS k d b hk' hJ hS (e' ▸ (hnew l e hl hB).blk), fun h => ?_⟩
          rcases h with h | h
          · exact outS k d b hk' hJ hS ((hnew l e hl hB).foot b h.2).1
          · exact h.1 hB
        · obtain ⟨_, hρ2, hl', _⟩ := hold l e hl hB
          obtain ⟨a1, a2⟩ := E.apart k d b l e hk' hS hl' hne
          refine ⟨by rw [hρ2]; exact a1, fun h => ?_⟩
          rcases h with h | h
          · exact hB h.1
          · exact a2 h.2

/-! ### What a callee may count on -/
structure Tidy (X : Ctx) (ss : List Piece) : Prop where
  n0 : X.n0 = ss.length
  m : ∀ b j, X.M ⟨b, j, none⟩ → (∃ k, k < X.n0 ∧ b = (X.ρ0 k).1) ∨ May X b
  x : ∀ (k : Nat) (s : Piece), ss[k]? = some s → s.e.x ≠ Ext.none → Selfish s.e.x → May X (X.ρ0 k).1
theorem Tidy.may {X : Ctx} {ss : List Piece} {ρ : Nat → Nat × Nat} {h : List (Option Chunk)} {w : World} (T : Tidy X ss) (H : HOK X ρ h w) {j : Nat} {c : Chunk} (hj : h[j]? = some (some c)) (ho : c.own = true) (hn : 0 < c.n) (hl : ss.length ≤ j) : May X (ρ j).1 := by
  rcases (H.own j c hj ho 0 hn).2 with h1 | h1
  · exact .inl h1
  · rcases T.m _ _ h1 with ⟨k, hk, hb⟩ | h2
    · obtain ⟨⟨d, hd⟩, hρ⟩ := H.base k hk
      have := H.sep j c k d hj ho hd (by have := T.n0; omega)
      rw [hρ] at this
      exact absurd hb this
    · exact h2
theorem Tidy.mayX {X : Ctx} {ss : List Piece} {ρ : Nat → Nat × Nat} {h : List (Option Chunk)} {w : World} (T : Tidy X ss) (H : HOK X ρ h w) {k : Nat} {s : Piece} (hk : ss[k]? = some s) (hx : s.e.x ≠ Ext.none) (hs : Selfish s.e.x) : May X (ρ k).1 := by
  have hl := (List.getElem?_eq_some_iff.1 hk).1
  rw [(H.base k (by rw [T.n0]; exact hl)).2]
  exact T.x k s hk hx hs

/-- The end of a callee, told anew. -/
def EndN (ss : List Piece) (h : List (Option Chunk)) (v : Value) (K : Value → List (Option Chunk) → Prop) : Prop :=
  ∀ X ρ w x, Tidy X ss → HOK X ρ h w → Den (Fil h) ρ v x → ∃ v' h' ρ', HOK X ρ' h' w ∧ Den (Fil h') ρ' v' x ∧ K v' h'
theorem N.endSame {ss : List Piece} {h : List (Option Chunk)} {v : Value} {K : Value → List (Option Chunk) → Prop} (k : K v h) : N (EndN ss h v K) := N.mk fun X ρ w x _ H hd => ⟨v, h, ρ, H, hd, k⟩
/-- What a callee begins with, told anew. -/
def Opens (ss : List Piece) {B : Type} (okB : B → Prop) (h1 : B → List (Option Chunk)) : Prop :=
  ∀ X ρ w, Tidy X ss → HOK X ρ (partH ss) w → ∃ β, okB β ∧ ∃ ρ', AgreeOn (Fil (partH ss)) ρ ρ' ∧ (∀ i, Fil (partH ss) i → Fil (h1 β) i) ∧ HOK X ρ' (h1 β) w
theorem Opens.same {ss : List Piece} : Opens ss (fun _ : Unit => True) (fun _ => partH ss) := fun X ρ w _ H => ⟨(), trivial, ρ, AgreeOn.refl _ _, fun _ h => h, H⟩
def PartsX : List Piece → Prop
  | [] => True
  | s :: r => (s.e.x = Ext.none ∨ (s.e.own = true ∧ s.e.x = s.c.x)) ∧ PartsX r
theorem PartsX.at : ∀ {ss : List Piece}, PartsX ss → ∀ s ∈ ss, PieceX s
  | t :: r, hp, s, hs => by
    rcases List.mem_cons.1 hs with rfl | hs
    · exact hp.1
    · exact PartsX.at hp.2 s hs
def PostX (h : List (Option Chunk)) : List Piece → Nat → Prop
  | [], _ => True
  | s :: r, k => (s.d.x = Ext.none ∨ ∃ c, h[k]? = some (some c) ∧ s.d.x = c.x) ∧ PostX h r (k + 1)
theorem PostX.at {h : List (Option Chunk)} : ∀ {ss : List Piece} {k0 : Nat}, PostX h ss k0 → ∀ (l : Nat) (s : Piece), ss[l]? = some s → s.d.x = Ext.none ∨ ∃ c, h[k0 + l]? = some (some c) ∧ s.d.x = c.x
  | a :: r, k0, hp, 0, s, hl => by simp at hl; subst hl; exact hp.1
  | a :: r, k0, hp, l + 1, s, hl => by
    rw [show k0 + (l + 1) = k0 + 1 + l from by omega]
    exact PostX.at hp.2 l s (by simpa using hl)
def MadeX (h : List (Option Chunk)) : List Fresh → Prop
  | [] => True
  | n :: r => (h[n.i]? = some none ∧ n.d.own = true ∧ (0 < n.d.n ∨ Selfish n.d.x) ∧ ∀ m ∈ r, n.i ≠ m.i ∧ n.k ≠ m.k) ∧ MadeX h r
theorem MadeX.at {h : List (Option Chunk)} : ∀ {ns : List Fresh}, MadeX h ns → ∀ n ∈ ns, h[n.i]? = some none ∧ n.d.own = true ∧ (0 < n.d.n ∨ Selfish n.d.x)
  | t :: r, hp, s, hs => by
    rcases List.mem_cons.1 hs with rfl | hs
    · exact ⟨hp.1.1, hp.1.2.1, hp.1.2.2.1⟩
    · exact MadeX.at hp.2 s hs
theorem MadeX.ne {h : List (Option Chunk)} : ∀ {ns : List Fresh}, MadeX h ns → ∀ n ∈ ns, ∀ m ∈ ns, (n.i = m.i ∨ n.k = m.k) → n = m
  | t :: r, hp, n, hn, m, hm, he => by
    rcases List.mem_cons.1 hn with h1 | h1 <;> rcases List.mem_cons.1 hm with h2 | h2
    · rw [h1, h2]
    · have := hp.1.2.2.2 m h2; rw [h1] at he; omega
    · have := hp.1.2.2.2 n h1; rw [h2] at he; omega
    · exact MadeX.ne hp.2 n h1 m h2 he
def MadeP (h : List (Option Chunk)) : List Fresh → Prop
  | [] => True
  | n :: r => (n.d.x = Ext.none ∨ ∃ c, h[n.k]? = some (some c) ∧ n.d.x = c.x) ∧ MadeP h r
theorem MadeP.at {h : List (Option Chunk)} : ∀ {ns : List Fresh}, MadeP h ns → ∀ n ∈ ns, n.d.x = Ext.none ∨ ∃ c, h[n.k]? = some (some c) ∧ n.d.x = c.x
  | t :: r, hp, s, hs => by
    rcases List.mem_cons.1 hs with rfl | hs
    · exact hp.1
    · exact MadeP.at hp.2 s hs

theorem all2_up {F F' : Nat → Prop} {ρ ρ' : Nat → Nat × Nat} (ha : AgreeOn F ρ ρ') (hF : ∀ i, F i → F' i) : ∀ {vs xs : List Value}, All2 (Den F ρ) vs xs → All2 (Den F' ρ') vs xs
  | [], [], _ => trivial
  | [], _ :: _, h => h.elim
  | _ :: _, [], h => h.elim
  | _ :: _, _ :: _, h => ⟨h.1.more ha hF, all2_up ha hF h.2⟩
section
variable {P : Program} {G : Tys}
theorem sub_tidy {ss : List Piece} {ρ : Nat → Nat × Nat} {w : World} {S : Nat → Nat → Prop} {h : List (Option Chunk)} {X : Ctx} (hI : ∀ s ∈ ss, h[s.i]? = some (some s.c)) (hex : PartsX ss) (E : ExtOK X ρ h w S) : Tidy ⟨w, subM ρ S ss, ss.length, fun k => ρ (subσ ss k)⟩ ss := by
  have hσ : ∀ k s, ss[k]? = some s → subσ ss k = s.i := fun k s hk => by show (match ss[k]? with | some s => s.i | none => 0) = s.i; rw [hk]
  refine ⟨rfl, fun b j hm => ?_, fun k s hk hx hs => ?_⟩
  · rcases hm with ⟨_, s, hs, _, hb, _⟩ | ⟨s, hs, ho, hb⟩
    · obtain ⟨l, hl, hlt⟩ := List.getElem_of_mem hs
      have hl' : ss[l]? = some s := by rw [List.getElem?_eq_getElem hl, hlt]
      exact .inl ⟨l, hl, by show b = (ρ (subσ ss l)).1; rw [hσ l s hl']; exact hb⟩
    · exact .inr (.inr ⟨.inr ⟨s, hs, ho, hb⟩, fun j => .inr ⟨s, hs, ho, hb⟩⟩)
  · have hmem := List.mem_of_getElem? hk
    rcases hex.at s hmem with e | ⟨ho, e⟩
    · exact absurd e hx
    · have hb : S s.i (ρ s.i).1 := by
        rw [e] at hs
        exact hs _ _ _ (E.inv _ _ (hI s hmem))
      show May _ (ρ (subσ ss k)).1
      rw [hσ k s hk]
      exact .inr ⟨.inr ⟨s, hmem, ho, hb⟩, fun j => .inr ⟨s, hmem, ho, hb⟩⟩
/-- A callee's contract, one outcome. -/
theorem call_res {g : FuncId} {fn : Func} {cd : Code} {h : List (Option Chunk)} {vs : List Value} {V : Value} {B : Type} (okB : B → Prop) (h1 : B → List (Option Chunk)) (ss : List Piece) (ns : List Fresh) (vs' : List Value)
    (hG : TysOK P G) (hm : P.follows .mixedOrders = true) (hf : P.funcs[g]? = some fn) (hb : fn.body = some cd) (hr : ∀ xs w, (callFunc g xs).run P w = .ok (.enter g xs) w)
    (hin : PartsIn h ss) (hre : PartsRe (partX ss 0) ss) (hap : Apart ss) (hex : PartsX ss) (hmi : MadeX h ns) (hvs : All2 (Re2 (partX ss 0)) vs vs') (hop : Opens ss okB h1)
    (hwp : ∀ β, okB β → initK vs' fn.ntmps fun t => wpC P G ss.length cd (bodyQ P G fn fun v st => N (EndN ss st.h v fun v' h' => N (Obl (Re (partX ss 0 ++ madeX ns) V v') (N (Obl (PostS (partX ss 0 ++ madeX ns) h' ss 0) (N (Obl (PostN (partX ss 0 ++ madeX ns) h' ss.length ns) (N (Obl (PostX h' ss 0 ∧ MadeP h' ns) (N True)))))))))) ⟨t, h1 β⟩) :
    CallOK P g vs h V (partM ss ++ madeM ns) (partR ss) := fun h₂ hrd hms X ρ w xs H hx => by
  have hI : ∀ s ∈ ss, h₂[s.i]? = some (some s.c) := fun s hs => by
    cases e : s.e.own with
    | true => exact (hms (s.i, s.d) (List.mem_append_left _ (partM_mem.2 ⟨s, hs, e, rfl⟩))).trans (hin.at s hs)
    | false => exact (hrd s.i (partR_mem ⟨s, hs, e, rfl⟩)).trans (hin.at s hs)
  have hNw : ∀ n ∈ ns, h₂[n.i]? = some none := fun n hn => (hms (n.i, n.d) (List.mem_append_right _ (madeM_mem.2 ⟨n, hn, rfl⟩))).trans (hmi.at n hn).1
  obtain ⟨S, E⟩ := H.ext
  have T := sub_tidy hI hex E
  obtain ⟨H0, hargs⟩ := sub_start ss vs' hI hre hap hex.at hvs H E hx
  obtain ⟨β, hβ, ρ', hag, hfil, H1⟩ := hop _ _ w T H0
  have hargs' : All2 (Den (Fil (h1 β)) ρ') vs' xs := all2_up hag hfil hargs
  refine .inr ⟨hr _ w, ?_⟩
  refine (calls_sx (X := ⟨w, subM ρ S ss, ss.length, fun k => ρ (subσ ss k)⟩) (args := ⟨xs⟩) hG hm hf hb H1 hargs' (hwp β hβ)).mono ?_
  rintro e w' ⟨ρ1, v, st, x, rfl, H2, hdx, hq⟩
  obtain ⟨v', h', ρ2, H3, hd3, hq⟩ := N.out hq _ _ _ _ T H2 hdx
  have q1 : Re (partX ss 0 ++ madeX ns) V v' ∧ N _ := N.out hq
  have q2 : PostS (partX ss 0 ++ madeX ns) h' ss 0 ∧ N _ := N.out q1.2
  have q3 : PostN (partX ss 0 ++ madeX ns) h' ss.length ns ∧ N _ := N.out q2.2
  have q4 : (PostX h' ss 0 ∧ MadeP h' ns) ∧ N True := N.out q3.2
  exact ⟨x, rfl, sub_glue ss ns hI hNw hre hap (fun n hn => (hmi.at n hn).2) (fun n hn m hm => hmi.ne n hn m hm) H E H3 hd3 q1.1 q2.1 q3.1 (fun l s hl _ => by have := q4.1.1.at l s hl; rwa [Nat.zero_add] at this) q4.1.2.at⟩
/-- A callee's contract, many outcomes. -/
theorem call_resall {α : Type} {g : FuncId} {fn : Func} {cd : Code} {h : List (Option Chunk)} {vs : List Value} {B : Type} (okB : B → Prop) (h1 : B → List (Option Chunk)) (ok : α → Prop) (V : α → Value) (ss : List Piece) (dd : α → List Chunk) (ns : α → List Fresh) (vs' : List Value)
    (hG : TysOK P G) (hm : P.follows .mixedOrders = true) (hf : P.funcs[g]? = some fn) (hb : fn.body = some cd) (hr : ∀ xs w, (callFunc g xs).run P w = .ok (.enter g xs) w)
    (hin : PartsIn h ss) (hre0 : PartsRe (partX ss 0) ss) (hre : ∀ κ, ok κ → PartsRe (partX ss 0) (setD ss (dd κ))) (hap : Apart ss) (hex : PartsX ss) (hmi : ∀ κ, ok κ → MadeX h (ns κ)) (hvs : All2 (Re2 (partX ss 0)) vs vs') (hop : Opens ss okB h1)
    (hwp : ∀ β, okB β → initK vs' fn.ntmps fun t => wpC P G ss.length cd (bodyQ P G fn fun v st => N (EndN ss st.h v fun v' h' => N (SomeN fun κ => ok κ ∧ N (Obl (Re (partX ss 0 ++ madeX (ns κ)) (V κ) v') (N (Obl (PostS (partX ss 0 ++ madeX (ns κ)) h' (setD ss (dd κ)) 0) (N (Obl (PostN (partX ss 0 ++ madeX (ns κ)) h' ss.length (ns κ)) (N (Obl (PostX h' (setD ss (dd κ)) 0 ∧ MadeP h' (ns κ)) (N True))))))))))) ⟨t, h1 β⟩) :
    CallAll P g vs h fun v ms => ∃ κ, ok κ ∧ v = V κ ∧ ms = partM (setD ss (dd κ)) ++ madeM (ns κ) := fun X ρ w xs H hx => by
  obtain ⟨S, E⟩ := H.ext
  have T := sub_tidy (fun s hs => hin.at s hs) hex E
  obtain ⟨H0, hargs⟩ := sub_start ss vs' (fun s hs => hin.at s hs) hre0 hap hex.at hvs H E hx
  obtain ⟨β, hβ, ρ', hag, hfil, H1⟩ := hop _ _ w T H0
  have hargs' : All2 (Den (Fil (h1 β)) ρ') vs' xs := all2_up hag hfil hargs
  refine .inr ⟨hr _ w, ?_⟩
  refine (calls_sx (X := ⟨w, subM ρ S ss, ss.length, fun k => ρ (subσ ss k)⟩) (args := ⟨xs⟩) hG hm hf hb H1 hargs' (hwp β hβ)).mono ?_
  rintro e w' ⟨ρ1, v, st, x, rfl, H2, hdx, hq⟩
  obtain ⟨v', h', ρ2, H3, hd3, hq⟩ := N.out hq _ _ _ _ T H2 hdx
  obtain ⟨κ, hok, hq⟩ := N.out hq
  have q1 : Re (partX ss 0 ++ madeX (ns κ)) (V κ) v' ∧ N _ := N.out hq
  have q2 : PostS (partX ss 0 ++ madeX (ns κ)) h' (setD ss (dd κ)) 0 ∧ N _ := N.out q1.2
  have q3 : PostN (partX ss 0 ++ madeX (ns κ)) h' ss.length (ns κ) ∧ N _ := N.out q2.2
  have q4 : (PostX h' (setD ss (dd κ)) 0 ∧ MadeP h' (ns κ)) ∧ N True := N.out q3.2
  obtain ⟨ρ', ha, hh, hd⟩ := sub_glue (h₂ := h) (hE := h') (V := V κ) (setD ss (dd κ)) (ns κ) (fun s hs => by
    obtain ⟨t, ht, e1, e2, _⟩ := setD_mem hs
    rw [← e1, ← e2]; exact hin.at t ht) (fun n hn => ((hmi κ hok).at n hn).1) (by rw [setD_X]; exact hre κ hok) (setD_apart hap) (fun n hn => ((hmi κ hok).at n hn).2) (fun n hn m hm => (hmi κ hok).ne n hn m hm) H E
    (by rw [setD_M, setD_σ, setD_len]; exact H3) hd3 (by rw [setD_X]; exact q1.1) (by rw [setD_X]; exact q2.1) (by rw [setD_X, setD_len]; exact q3.1) (fun l s hl _ => by have := q4.1.1.at l s hl; rwa [Nat.zero_add] at this) q4.1.2.at
  exact ⟨x, rfl, V κ, _, ρ', ⟨κ, hok, rfl, rfl⟩, ha, hh, hd⟩
end
end Go.Proofs.YtbepibdjlajppaaDoor.Sx
