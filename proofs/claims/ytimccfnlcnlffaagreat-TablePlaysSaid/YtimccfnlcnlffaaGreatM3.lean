import Derived.MapKept
import Derived.Shelf.SlIterI.Nil
import Derived.Shelf.SortM.Plain
import Derived.Shelf.SortM.SortNone
import Derived.Ground.GgzProg
import Derived.Ground.SlgmProg
import Derived.Test.YtimccfnlcnlffaaGreatProg
import Derived.WideShapes
import Derived.WalkKit
import Derived.WalkSpells
import Derived.WalkLawsBesides
import Derived.ProofKit
import Derived.OpenShut
import Derived.ChangeOld
import Derived.SizedLaws
import Derived.Lib.Hide
import Derived.Deep.Slices
import Derived.Test.YtimccfnlcnlffaaGreatM2
set_option linter.unusedVariables false
set_option linter.unusedSimpArgs false
set_option maxRecDepth 100000
set_option maxHeartbeats 20000000

namespace Go.Proofs.YtimccfnlcnlffaaGreat.Sx
open Go Go.RowKit
structure NewC (X : Ctx) (ρ' : Nat → Nat × Nat) (h' : List (Option Chunk)) (w : World) (F : Nat → Prop) (T : Nat → Nat → Prop) (k : Nat) (d : Chunk) : Prop where
  blk : F (ρ' k).1
  cell : ∀ j, j < d.n → ∃ x, w.cell? ⟨(ρ' k).1, (ρ' k).2 + j, none⟩ = some x ∧ Den1 (Fil h') ρ' (d.f j) x
  own : d.own = true → ∀ j, j < d.n → w.frozen? ⟨(ρ' k).1, (ρ' k).2 + j, none⟩ = false
  inv : d.x.inv (ρ' k) (T k) w
  foot : ∀ b, T k b → F b ∧ (d.n = 0 ∨ b ≠ (ρ' k).1)
theorem HOK.redo {X : Ctx} {ρ ρ' : Nat → Nat × Nat} {h h' : List (Option Chunk)} {w : World} {S T : Nat → Nat → Prop} (H : HOK X ρ h w) (E : ExtOK X ρ h w S) (J A F : Nat → Prop)
    (hF : ∀ b, F b → ∃ (j : Nat) (c : Chunk), J j ∧ h[j]? = some (some c) ∧ ((c.own = true ∧ b = (ρ j).1) ∨ S j b)) (hmay : ∀ b, F b → May X b)
    (hbase : ∀ i, i < X.n0 → Fil h' i ∧ ρ' i = ρ i)
    (hold : ∀ (k : Nat) (d : Chunk), h'[k]? = some (some d) → ¬ A k → ¬ J k ∧ ρ' k = ρ k ∧ h[k]? = some (some d) ∧ ∀ j, j < d.n → ∀ x, Den1 (Fil h) ρ (d.f j) x → Den1 (Fil h') ρ' (d.f j) x)
    (hnew : ∀ (k : Nat) (d : Chunk), h'[k]? = some (some d) → A k → NewC X ρ' h' w F T k d)
    (hsep : ∀ (k : Nat) (d : Chunk) (l : Nat) (e : Chunk), h'[k]? = some (some d) → A k → h'[l]? = some (some e) → A l → k ≠ l → (d.own = true → (ρ' k).1 ≠ (ρ' l).1) ∧ ∀ b, T k b → (ρ' l).1 ≠ b ∧ ¬ T l b) : HOK X ρ' h' w := by
  have outF : ∀ (k : Nat) (e : Chunk), h[k]? = some (some e) → ¬ J k → ¬ F (ρ k).1 := fun k e hk hJ hb => by
    obtain ⟨j, c, hj, hc, hb⟩ := hF _ hb
    have hne : j ≠ k := fun e => hJ (e ▸ hj)
    rcases hb with ⟨ho, hb⟩ | hb
    · exact H.sep _ _ _ _ hc ho hk hne hb.symm
    · exact (E.apart _ _ _ _ _ hc hb hk hne.symm).1 rfl
  have outS : ∀ (k : Nat) (e : Chunk) (b : Nat), h[k]? = some (some e) → ¬ J k → S k b → ¬ F b := fun k e b hk hJ hS hb => by
    obtain ⟨j, c, hj, hc, hb⟩ := hF _ hb
    have hne : j ≠ k := fun e => hJ (e ▸ hj)
    obtain ⟨a1, a2⟩ := E.apart _ _ b _ _ hk hS hc hne
    rcases hb with ⟨ho, hb⟩ | hb
    · exact a1 hb.symm
    · exact a2 hb
  have inF : ∀ b, F b → b < w.heap.size := fun b hb => by
    obtain ⟨j, c, hj, hc, hb⟩ := hF _ hb
    rcases hb with ⟨ho, rfl⟩ | hb
    · exact H.lt _ _ hc
    · exact (E.mine _ _ _ hc hb).2.1
  refine ⟨H.evo, fun i hi => ⟨(hbase i hi).1, (hbase i hi).2.trans (H.base i hi).2⟩, fun k d hk => ?_, fun k d hk j hj => ?_, fun k d hk ho j hj => ?_, fun k d l e hk ho hl hne => ?_, ?_⟩
  · by_cases hA : A k
    · exact inF _ (hnew k d hk hA).blk
    · obtain ⟨_, hρ, hk', _⟩ := hold k d hk hA
      rw [hρ]; exact H.lt _ _ hk'
  · by_cases hA : A k
    · exact (hnew k d hk hA).cell j hj
    · obtain ⟨_, hρ, hk', hd⟩ := hold k d hk hA
      rw [hρ]
      obtain ⟨x, hx, hx2⟩ := H.cell _ _ hk' j hj
      exact ⟨x, hx, hd j hj x hx2⟩
  · by_cases hA : A k
    · refine ⟨(hnew k d hk hA).own ho j hj, ?_⟩
      rcases hmay _ (hnew k d hk hA).blk with h1 | h1
      · exact .inl h1
      · exact .inr (h1.2 _)
    · obtain ⟨_, hρ, hk', _⟩ := hold k d hk hA
      rw [hρ]; exact H.own _ _ hk' ho j hj
  · by_cases hA : A k <;> by_cases hB : A l
    · exact (hsep k d l e hk hA hl hB hne).1 ho
    · obtain ⟨hJ, hρ, hl', _⟩ := hold l e hl hB
      rw [hρ]
      exact fun e' => outF l e hl' hJ (e' ▸ (hnew k d hk hA).blk)
    · obtain ⟨hJ, hρ, hk', _⟩ := hold k d hk hA
      rw [hρ]
      exact fun e' => outF k d hk' hJ (e' ▸ (hnew l e hl hB).blk)
    · obtain ⟨hJ, hρ, hk', _⟩ := hold k d hk hA
      obtain ⟨hJ2, hρ2, hl', _⟩ := hold l e hl hB
      rw [hρ, hρ2]
      exact H.sep _ _ _ _ hk' ho hl' hne
  · refine ⟨fun k b => (A k ∧ T k b) ∨ (¬ A k ∧ S k b), fun k d hk => ?_, fun k d b hk hS => ?_, fun k d b l e hk hS hl hne => ?_⟩
    · by_cases hA : A k
      · have : (fun b => (A k ∧ T k b) ∨ (¬ A k ∧ S k b)) = T k := by
          funext b; exact propext ⟨fun h => by rcases h with h | h; exact h.2; exact absurd hA h.1, fun h => .inl ⟨hA, h⟩⟩
        rw [this]; exact (hnew k d hk hA).inv
      · have : (fun b => (A k ∧ T k b) ∨ (¬ A k ∧ S k b)) = S k := by
          funext b; exact propext ⟨fun h => by rcases h with h | h; exact absurd h.1 hA; exact h.2, fun h => .inr ⟨hA, h⟩⟩
        rw [this]
        obtain ⟨_, hρ, hk', _⟩ := hold k d hk hA
        rw [hρ]; exact E.inv k d hk'
    · rcases hS with ⟨hA, hT⟩ | ⟨hA, hS⟩
      · obtain ⟨h1, h2⟩ := (hnew k d hk hA).foot b hT
        exact ⟨h2, inF b h1, hmay b h1⟩
      · obtain ⟨_, hρ, hk', _⟩ := hold k d hk hA
        rw [hρ]; exact E.mine k d b hk' hS
    · rcases hS with ⟨hA, hT⟩ | ⟨hA, hS⟩
      · by_cases hB : A l
        · obtain ⟨a1, a2⟩ := (hsep k d l e hk hA hl hB (Ne.symm hne)).2 b hT
          exact ⟨a1, fun h => by rcases h with h | h; exact a2 h.2; exact h.1 hB⟩
        · obtain ⟨hJ, hρ, hl', _⟩ := hold l e hl hB
          have hFb := ((hnew k d hk hA).foot b hT).1
          refine ⟨by rw [hρ]; exact fun e' => outF l e hl' hJ (e' ▸ hFb), fun h => ?_⟩
          rcases h with h | h
          · exact hB h.1
          · exact outS l e b hl' hJ h.2 hFb
      · obtain ⟨hJ, hρ, hk', _⟩ := hold k d hk hA
        by_cases hB : A l
        · refine ⟨fun e' => outS k d b hk' hJ hS (e' ▸ (hnew l e hl hB).blk), fun h => ?_⟩
          rcases h with h | h
          · exact outS k d b hk' hJ hS ((hnew l e hl hB).foot b h.2).1
          · exact h.1 hB
        · obtain ⟨_, hρ2, hl', _⟩ := hold l e hl hB
          obtain ⟨a1, a2⟩ := E.apart k d b l e hk' hS hl' hne
          refine ⟨by rw [hρ2]; exact a1, fun h => ?_⟩
          rcases h with h | h
          · exact hB h.1
          · exact a2 h.2
structure Tidy (X : Ctx) (ss : List Piece) : Prop where
  n0 : X.n0 = ss.length
  m : ∀ b j, X.M ⟨b, j, none⟩ → (∃ k, k < X.n0 ∧ b = (X.ρ0 k).1) ∨ May X b
  x : ∀ (k : Nat) (s : Piece), ss[k]? = some s → s.e.x ≠ Ext.none → Selfish s.e.x → May X (X.ρ0 k).1
theorem Tidy.may {X : Ctx} {ss : List Piece} {ρ : Nat → Nat × Nat} {h : List (Option Chunk)} {w : World} (T : Tidy X ss) (H : HOK X ρ h w) {j : Nat} {c : Chunk} (hj : h[j]? = some (some c)) (ho : c.own = true) (hn : 0 < c.n) (hl : ss.length ≤ j) : May X (ρ j).1 := by
  rcases (H.own j c hj ho 0 hn).2 with h1 | h1
  · exact .inl h1
  · rcases T.m _ _ h1 with ⟨k, hk, hb⟩ | h2
    · obtain ⟨⟨d, hd⟩, hρ⟩ := H.base k hk
      have := H.sep j c k d hj ho hd (by have := T.n0; omega)
      rw [hρ] at this
      exact absurd hb this
    · exact h2
theorem Tidy.mayX {X : Ctx} {ss : List Piece} {ρ : Nat → Nat × Nat} {h : List (Option Chunk)} {w : World} (T : Tidy X ss) (H : HOK X ρ h w) {k : Nat} {s : Piece} (hk : ss[k]? = some s) (hx : s.e.x ≠ Ext.none) (hs : Selfish s.e.x) : May X (ρ k).1 := by
  have hl := (List.getElem?_eq_some_iff.1 hk).1
  rw [(H.base k (by rw [T.n0]; exact hl)).2]
  exact T.x k s hk hx hs
def EndN (ss : List Piece) (h : List (Option Chunk)) (v : Value) (K : Value → List (Option Chunk) → Prop) : Prop :=
  ∀ X ρ w x, Tidy X ss → HOK X ρ h w → Den (Fil h) ρ v x → ∃ v' h' ρ', HOK X ρ' h' w ∧ Den (Fil h') ρ' v' x ∧ K v' h'
theorem N.endSame {ss : List Piece} {h : List (Option Chunk)} {v : Value} {K : Value → List (Option Chunk) → Prop} (k : K v h) : N (EndN ss h v K) := N.mk fun X ρ w x _ H hd => ⟨v, h, ρ, H, hd, k⟩
def Opens (ss : List Piece) {B : Type} (okB : B → Prop) (h1 : B → List (Option Chunk)) : Prop :=
  ∀ X ρ w, Tidy X ss → HOK X ρ (partH ss) w → ∃ β, okB β ∧ ∃ ρ', AgreeOn (Fil (partH ss)) ρ ρ' ∧ (∀ i, Fil (partH ss) i → Fil (h1 β) i) ∧ HOK X ρ' (h1 β) w
theorem Opens.same {ss : List Piece} : Opens ss (fun _ : Unit => True) (fun _ => partH ss) := fun X ρ w _ H => ⟨(), trivial, ρ, AgreeOn.refl _ _, fun _ h => h, H⟩
def PartsX : List Piece → Prop
  | [] => True
  | s :: r => (s.e.x = Ext.none ∨ (s.e.own = true ∧ s.e.x = s.c.x)) ∧ PartsX r
theorem PartsX.at : ∀ {ss : List Piece}, PartsX ss → ∀ s ∈ ss, PieceX s
  | t :: r, hp, s, hs => by
    rcases List.mem_cons.1 hs with rfl | hs
    · exact hp.1
    · exact PartsX.at hp.2 s hs
def PostX (h : List (Option Chunk)) : List Piece → Nat → Prop
  | [], _ => True
  | s :: r, k => (s.d.x = Ext.none ∨ ∃ c, h[k]? = some (some c) ∧ s.d.x = c.x) ∧ PostX h r (k + 1)
theorem PostX.at {h : List (Option Chunk)} : ∀ {ss : List Piece} {k0 : Nat}, PostX h ss k0 → ∀ (l : Nat) (s : Piece), ss[l]? = some s → s.d.x = Ext.none ∨ ∃ c, h[k0 + l]? = some (some c) ∧ s.d.x = c.x
  | a :: r, k0, hp, 0, s, hl => by simp at hl; subst hl; exact hp.1
  | a :: r, k0, hp, l + 1, s, hl => by
    rw [show k0 + (l + 1) = k0 + 1 + l from by omega]
    exact PostX.at hp.2 l s (by simpa using hl)
def MadeX (h : List (Option Chunk)) : List Fresh → Prop
  | [] => True
  | n :: r => (h[n.i]? = some none ∧ n.d.own = true ∧ (0 < n.d.n ∨ Selfish n.d.x) ∧ ∀ m ∈ r, n.i ≠ m.i ∧ n.k ≠ m.k) ∧ MadeX h r
theorem MadeX.at {h : List (Option Chunk)} : ∀ {ns : List Fresh}, MadeX h ns → ∀ n ∈ ns, h[n.i]? = some none ∧ n.d.own = true ∧ (0 < n.d.n ∨ Selfish n.d.x)
  | t :: r, hp, s, hs => by
    rcases List.mem_cons.1 hs with rfl | hs
    · exact ⟨hp.1.1, hp.1.2.1, hp.1.2.2.1⟩
    · exact MadeX.at hp.2 s hs
theorem MadeX.ne {h : List (Option Chunk)} : ∀ {ns : List Fresh}, MadeX h ns → ∀ n ∈ ns, ∀ m ∈ ns, (n.i = m.i ∨ n.k = m.k) → n = m
  | t :: r, hp, n, hn, m, hm, he => by
    rcases List.mem_cons.1 hn with h1 | h1 <;> rcases List.mem_cons.1 hm with h2 | h2
    · rw [h1, h2]
    · have := hp.1.2.2.2 m h2; rw [h1] at he; omega
    · have := hp.1.2.2.2 n h1; rw [h2] at he; omega
    · exact MadeX.ne hp.2 n h1 m h2 he
def MadeP (h : List (Option Chunk)) : List Fresh → Prop
  | [] => True
  | n :: r => (n.d.x = Ext.none ∨ ∃ c, h[n.k]? = some (some c) ∧ n.d.x = c.x) ∧ MadeP h r
theorem MadeP.at {h : List (Option Chunk)} : ∀ {ns : List Fresh}, MadeP h ns → ∀ n ∈ ns, n.d.x = Ext.none ∨ ∃ c, h[n.k]? = some (some c) ∧ n.d.x = c.x
  | t :: r, hp, s, hs => by
    rcases List.mem_cons.1 hs with rfl | hs
    · exact hp.1
    · exact MadeP.at hp.2 s hs
theorem all2_up {F F' : Nat → Prop} {ρ ρ' : Nat → Nat × Nat} (ha : AgreeOn F ρ ρ') (hF : ∀ i, F i → F' i) : ∀ {vs xs : List Value}, All2 (Den F ρ) vs xs → All2 (Den F' ρ') vs xs
  | [], [], _ => trivial
  | [], _ :: _, h => h.elim
  | _ :: _, [], h => h.elim
  | _ :: _, _ :: _, h => ⟨h.1.more ha hF, all2_up ha hF h.2⟩
section
variable {P : Program} {G : Tys}
theorem sub_tidy {ss : List Piece} {ρ : Nat → Nat × Nat} {w : World} {S : Nat → Nat → Prop} {h : List (Option Chunk)} {X : Ctx} (hI : ∀ s ∈ ss, h[s.i]? = some (some s.c)) (hex : PartsX ss) (E : ExtOK X ρ h w S) : Tidy ⟨w, subM ρ S ss, ss.length, fun k => ρ (subσ ss k)⟩ ss := by
  have hσ : ∀ k s, ss[k]? = some s → subσ ss k = s.i := fun k s hk => by show (match ss[k]? with | some s => s.i | none => 0) = s.i; rw [hk]
  refine ⟨rfl, fun b j hm => ?_, fun k s hk hx hs => ?_⟩
  · rcases hm with ⟨_, s, hs, _, hb, _⟩ | ⟨s, hs, ho, hb⟩
    · obtain ⟨l, hl, hlt⟩ := List.getElem_of_mem hs
      have hl' : ss[l]? = some s := by rw [List.getElem?_eq_getElem hl, hlt]
      exact .inl ⟨l, hl, by show b = (ρ (subσ ss l)).1; rw [hσ l s hl']; exact hb⟩
    · exact .inr (.inr ⟨.inr ⟨s, hs, ho, hb⟩, fun j => .inr ⟨s, hs, ho, hb⟩⟩)
  · have hmem := List.mem_of_getElem? hk
    rcases hex.at s hmem with e | ⟨ho, e⟩
    · exact absurd e hx
    · have hb : S s.i (ρ s.i).1 := by
        rw [e] at hs
        exact hs _ _ _ (E.inv _ _ (hI s hmem))
      show May _ (ρ (subσ ss k)).1
      rw [hσ k s hk]
      exact .inr ⟨.inr ⟨s, hmem, ho, hb⟩, fun j => .inr ⟨s, hmem, ho, hb⟩⟩
theorem call_res {g : FuncId} {fn : Func} {cd : Code} {h : List (Option Chunk)} {vs : List Value} {V : Value} {B : Type} (okB : B → Prop) (h1 : B → List (Option Chunk)) (ss : List Piece) (ns : List Fresh) (vs' : List Value)
    (hG : TysOK P G) (hm : P.follows .mixedOrders = true) (hf : P.funcs[g]? = some fn) (hb : fn.body = some cd) (hr : ∀ xs w, (callFunc g xs).run P w = .ok (.enter g xs) w)
    (hin : PartsIn h ss) (hre : PartsRe (partX ss 0) ss) (hap : Apart ss) (hex : PartsX ss) (hmi : MadeX h ns) (hvs : All2 (Re2 (partX ss 0)) vs vs') (hop : Opens ss okB h1)
    (hwp : ∀ β, okB β → initK vs' fn.ntmps fun t => wpC P G ss.length cd (bodyQ P G fn fun v st => N (EndN ss st.h v fun v' h' => N (Obl (Re (partX ss 0 ++ madeX ns) V v') (N (Obl (PostS (partX ss 0 ++ madeX ns) h' ss 0) (N (Obl (PostN (partX ss 0 ++ madeX ns) h' ss.length ns) (N (Obl (PostX h' ss 0 ∧ MadeP h' ns) (N True)))))))))) ⟨t, h1 β⟩) :
    CallOK P g vs h V (partM ss ++ madeM ns) (partR ss) := fun h₂ hrd hms X ρ w xs H hx => by
  have hI : ∀ s ∈ ss, h₂[s.i]? = some (some s.c) := fun s hs => by
    cases e : s.e.own with
    | true => exact (hms (s.i, s.d) (List.mem_append_left _ (partM_mem.2 ⟨s, hs, e, rfl⟩))).trans (hin.at s hs)
    | false => exact (hrd s.i (partR_mem ⟨s, hs, e, rfl⟩)).trans (hin.at s hs)
  have hNw : ∀ n ∈ ns, h₂[n.i]? = some none := fun n hn => (hms (n.i, n.d) (List.mem_append_right _ (madeM_mem.2 ⟨n, hn, rfl⟩))).trans (hmi.at n hn).1
  obtain ⟨S, E⟩ := H.ext
  have T := sub_tidy hI hex E
  obtain ⟨H0, hargs⟩ := sub_start ss vs' hI hre hap hex.at hvs H E hx
  obtain ⟨β, hβ, ρ', hag, hfil, H1⟩ := hop _ _ w T H0
  have hargs' : All2 (Den (Fil (h1 β)) ρ') vs' xs := all2_up hag hfil hargs
  refine .inr ⟨hr _ w, ?_⟩
  refine (calls_sx (X := ⟨w, subM ρ S ss, ss.length, fun k => ρ (subσ ss k)⟩) (args := ⟨xs⟩) hG hm hf hb H1 hargs' (hwp β hβ)).mono ?_
  rintro e w' ⟨ρ1, v, st, x, rfl, H2, hdx, hq⟩
  obtain ⟨v', h', ρ2, H3, hd3, hq⟩ := N.out hq _ _ _ _ T H2 hdx
  have q1 : Re (partX ss 0 ++ madeX ns) V v' ∧ N _ := N.out hq
  have q2 : PostS (partX ss 0 ++ madeX ns) h' ss 0 ∧ N _ := N.out q1.2
  have q3 : PostN (partX ss 0 ++ madeX ns) h' ss.length ns ∧ N _ := N.out q2.2
  have q4 : (PostX h' ss 0 ∧ MadeP h' ns) ∧ N True := N.out q3.2
  exact ⟨x, rfl, sub_glue ss ns hI hNw hre hap (fun n hn => (hmi.at n hn).2) (fun n hn m hm => hmi.ne n hn m hm) H E H3 hd3 q1.1 q2.1 q3.1 (fun l s hl _ => by have := q4.1.1.at l s hl; rwa [Nat.zero_add] at this) q4.1.2.at⟩
theorem call_resall {α : Type} {g : FuncId} {fn : Func} {cd : Code} {h : List (Option Chunk)} {vs : List Value} {B : Type} (okB : B → Prop) (h1 : B → List (Option Chunk)) (ok : α → Prop) (V : α → Value) (ss : List Piece) (dd : α → List Chunk) (ns : α → List Fresh) (vs' : List Value)
    (hG : TysOK P G) (hm : P.follows .mixedOrders = true) (hf : P.funcs[g]? = some fn) (hb : fn.body = some cd) (hr : ∀ xs w, (callFunc g xs).run P w = .ok (.enter g xs) w)
    (hin : PartsIn h ss) (hre0 : PartsRe (partX ss 0) ss) (hre : ∀ κ, ok κ → PartsRe (partX ss 0) (setD ss (dd κ))) (hap : Apart ss) (hex : PartsX ss) (hmi : ∀ κ, ok κ → MadeX h (ns κ)) (hvs : All2 (Re2 (partX ss 0)) vs vs') (hop : Opens ss okB h1)
    (hwp : ∀ β, okB β → initK vs' fn.ntmps fun t => wpC P G ss.length cd (bodyQ P G fn fun v st => N (EndN ss st.h v fun v' h' => N (SomeN fun κ => ok κ ∧ N (Obl (Re (partX ss 0 ++ madeX (ns κ)) (V κ) v') (N (Obl (PostS (partX ss 0 ++ madeX (ns κ)) h' (setD ss (dd κ)) 0) (N (Obl (PostN (partX ss 0 ++ madeX (ns κ)) h' ss.length (ns κ)) (N (Obl (PostX h' (setD ss (dd κ)) 0 ∧ MadeP h' (ns κ)) (N True))))))))))) ⟨t, h1 β⟩) :
    CallAll P g vs h fun v ms => ∃ κ, ok κ ∧ v = V κ ∧ ms = partM (setD ss (dd κ)) ++ madeM (ns κ) := fun X ρ w xs H hx => by
  obtain ⟨S, E⟩ := H.ext
  have T := sub_tidy (fun s hs => hin.at s hs) hex E
  obtain ⟨H0, hargs⟩ := sub_start ss vs' (fun s hs => hin.at s hs) hre0 hap hex.at hvs H E hx
  obtain ⟨β, hβ, ρ', hag, hfil, H1⟩ := hop _ _ w T H0
  have hargs' : All2 (Den (Fil (h1 β)) ρ') vs' xs := all2_up hag hfil hargs
  refine .inr ⟨hr _ w, ?_⟩
  refine (calls_sx (X := ⟨w, subM ρ S ss, ss.length, fun k => ρ (subσ ss k)⟩) (args := ⟨xs⟩) hG hm hf hb H1 hargs' (hwp β hβ)).mono ?_
  rintro e w' ⟨ρ1, v, st, x, rfl, H2, hdx, hq⟩
  obtain ⟨v', h', ρ2, H3, hd3, hq⟩ := N.out hq _ _ _ _ T H2 hdx
  obtain ⟨κ, hok, hq⟩ := N.out hq
  have q1 : Re (partX ss 0 ++ madeX (ns κ)) (V κ) v' ∧ N _ := N.out hq
  have q2 : PostS (partX ss 0 ++ madeX (ns κ)) h' (setD ss (dd κ)) 0 ∧ N _ := N.out q1.2
  have q3 : PostN (partX ss 0 ++ madeX (ns κ)) h' ss.length (ns κ) ∧ N _ := N.out q2.2
  have q4 : (PostX h' (setD ss (dd κ)) 0 ∧ MadeP h' (ns κ)) ∧ N True := N.out q3.2
  obtain ⟨ρ', ha, hh, hd⟩ := sub_glue (h₂ := h) (hE := h') (V := V κ) (setD ss (dd κ)) (ns κ) (fun s hs => by
    obtain ⟨t, ht, e1, e2, _⟩ := setD_mem hs
    rw [← e1, ← e2]; exact hin.at t ht) (fun n hn => ((hmi κ hok).at n hn).1) (by rw [setD_X]; exact hre κ hok) (setD_apart hap) (fun n hn => ((hmi κ hok).at n hn).2) (fun n hn m hm => (hmi κ hok).ne n hn m hm) H E
    (by rw [setD_M, setD_σ, setD_len]; exact H3) hd3 (by rw [setD_X]; exact q1.1) (by rw [setD_X]; exact q2.1) (by rw [setD_X, setD_len]; exact q3.1) (fun l s hl _ => by have := q4.1.1.at l s hl; rwa [Nat.zero_add] at this) q4.1.2.at
  exact ⟨x, rfl, V κ, _, ρ', ⟨κ, hok, rfl, rfl⟩, ha, hh, hd⟩
end
end Go.Proofs.YtimccfnlcnlffaaGreat.Sx


namespace Go.Proofs.YtimccfnlcnlffaaGreat.Sx
open Go Go.RowKit Go.MapKept
section
variable {α : Type}
def dGet (D : List (Int × α)) (k : Int) : Option α := (D.find? fun q => decide (q.1 = k)).map (·.2)
def dPut (D : List (Int × α)) (k : Int) (a : α) : List (Int × α) := match dGet D k with
  | some _ => D.map fun q => if q.1 = k then (k, a) else q
  | none => D ++ [(k, a)]
def dDel (D : List (Int × α)) (k : Int) : List (Int × α) := D.filter fun q => !decide (q.1 = k)
theorem dGet_none {D : List (Int × α)} {k : Int} : dGet D k = none ↔ ∀ q ∈ D, q.1 ≠ k := by
  simp [dGet, List.find?_eq_none]
theorem dGet_some {D : List (Int × α)} {k : Int} {a : α} (h : dGet D k = some a) : (k, a) ∈ D := by
  simp only [dGet, Option.map_eq_some_iff] at h
  obtain ⟨q, hq, rfl⟩ := h
  have h1 := List.find?_some hq
  have h2 := List.mem_of_find?_eq_some hq
  simp only [decide_eq_true_eq] at h1
  rw [← h1]; exact h2
theorem dGet_mem {D : List (Int × α)} {k : Int} {a : α} (hd : (D.map (·.1)).Nodup) (h : (k, a) ∈ D) : dGet D k = some a := by
  induction D with
  | nil => cases h
  | cons q D ih =>
    simp only [List.map_cons, List.nodup_cons] at hd
    unfold dGet
    rw [List.find?_cons]
    by_cases e : q.1 = k
    · have : decide (q.1 = k) = true := by simp [e]
      rw [this]
      rcases List.mem_cons.1 h with rfl | h
      · rfl
      · exact absurd (List.mem_map.2 ⟨(k, a), h, rfl⟩) (e ▸ hd.1)
    · have : decide (q.1 = k) = false := by simp [e]
      rw [this]
      rcases List.mem_cons.1 h with rfl | h
      · exact absurd rfl e
      · exact ih hd.2 h
end
structure MapIs {α : Type} (enc : α → Value) (D : List (Int × α)) (es : Array MapEntry) (clock : Nat) : Prop where
  ents : es.toList.map (fun e => (e.key, e.val)) = D.map fun q => (.int .i64 q.1, enc q.2)
  stamped : Stamped es clock
  wf : ∀ q ∈ D, -9223372036854775808 ≤ q.1 ∧ q.1 ≤ 9223372036854775807
section
variable {α : Type} {enc : α → Value} {D : List (Int × α)} {es : Array MapEntry} {clock : Nat}
theorem MapIs.at (M : MapIs enc D es clock) (j : Nat) : (es.toList[j]?).map (fun e => (e.key, e.val)) = (D[j]?).map fun q => ((.int .i64 q.1, enc q.2) : Value × Value) := by
  have := congrArg (fun l => l[j]?) M.ents
  simpa using this
theorem MapIs.keys (M : MapIs enc D es clock) : ∀ x ∈ es.toList, ∃ k, x.key = .int .i64 k := fun x hx => by
  have : (x.key, x.val) ∈ es.toList.map (fun e => (e.key, e.val)) := List.mem_map.2 ⟨x, hx, rfl⟩
  rw [M.ents] at this
  obtain ⟨q, _, e⟩ := List.mem_map.1 this
  exact ⟨q.1, (Prod.mk.inj e).1.symm⟩
theorem MapIs.isKey (M : MapIs enc D es clock) : ∀ x ∈ es.toList, IsKey (.int .i64) x.key := fun x hx => by
  obtain ⟨k, e⟩ := M.keys x hx
  rw [e]; exact rfl
theorem MapIs.nodup (M : MapIs enc D es clock) : (D.map (·.1)).Nodup := by
  have h := M.stamped.2.2
  have e : es.toList.map (·.key) = (D.map (·.1)).map (Value.int .i64) := by
    have := congrArg (fun l => l.map Prod.fst) M.ents
    simpa [List.map_map, Function.comp_def] using this
  rw [e] at h
  exact List.Pairwise.of_map (Value.int .i64) (fun a b hab e => hab (by rw [e])) h
theorem MapIs.find (M : MapIs enc D es clock) (k : Int) : (dGet D k = none ∧ Instr.findNow (.int .i64) (.int .i64 k) es.toList 0 = some none ∧ ∀ x ∈ es.toList, x.key ≠ .int .i64 k) ∨
    ∃ j a, dGet D k = some a ∧ D[j]? = some (k, a) ∧ (∃ e, es.toList[j]? = some e ∧ e.key = .int .i64 k) ∧ Instr.findNow (.int .i64) (.int .i64 k) es.toList 0 = some (some (j, enc a)) := by
  rcases findNow_spec (d := .int .i64) (k := .int .i64 k) rfl es.toList 0 M.isKey with ⟨h1, h2⟩ | ⟨j, e, h1, h2, h3⟩
  · refine .inl ⟨dGet_none.2 fun q hq e => ?_, h1, h2⟩
    have : ((.int .i64 q.1, enc q.2) : Value × Value) ∈ es.toList.map (fun e => (e.key, e.val)) := by rw [M.ents]; exact List.mem_map.2 ⟨q, hq, rfl⟩
    obtain ⟨x, hx, ex⟩ := List.mem_map.1 this
    exact h2 x hx (by rw [(Prod.mk.inj ex).1, e])
  · have hj := M.at j
    rw [h2] at hj
    simp only [Option.map_some] at hj
    cases hq : D[j]? with
    | none => rw [hq] at hj; cases hj
    | some q =>
      rw [hq] at hj
      simp only [Option.map_some, Option.some.injEq, Prod.mk.injEq] at hj
      have hk : q.1 = k := by
        have := hj.1
        rw [h3] at this
        simpa using this.symm
      obtain ⟨q1, a⟩ := q
      subst hk
      refine .inr ⟨j, a, dGet_mem M.nodup (List.mem_of_getElem? hq), hq, ⟨e, h2, h3⟩, ?_⟩
      rw [h1, Nat.zero_add, hj.2]
theorem MapIs.put (M : MapIs enc D es clock) {k : Int} (hk : -9223372036854775808 ≤ k ∧ k ≤ 9223372036854775807) (a : α) {j : Nat} {b : α} (hg : dGet D k = some b) (hj : D[j]? = some (k, b)) (hv : Value) (hve : hv = enc a) : MapIs enc (dPut D k a) (es.modify j fun e => { e with key := .int .i64 k, val := hv }) clock := by
  subst hve
  have hnd := M.nodup
  have hjl := (List.getElem?_eq_some_iff.1 hj).1
  refine ⟨?_, stamped_modify M.stamped j _ (fun _ _ => rfl) (fun e _ he => ?_), fun q hq => ?_⟩
  · unfold dPut
    rw [hg]
    apply List.ext_getElem?
    intro i
    simp only [List.getElem?_map, Array.getElem?_toList, Array.getElem?_modify]
    have hi := M.at i
    rw [Array.getElem?_toList] at hi
    by_cases e : j = i
    · subst e
      rw [hj] at hi ⊢
      cases he : es[j]? with
      | none => rw [he] at hi; cases hi
      | some x => simp
    · rw [if_neg e, hi]
      cases hq : D[i]? with
      | none => simp
      | some q =>
        have hne : q.1 ≠ k := fun h => by
          refine e ((List.getElem?_inj (l := D.map (·.1)) (by simpa using hjl) hnd).1 ?_)
          rw [List.getElem?_map, List.getElem?_map, hj, hq]; simp [h]
        simp [hne]
  · have hi := M.at j
    rw [Array.getElem?_toList, he, hj] at hi
    simp only [Option.map_some, Option.some.injEq, Prod.mk.injEq] at hi
    exact hi.1.symm
  · unfold dPut at hq
    rw [hg] at hq
    obtain ⟨q', hq', rfl⟩ := List.mem_map.1 hq
    split
    · exact hk
    · exact M.wf q' hq'
theorem MapIs.push (M : MapIs enc D es clock) {k : Int} (hk : -9223372036854775808 ≤ k ∧ k ≤ 9223372036854775807) (a : α) (hg : dGet D k = none) (hn : ∀ x ∈ es.toList, x.key ≠ .int .i64 k) : MapIs enc (dPut D k a) (es.push { key := .int .i64 k, val := enc a, born := clock }) (clock + 1) := by
  refine ⟨?_, stamped_push M.stamped hn, fun q hq => ?_⟩
  · unfold dPut
    rw [hg]
    simp only [Array.toList_push, List.map_append, M.ents, List.map_cons, List.map_nil]
  · unfold dPut at hq
    rw [hg] at hq
    rcases List.mem_append.1 hq with hq | hq
    · exact M.wf q hq
    · simp only [List.mem_singleton] at hq; subst hq; exact hk
theorem map_erase {β γ : Type} (f : β → γ) : ∀ (l : List β) (j : Nat), (l.eraseIdx j).map f = (l.map f).eraseIdx j
  | [], _ => by simp
  | x :: l, 0 => by simp
  | x :: l, j + 1 => by simp [map_erase f l j]
theorem filter_erase {D : List (Int × α)} {k : Int} {a : α} (hnd : (D.map (·.1)).Nodup) {j : Nat} (hj : D[j]? = some (k, a)) : D.eraseIdx j = dDel D k := by
  induction D generalizing j with
  | nil => simp at hj
  | cons q D ih =>
    simp only [List.map_cons, List.nodup_cons] at hnd
    cases j with
    | zero =>
      simp at hj
      subst hj
      have : D.filter (fun q => !decide (q.1 = k)) = D := List.filter_eq_self.2 fun q hq => by
        have : q.1 ≠ k := fun e => hnd.1 (e ▸ List.mem_map.2 ⟨q, hq, rfl⟩)
        simp [this]
      simp [dDel, this]
    | succ j =>
      have hj' : D[j]? = some (k, a) := by simpa using hj
      have hne : q.1 ≠ k := fun e => hnd.1 (e ▸ List.mem_map.2 ⟨(k, a), List.mem_of_getElem? hj', rfl⟩)
      simp only [List.eraseIdx_cons_succ, ih hnd.2 hj']
      simp [dDel, hne]
theorem MapIs.erase (M : MapIs enc D es clock) {k : Int} {a : α} {j : Nat} (hj : D[j]? = some (k, a)) : MapIs enc (dDel D k) (es.eraseIdxIfInBounds j) clock := by
  refine ⟨?_, stamped_erase M.stamped j, fun q hq => M.wf q (List.mem_filter.1 hq).1⟩
  have hl := (List.getElem?_eq_some_iff.1 hj).1
  have hsz : es.size = D.length := by have := congrArg List.length M.ents; simpa using this
  unfold Array.eraseIdxIfInBounds
  rw [dif_pos (by omega)]
  rw [Array.toList_eraseIdx, ← filter_erase M.nodup hj, map_erase, map_erase, M.ents]
theorem MapIs.size (M : MapIs enc D es clock) : es.size = D.length := by have := congrArg List.length M.ents; simpa using this
theorem MapIs.nil : MapIs enc ([] : List (Int × α)) #[] 0 := ⟨rfl, stamped_empty 0, fun q hq => by cases hq⟩
end
abbrev mapX {α : Type} (enc : α → Value) (D : List (Int × α)) : Ext where
  inv := fun p S w => (∀ b, S b ↔ b = p.1) ∧ ∃ es clock, w.heap[p.1]? = some (.map es clock) ∧ MapIs enc D es clock
  keep := fun h hb => ⟨h.1, by obtain ⟨es, clock, h1, h2⟩ := h.2; exact ⟨es, clock, (hb _ ((h.1 _).2 rfl)).trans h1, h2⟩⟩
theorem mapX_selfish {α : Type} {enc : α → Value} {D : List (Int × α)} : Selfish (mapX enc D) := fun p S w h => (h.1 _).2 rfl
abbrev mapC {α : Type} (enc : α → Value) (D : List (Int × α)) : Chunk := @Chunk.mk (mapX enc D) true 0 []
section
variable {P : Program} {G : Tys} {α : Type} {enc : α → Value} {D : List (Int × α)}
theorem run_zero {et : TypeId} {ei : TypeInfo} {z : Value} (he : P.info? et = some ei) (hz : ei.zero = some z) (w : World) : (zeroValue et).run P w = .ok z w := by
  simp [zeroValue, typeInfo, Sem.run_bind, run_program, Result.andThen_ok, he, hz]
theorem run_look {t kt et : TypeId} {ei : TypeInfo} {z : Value} {es : Array MapEntry} {clock : Nat} {w : World} {b : Nat} (ht : P.underlying t = some (.map kt et)) (hk : P.underlying kt = some (.int .i64)) (he : P.info? et = some ei) (hz : ei.zero = some z)
    (hb : w.heap[b]? = some (.map es clock)) (M : MapIs enc D es clock) (k : Int) (c : Bool) :
    (Instr.lookup t (.map (some b)) (.int .i64 k) c).run P w = .ok (if c then .tuple #[((dGet D k).map enc).getD z, .bool (dGet D k).isSome] else ((dGet D k).map enc).getD z) w := by
  rcases M.find k with ⟨h1, h2, _⟩ | ⟨j, a, h1, _, _, h2⟩
  · simp [Instr.lookup, run_underlying ht, MapKept.run_getObj_map hb, run_checkKey hk (k := .int .i64 k) rfl, run_findKey hk h2, run_zero he hz, h1, Result.andThen]
  · simp [Instr.lookup, run_underlying ht, MapKept.run_getObj_map hb, run_checkKey hk (k := .int .i64 k) rfl, run_findKey hk h2, h1, Result.andThen]
theorem N_look {t kt et : TypeId} {ei : TypeInfo} {z : Value} {c : Chunk} {k : Int} {b : Bool} {K : Value → Prop} (enc : α → Value) (D : List (Int × α)) (hc : c.x = mapX enc D) (ht : P.underlying t = some (.map kt et)) (hk : P.underlying kt = some (.int .i64)) (he : P.info? et = some ei) (hz : ei.zero = some z)
    (v : Value) (hv : v = (if b then .tuple #[((dGet D k).map enc).getD z, .bool (dGet D k).isSome] else ((dGet D k).map enc).getD z)) (hp : plain3 v = true) (h : K v) : N (LookN P t c (.int .i64 k) b K) :=
  N.mk ⟨v, den_plain3 hp, fun p S w hi => by
    rw [hc] at hi
    obtain ⟨_, es, clock, hb, M⟩ := hi
    rw [run_look ht hk he hz hb M k b, hv], h⟩
theorem turns_put {t kt et : TypeId} {c : Chunk} {k : Int} {a : α} {v : Value} (hc : c.x = mapX enc D) (ho : c.own = true) (hkk : -9223372036854775808 ≤ k ∧ k ≤ 9223372036854775807) (hv : v = enc a) (ht : P.underlying t = some (.map kt et)) (hk : P.underlying kt = some (.int .i64)) :
    Turns P c (mapC enc (dPut D k a)) (fun b => Instr.mapUpdate t (.map (some b)) (.int .i64 k) v) () := by
  refine ⟨fun _ => ho, rfl, fun p S w hi => ?_⟩
  rw [hc] at hi
  obtain ⟨hS, es, clock, hb, M⟩ := hi
  refine ⟨(hS _).2 rfl, ?_⟩
  have hlt : p.1 < w.heap.size := (Array.getElem?_eq_some_iff.1 hb).1
  rcases M.find k with ⟨h1, h2, h3⟩ | ⟨j, a', h1, hj, ⟨e, he1, he2⟩, h2⟩
  · refine ⟨{ w with heap := w.heap.setIfInBounds p.1 (.map (es.push { key := .int .i64 k, val := v, born := clock }) (clock + 1)) }, ?_, rfl, rfl, rfl, by simp, fun b hne => by simp [Ne.symm hne], hS, _, _, (heap_set hb).1, ?_⟩
    · simp [Instr.mapUpdate, run_underlying ht, MapKept.run_getObj_map hb, run_checkKey hk (k := .int .i64 k) rfl, run_findKey hk h2, MapKept.run_setObj_map _ hb, Result.andThen]
    · rw [hv]; exact M.push hkk a h1 h3
  · refine ⟨{ w with heap := w.heap.setIfInBounds p.1 (.map (es.modify j fun e => { e with key := .int .i64 k, val := v }) clock) }, ?_, rfl, rfl, rfl, by simp, fun b hne => by simp [Ne.symm hne], hS, _, _, (heap_set hb).1, ?_⟩
    · have hj2 : es[j]? = some e := by rw [← Array.getElem?_toList]; exact he1
      simp [Instr.mapUpdate, run_underlying ht, MapKept.run_getObj_map hb, run_checkKey hk (k := .int .i64 k) rfl, run_findKey hk h2, hj2, he2, run_keyThatStays (d := .int .i64) (k := .int .i64 k) rfl, MapKept.run_setObj_map _ hb, Result.andThen]
    · exact M.put hkk a h1 hj v hv
theorem turns_del {t kt et ty : TypeId} {ts : Array TypeId} {c : Chunk} {k : Int} (hc : c.x = mapX enc D) (ho : c.own = true) (hts : ts[0]? = some t) (ht : P.underlying t = some (.map kt et)) (hk : P.underlying kt = some (.int .i64)) :
    Turns P c (mapC enc (dDel D k)) (fun b => Builtin.delete_ ts ty #[.map (some b), .int .i64 k]) (.tuple #[]) := by
  refine ⟨fun _ => ho, rfl, fun p S w hi => ?_⟩
  rw [hc] at hi
  obtain ⟨hS, es, clock, hb, M⟩ := hi
  refine ⟨(hS _).2 rfl, ?_⟩
  have hlt : p.1 < w.heap.size := (Array.getElem?_eq_some_iff.1 hb).1
  rcases M.find k with ⟨h1, h2, h3⟩ | ⟨j, a', h1, hj, _, h2⟩
  · refine ⟨{ w with heap := w.heap.setIfInBounds p.1 (.map es clock) }, ?_, rfl, rfl, rfl, by simp, fun b hne => by simp [Ne.symm hne], hS, _, _, (heap_set hb).1, ?_⟩
    · simp [Builtin.delete_, hts, run_underlying ht, MapKept.run_getObj_map hb, run_checkKey hk (k := .int .i64 k) rfl, run_findKey hk h2, MapKept.run_setObj_map _ hb, Result.andThen]
    · have : dDel D k = D := List.filter_eq_self.2 fun q hq => by simp [dGet_none.1 h1 q hq]
      rw [this]; exact M
  · refine ⟨{ w with heap := w.heap.setIfInBounds p.1 (.map (es.eraseIdxIfInBounds j) clock) }, ?_, rfl, rfl, rfl, by simp, fun b hne => by simp [Ne.symm hne], hS, _, _, (heap_set hb).1, M.erase hj⟩
    simp [Builtin.delete_, hts, run_underlying ht, MapKept.run_getObj_map hb, run_checkKey hk (k := .int .i64 k) rfl, run_findKey hk h2, MapKept.run_setObj_map _ hb, Result.andThen]
theorem N_put {t kt et : TypeId} {c : Chunk} {k : Int} {v : Value} {K : Chunk → Prop} (enc : α → Value) (D : List (Int × α)) (a : α) (hc : c.x = mapX enc D) (ho : c.own = true) (hkk : -9223372036854775808 ≤ k ∧ k ≤ 9223372036854775807) (hv : v = enc a) (ht : P.underlying t = some (.map kt et)) (hk : P.underlying kt = some (.int .i64))
    (h : K (mapC enc (dPut D k a))) : N (TurnN P c (fun b => Instr.mapUpdate t (.map (some b)) (.int .i64 k) v) K) := N.mk ⟨_, turns_put hc ho hkk hv ht hk, h⟩
theorem N_del {t kt et ty : TypeId} {ts : Array TypeId} {c : Chunk} {k : Int} {A : Chunk → Prop} (enc : α → Value) (D : List (Int × α)) (hc : c.x = mapX enc D) (ho : c.own = true) (hts : ts[0]? = some t) (ht : P.underlying t = some (.map kt et)) (hk : P.underlying kt = some (.int .i64))
    (h : A (mapC enc (dDel D k))) : N (TurnV P c (fun b => Builtin.delete_ ts ty #[.map (some b), .int .i64 k]) fun v d => N (Obl (v = .tuple #[]) (A d))) :=
  N.mk ⟨.tuple #[], _, fun ρ => by simp [den], turns_del hc ho hts ht hk, N.obl rfl h⟩
theorem N_lenM {t kt et ty : TypeId} {ts : Array TypeId} {c : Chunk} {K : Value → Prop} (enc : α → Value) (D : List (Int × α)) (hc : c.x = mapX enc D) (hts : ts[0]? = some t) (ht : P.underlying t = some (.map kt et)) (h : K (.int .i64 (D.length : Nat))) : N (LenMN P ts ty c K) :=
  N.mk ⟨.int .i64 (D.length : Nat), fun ρ => by simp [den, den2, den1, den0], fun p S w hi => by
    rw [hc] at hi
    obtain ⟨_, es, clock, hb, M⟩ := hi
    simp [Builtin.len_, hts, run_underlying ht, MapKept.run_getObj_map hb, Result.andThen, M.size, goInt], h⟩
theorem N_mkMap {K : Chunk → Prop} (enc : α → Value) (h : K (mapC enc [])) : N (MkMapN K) :=
  N.mk ⟨mapC enc [], rfl, fun w => ⟨fun b => Iff.rfl, #[], 0, (heap_alloc w (.map #[] 0)).1, MapIs.nil⟩, h⟩
end
end Go.Proofs.YtimccfnlcnlffaaGreat.Sx


namespace Go.Proofs.YtimccfnlcnlffaaGreat
open Go Go.RowKit Sx
abbrev serOK (s : Int) : Prop := 0 ≤ s ∧ s ≤ 65535
theorem and_mask (x : Int) : IntKind.i64.wrap ((BitVec.ofInt IntKind.i64.bits x &&& BitVec.ofInt IntKind.i64.bits 65535).toNat : Nat) = x % 65536 := by
  have h1 : (BitVec.ofInt IntKind.i64.bits 65535).toNat = 2 ^ 16 - 1 := by decide
  have h2 : (BitVec.ofInt IntKind.i64.bits x &&& BitVec.ofInt IntKind.i64.bits 65535).toNat = (BitVec.ofInt IntKind.i64.bits x).toNat % 65536 := by
    rw [BitVec.toNat_and, h1, Nat.and_two_pow_sub_one_eq_mod]
  have h3 : ((BitVec.ofInt IntKind.i64.bits x).toNat : Int) = x % 18446744073709551616 := by
    rw [BitVec.toNat_ofInt]
    have : (0 : Int) ≤ x % ((2 ^ IntKind.i64.bits : Nat) : Int) := Int.emod_nonneg _ (by decide)
    rw [Int.toNat_of_nonneg this]
    rfl
  rw [h2, IntKind.wrap_i64]
  omega
def serD (a b : Int) : Int := if serOK a ∧ serOK b then (if (b - a) % 65536 > 32768 then (b - a) % 65536 - 65536 else (b - a) % 65536) else 0
theorem serD_in (a b : Int) : -32767 ≤ serD a b ∧ serD a b ≤ 32768 := by unfold serD; split <;> (try split) <;> omega
theorem sermay_x (s : Int)  (w : World) : Calls Tryz.prog 21 #[.int .i64 s] w fun e w' => e = .returned (.bool (decide (serOK s))) ∧ Below w.heap.size w w' := by
  refine calls_pure (G := tys) w tysOK mixed Tryz.func21 (by rfl) (by first | rfl | (simp only [List.all_cons, List.all_nil, plain_wz, plain_lim, plain_wi]; rfl)) (by first | exact plain3_wz _ | exact plain3_wi _ _ _ | rfl | (simp only [plain3, List.all_cons, List.all_nil, plain_wz, plain_lim, plain_wi]; rfl)) ?_
  repeat' (refine N.go ?_; first | with_reducible (first | refine N.obl (by decide) ?_ | refine N.eq ?_ | refine N.obl rfl ?_ | refine N.obl ⟨by kernel_rfl, by kernel_rfl⟩ ?_ | refine N.alt ?_ | refine N.forkT ?_ | refine N.forkF ?_) | with_reducible refine N.fork (fun hb => ?_) (fun hb => ?_) | fail)
  all_goals
    refine boolD ?_
    simp only [decide_eq_true_eq, decide_eq_false_iff_not, Bool.false_eq_true, false_iff, true_iff, iff_true, iff_false, reduceCtorEq, not_true_eq_false, not_false_eq_true, ge_iff_le, gt_iff_lt] at *
    omega
theorem tnode_x (s : Int)  (w : World) : Calls Tryz.prog 20 #[.int .i64 s] w fun e w' => e = .returned (.bool (decide (0 ≤ s ∧ s < 64))) ∧ Below w.heap.size w w' := by
  refine calls_pure (G := tys) w tysOK mixed Tryz.func20 (by rfl) (by first | rfl | (simp only [List.all_cons, List.all_nil, plain_wz, plain_lim, plain_wi]; rfl)) (by first | exact plain3_wz _ | exact plain3_wi _ _ _ | rfl | (simp only [plain3, List.all_cons, List.all_nil, plain_wz, plain_lim, plain_wi]; rfl)) ?_
  repeat' (refine N.go ?_; first | with_reducible (first | refine N.obl (by decide) ?_ | refine N.eq ?_ | refine N.obl rfl ?_ | refine N.obl ⟨by kernel_rfl, by kernel_rfl⟩ ?_ | refine N.alt ?_ | refine N.forkT ?_ | refine N.forkF ?_) | with_reducible refine N.fork (fun hb => ?_) (fun hb => ?_) | fail)
  all_goals
    refine boolD ?_
    simp only [decide_eq_true_eq, decide_eq_false_iff_not, Bool.false_eq_true, false_iff, true_iff, iff_true, iff_false, reduceCtorEq, not_true_eq_false, not_false_eq_true, ge_iff_le, gt_iff_lt] at *
    omega
theorem ttime_x (s : Int)  (w : World) : Calls Tryz.prog 22 #[.int .i64 s] w fun e w' => e = .returned (.bool (decide (0 ≤ s ∧ s ≤ 1000000))) ∧ Below w.heap.size w w' := by
  refine calls_pure (G := tys) w tysOK mixed Tryz.func22 (by rfl) (by first | rfl | (simp only [List.all_cons, List.all_nil, plain_wz, plain_lim, plain_wi]; rfl)) (by first | exact plain3_wz _ | exact plain3_wi _ _ _ | rfl | (simp only [plain3, List.all_cons, List.all_nil, plain_wz, plain_lim, plain_wi]; rfl)) ?_
  repeat' (refine N.go ?_; first | with_reducible (first | refine N.obl (by decide) ?_ | refine N.eq ?_ | refine N.obl rfl ?_ | refine N.obl ⟨by kernel_rfl, by kernel_rfl⟩ ?_ | refine N.alt ?_ | refine N.forkT ?_ | refine N.forkF ?_) | with_reducible refine N.fork (fun hb => ?_) (fun hb => ?_) | fail)
  all_goals
    refine boolD ?_
    simp only [decide_eq_true_eq, decide_eq_false_iff_not, Bool.false_eq_true, false_iff, true_iff, iff_true, iff_false, reduceCtorEq, not_true_eq_false, not_false_eq_true, ge_iff_le, gt_iff_lt] at *
    omega
theorem cSerMay (s : Int) (h : List (Option Chunk)) : CallOK Tryz.prog 21 [.int .i64 s] h (.bool (decide (serOK s))) [] [] := call_pure rfl rfl (Tryz.call21 _) (sermay_x s)
theorem cTnode (s : Int) (h : List (Option Chunk)) : CallOK Tryz.prog 20 [.int .i64 s] h (.bool (decide (0 ≤ s ∧ s < 64))) [] [] := call_pure rfl rfl (Tryz.call20 _) (tnode_x s)
theorem cTtime (s : Int) (h : List (Option Chunk)) : CallOK Tryz.prog 22 [.int .i64 s] h (.bool (decide (0 ≤ s ∧ s ≤ 1000000))) [] [] := call_pure rfl rfl (Tryz.call22 _) (ttime_x s)
theorem serdiff_x (a b : Int)  (w : World) : Calls Tryz.prog 39 #[.int .i64 a, .int .i64 b] w fun e w' => e = .returned (.int .i64 (serD a b)) ∧ Below w.heap.size w w' := by
  refine calls_pure (G := tys) w tysOK mixed Tryz.func39 (by rfl) (by first | rfl | (simp only [List.all_cons, List.all_nil, plain_wz, plain_lim, plain_wi]; rfl)) (by first | exact plain3_wz _ | exact plain3_wi _ _ _ | rfl | (simp only [plain3, List.all_cons, List.all_nil, plain_wz, plain_lim, plain_wi]; rfl)) ?_
  repeat' (refine N.go ?_; first | with_reducible (first | refine N.obl (by decide) ?_ | refine N.eq ?_ | refine N.obl rfl ?_ | refine N.obl ⟨by kernel_rfl, by kernel_rfl⟩ ?_ | refine N.alt ?_ | refine N.forkT ?_ | refine N.forkF ?_) | refine N.call (cSerMay _ _) ?_ | with_reducible refine N.fork (fun hb => ?_) (fun hb => ?_) | fail)
  all_goals
    refine congrArg _ ?_
    unfold serD
    simp only [and_mask, Bool.not_eq_eq_eq_not, Bool.not_true, Bool.not_false, decide_eq_true_eq, decide_eq_false_iff_not] at *
    first
      | (rw [if_neg (by omega)]; first | done | fail)
      | (rw [if_pos (by omega)]
         have e : IntKind.i64.wrap (b - a) = b - a := by rw [IntKind.wrap_i64]; omega
         split <;> first
           | omega
           | (rw [IntKind.wrap_i64]; omega))
theorem cSerDiff (a b : Int) (h : List (Option Chunk)) : CallOK Tryz.prog 39 [.int .i64 a, .int .i64 b] h (.int .i64 (serD a b)) [] [] := call_pure rfl rfl (Tryz.call39 _) (serdiff_x a b)
theorem serless_x (a b : Int)  (w : World) : Calls Tryz.prog 37 #[.int .i64 a, .int .i64 b] w fun e w' => e = .returned (.bool (decide (0 < serD a b ∧ serD a b < 32768))) ∧ Below w.heap.size w w' := by
  refine calls_pure (G := tys) w tysOK mixed Tryz.func37 (by rfl) (by first | rfl | (simp only [List.all_cons, List.all_nil, plain_wz, plain_lim, plain_wi]; rfl)) (by first | exact plain3_wz _ | exact plain3_wi _ _ _ | rfl | (simp only [plain3, List.all_cons, List.all_nil, plain_wz, plain_lim, plain_wi]; rfl)) ?_
  repeat' (refine N.go ?_; first | with_reducible (first | refine N.obl (by decide) ?_ | refine N.eq ?_ | refine N.obl rfl ?_ | refine N.obl ⟨by kernel_rfl, by kernel_rfl⟩ ?_ | refine N.alt ?_ | refine N.forkT ?_ | refine N.forkF ?_) | refine N.call (cSerDiff _ _ _) ?_ | with_reducible refine N.fork (fun hb => ?_) (fun hb => ?_) | fail)
  all_goals
    refine boolD ?_
    simp only [decide_eq_true_eq, decide_eq_false_iff_not, Bool.false_eq_true, false_iff, true_iff, iff_true, iff_false, reduceCtorEq, not_true_eq_false, not_false_eq_true, ge_iff_le, gt_iff_lt] at *
    omega
theorem cSerLess (a b : Int) (h : List (Option Chunk)) : CallOK Tryz.prog 37 [.int .i64 a, .int .i64 b] h (.bool (decide (0 < serD a b ∧ serD a b < 32768))) [] [] := call_pure rfl rfl (Tryz.call37 _) (serless_x a b)
end Go.Proofs.YtimccfnlcnlffaaGreat


namespace Go.Proofs.YtimccfnlcnlffaaGreat.Sx
open Go Go.RowKit
abbrev atX (q : Nat × Nat) : Ext where
  inv := fun p S _ => p = q ∧ ∀ b, ¬ S b
  keep := fun h _ => h
def realP (q : Nat × Nat) : Value := .pointer (some ⟨q.1, q.2, none⟩)
theorem realP_den {q : Nat × Nat} {ρ : Nat → Nat × Nat} : den ρ (realP q) = realP q := rfl
structure FamOK {α : Type} (n : Nat) (enc : α → Nat → Value) (F : List ((Nat × Nat) × α)) (S : Nat → Prop) (w : World) : Prop where
  dom : ∀ b, S b ↔ ∃ q ∈ F, q.1.1 = b
  nodup : (F.map (·.1.1)).Nodup
  cell : ∀ q ∈ F, ∀ j, j < n → w.cell? ⟨q.1.1, q.1.2 + j, none⟩ = some (enc q.2 j) ∧ w.frozen? ⟨q.1.1, q.1.2 + j, none⟩ = false
abbrev famX {α : Type} (n : Nat) (enc : α → Nat → Value) (F : List ((Nat × Nat) × α)) : Ext where
  inv := fun _ S w => FamOK n enc F S w
  keep := fun {p S w w'} h hb => ⟨h.dom, h.nodup, fun q hq j hj => by
    obtain ⟨h1, h2⟩ := h.cell q hq j hj
    have e := hb q.1.1 ((h.dom _).2 ⟨q, hq, rfl⟩)
    refine ⟨?_, ?_⟩
    · rw [← h1]; unfold World.cell?; simp only [e]
    · rw [← h2]; unfold World.frozen?; simp only [e]⟩
structure PackOK (ρ : Nat → Nat × Nat) (h : List (Option Chunk)) (w : World) (S : Nat → Prop) (T : Nat → Nat → Prop) : Prop where
  blk : ∀ (k : Nat) (d : Chunk), h[k]? = some (some d) → S (ρ k).1
  cell : ∀ (k : Nat) (d : Chunk), h[k]? = some (some d) → ∀ j, j < d.n → ∃ x, w.cell? ⟨(ρ k).1, (ρ k).2 + j, none⟩ = some x ∧ Den1 (Fil h) ρ (d.f j) x
  own : ∀ (k : Nat) (d : Chunk), h[k]? = some (some d) → ∀ j, j < d.n → w.frozen? ⟨(ρ k).1, (ρ k).2 + j, none⟩ = false
  inv : ∀ (k : Nat) (d : Chunk), h[k]? = some (some d) → d.x.inv (ρ k) (T k) w
  foot : ∀ (k : Nat) (d : Chunk) (b : Nat), h[k]? = some (some d) → T k b → S b ∧ (d.n = 0 ∨ b ≠ (ρ k).1)
  sep : ∀ (k : Nat) (d : Chunk) (l : Nat) (e : Chunk), h[k]? = some (some d) → h[l]? = some (some e) → k ≠ l → (ρ k).1 ≠ (ρ l).1 ∧ ∀ b, T k b → (ρ l).1 ≠ b ∧ ¬ T l b
abbrev packX {B : Type} (ok : B → Prop) (h : B → List (Option Chunk)) : Ext where
  inv := fun p S w => S p.1 ∧ ∃ β, ok β ∧ ∃ ρ T, ρ 0 = p ∧ Fil (h β) 0 ∧ PackOK ρ (h β) w S T
  keep := fun {p S w w'} hh hb => ⟨hh.1, by
    obtain ⟨β, hβ, ρ, T, h0, hf, K⟩ := hh.2
    refine ⟨β, hβ, ρ, T, h0, hf, K.blk, fun k d hk j hj => ?_, fun k d hk j hj => ?_, fun k d hk => ?_, K.foot, K.sep⟩
    · obtain ⟨x, hx, hd⟩ := K.cell k d hk j hj
      refine ⟨x, ?_, hd⟩
      have e := hb _ (K.blk k d hk)
      rw [← hx]; unfold World.cell?; simp only [e]
    · have e := hb _ (K.blk k d hk)
      rw [← K.own k d hk j hj]; unfold World.frozen?; simp only [e]
    · exact d.x.keep (K.inv k d hk) fun b hT => hb b (K.foot k d b hk hT).1⟩
theorem packX_selfish {B : Type} {ok : B → Prop} {h : B → List (Option Chunk)} : Selfish (packX ok h) := fun p S w hh => hh.1
abbrev packC {B : Type} (ok : B → Prop) (h : B → List (Option Chunk)) : Chunk := @Chunk.mk (packX ok h) true 0 []
theorem pack_opens {B : Type} {ok : B → Prop} {h : B → List (Option Chunk)} {i : Nat} {c d : Chunk} : Opens [⟨i, c, packC ok h, d⟩] ok h := fun X ρ w T H => by
  obtain ⟨S, E⟩ := H.ext
  have h0 : (partH [⟨i, c, packC ok h, d⟩])[0]? = some (some (packC ok h)) := rfl
  have one : ∀ (k : Nat) (e : Chunk), (partH [⟨i, c, packC ok h, d⟩])[k]? = some (some e) → k = 0 := fun k e hk => by
    cases k with
    | zero => rfl
    | succ k => simp [partH] at hk
  obtain ⟨_, β, hβ, ρp, Tp, e0, hf, K⟩ := E.inv 0 _ h0
  have n0 : X.n0 = 1 := T.n0
  refine ⟨β, hβ, ρp, fun k hk => ?_, fun k hk => ?_, ?_⟩
  · obtain ⟨e, he⟩ := hk
    obtain rfl := one k e he
    exact e0
  · obtain ⟨e, he⟩ := hk
    obtain rfl := one k e he
    exact hf
  · refine H.redo E (fun k => k = 0) (fun _ => True) (S 0) (fun b hb => ⟨0, _, rfl, h0, .inr hb⟩) (fun b hb => (E.mine 0 _ b h0 hb).2.2) (fun k hk => ?_) (fun k e hk hA => absurd trivial hA) (fun k e hk _ => ⟨K.blk k e hk, K.cell k e hk, fun _ => K.own k e hk, K.inv k e hk, fun b hb => K.foot k e b hk hb⟩) (fun k e l f hk _ hl _ hne => ⟨fun _ => (K.sep k e l f hk hl hne).1, (K.sep k e l f hk hl hne).2⟩)
    rw [n0] at hk
    obtain rfl : k = 0 := by omega
    exact ⟨hf, e0⟩
def closeH (pc : Chunk) (m : Nat) (keep : List Nat) : List (Option Chunk) → Nat → List (Option Chunk)
  | [], _ => []
  | x :: r, i => (match Nat.beq i m with
    | true => some pc
    | false => match keep.any (Nat.beq i) with
      | true => x
      | false => none) :: closeH pc m keep r (i + 1)
theorem closeH_get {pc : Chunk} {m : Nat} {keep : List Nat} : ∀ {h : List (Option Chunk)} {i0 k : Nat} {d : Chunk}, (closeH pc m keep h i0)[k]? = some (some d) → (i0 + k = m ∧ d = pc) ∨ (i0 + k ≠ m ∧ i0 + k ∈ keep ∧ h[k]? = some (some d))
  | [], i0, k, d, hk => by simp [closeH] at hk
  | x :: r, i0, 0, d, hk => by
    simp only [closeH, List.getElem?_cons_zero, Option.some.injEq] at hk
    cases e : Nat.beq i0 m with
    | true =>
      rw [e] at hk
      exact .inl ⟨Nat.eq_of_beq_eq_true e, by simpa using hk.symm⟩
    | false =>
      rw [e] at hk
      simp only at hk
      cases e2 : keep.any (Nat.beq i0) with
      | true =>
        rw [e2] at hk
        refine .inr ⟨fun e3 => ?_, ?_, by simp only at hk; rw [hk]; rfl⟩
        · have : i0 = m := e3
          rw [this, Nat.beq_refl] at e; cases e
        · rw [List.any_eq_true] at e2
          obtain ⟨y, hy, he⟩ := e2
          have := Nat.eq_of_beq_eq_true he
          show i0 ∈ keep
          rw [this]; exact hy
      | false => rw [e2] at hk; cases hk
  | x :: r, i0, k + 1, d, hk => by
    have := closeH_get (h := r) (i0 := i0 + 1) (k := k) (d := d) (by simpa [closeH] using hk)
    rw [show i0 + (k + 1) = i0 + 1 + k from by omega]
    rcases this with h1 | ⟨h1, h2, h3⟩
    · exact .inl h1
    · exact .inr ⟨h1, h2, by simpa using h3⟩
theorem closeH_fil {pc : Chunk} {m : Nat} {keep : List Nat} : ∀ {h : List (Option Chunk)} {i0 k : Nat}, k < h.length → (i0 + k = m ∨ (i0 + k ∈ keep ∧ Fil h k)) → Fil (closeH pc m keep h i0) k
  | [], i0, k, hl, _ => by simp at hl
  | x :: r, i0, 0, _, hk => by
    simp only [closeH, Fil, List.getElem?_cons_zero]
    cases e : Nat.beq i0 m with
    | true => exact ⟨pc, rfl⟩
    | false =>
      rcases hk with hk | ⟨hk, hf⟩
      · have hk : i0 = m := hk
        rw [hk, Nat.beq_refl] at e; cases e
      · have : keep.any (Nat.beq i0) = true := List.any_eq_true.2 ⟨i0, hk, Nat.beq_refl _⟩
        simp only [this]
        obtain ⟨c, hc⟩ := hf
        exact ⟨c, by simpa using hc⟩
  | x :: r, i0, k + 1, hl, hk => by
    obtain ⟨c, hc⟩ := closeH_fil (pc := pc) (m := m) (keep := keep) (h := r) (i0 := i0 + 1) (k := k) (by simpa using hl) (by
      rw [show i0 + 1 + k = i0 + (k + 1) from by omega]
      exact hk.imp id fun ⟨h1, c, h2⟩ => ⟨h1, c, by simpa using h2⟩)
    exact ⟨c, by simpa [closeH] using hc⟩
def PackFrom (ix : List (Nat × Nat)) (h hp : List (Option Chunk)) : Prop :=
  ∀ (k : Nat) (d : Chunk), hp[k]? = some (some d) → ∃ i c, ixK ix k = some i ∧ h[i]? = some (some c) ∧ c.own = true ∧ d.n ≤ c.n ∧ (∀ j, j < d.n → Re1 ix (c.f j) (d.f j)) ∧ (d.x = Ext.none ∨ d.x = c.x) ∧ (0 < c.n ∨ Selfish c.x)
def packB : List (Option Chunk) → List (Nat × Nat) → Bool
  | _, [] => true
  | hp, (k, i) :: r => filB hp k && packB hp r
theorem packB_out {hp : List (Option Chunk)} : ∀ {ix : List (Nat × Nat)}, packB hp ix = true → ∀ k i, (k, i) ∈ ix → Fil hp k
  | (a, b) :: r, h, k, i, hm => by
    simp only [packB, Bool.and_eq_true] at h
    rcases List.mem_cons.1 hm with e | hm
    · simp only [Prod.mk.injEq] at e
      obtain ⟨rfl, rfl⟩ := e
      exact filB_iff.1 h.1
    · exact packB_out h.2 k i hm
def ixOne : List (Nat × Nat) → Bool
  | [] => true
  | (k, i) :: r => (r.all fun p => !Nat.beq p.1 k && !Nat.beq p.2 i) && ixOne r
theorem ixOne_out : ∀ {ix : List (Nat × Nat)}, ixOne ix = true → ∀ k i k' i', (k, i) ∈ ix → (k', i') ∈ ix → (k = k' ∨ i = i') → k = k' ∧ i = i'
  | (a, b) :: r, h, k, i, k', i', h1, h2, he => by
    simp only [ixOne, Bool.and_eq_true, List.all_eq_true] at h
    have key : ∀ x y, (x, y) ∈ r → x ≠ a ∧ y ≠ b := fun x y hm => by
      have := h.1 (x, y) hm
      simp only [Bool.not_eq_true'] at this
      exact ⟨fun e => by subst e; simp at this, fun e => by subst e; simp at this⟩
    rcases List.mem_cons.1 h1 with e1 | h1 <;> rcases List.mem_cons.1 h2 with e2 | h2
    · simp only [Prod.mk.injEq] at e1 e2; omega
    · simp only [Prod.mk.injEq] at e1
      have := key k' i' h2; omega
    · simp only [Prod.mk.injEq] at e2
      have := key k i h1; omega
    · exact ixOne_out h.2 k i k' i' h1 h2 he
theorem closeN {B : Type} {ok : B → Prop} {hB : B → List (Option Chunk)} {ss : List Piece} {h : List (Option Chunk)} {v : Value} {K : Value → List (Option Chunk) → Prop} (β : B) (m : Nat) (ix : List (Nat × Nat)) (keep : List Nat) (hpc : ∀ k i, (k, i) ∈ ix → i < ss.length → ∃ s, ss[i]? = some s ∧ s.e.x ≠ Ext.none ∧ Selfish s.e.x) (hbs : ∀ i, i < ss.length → i = m ∨ i ∈ keep) (hok : ok β) (h00 : ixK ix 0 = some m) (hf0 : Fil (hB β) 0) (hone : ixOne ix = true) (hpb : packB (hB β) ix = true)
    (hpk : PackFrom ix h (hB β)) (hkk : ∀ k ∈ keep, ∀ l i, (l, i) ∈ ix → k ≠ i) (hkd : ∀ k ∈ keep, ∀ (d : Chunk), h[k]? = some (some d) → ∀ j, j < d.n → Safe1 (closeH (packC ok hB) m keep h 0) (d.f j))
    (hv : ∀ ρ ρ', AgreeOn (Fil (closeH (packC ok hB) m keep h 0)) ρ ρ' → den ρ' v = den ρ v) (hlt : m < h.length) (kk : K v (closeH (packC ok hB) m keep h 0)) : N (EndN ss h v K) := N.mk fun X ρ w x T H hd => by
  obtain ⟨S, E⟩ := H.ext
  have fil0 : Fil (closeH (packC ok hB) m keep h 0) m := closeH_fil hlt (.inl (Nat.zero_add m))
  have inv : ∀ k d, (hB β)[k]? = some (some d) → ∃ i c, (k, i) ∈ ix ∧ h[i]? = some (some c) ∧ c.own = true ∧ d.n ≤ c.n ∧ (∀ j, j < d.n → Re1 ix (c.f j) (d.f j)) ∧ (d.x = Ext.none ∨ d.x = c.x) ∧ (0 < c.n ∨ Selfish c.x) := fun k d hk => by
    obtain ⟨i, c, h1, h2⟩ := hpk k d hk
    exact ⟨i, c, ixK_mem h1, h2⟩
  have ofix : ∀ k i, (k, i) ∈ ix → ∃ d, (hB β)[k]? = some (some d) := fun k i hm => packB_out hpb k i hm
  have act : ∀ k i, (k, i) ∈ ix → ∃ d c, (hB β)[k]? = some (some d) ∧ h[i]? = some (some c) ∧ c.own = true ∧ d.n ≤ c.n ∧ (∀ j, j < d.n → Re1 ix (c.f j) (d.f j)) ∧ (d.x = Ext.none ∨ d.x = c.x) ∧ (0 < c.n ∨ Selfish c.x) := fun k i hm => by
    obtain ⟨d, hd⟩ := ofix k i hm
    obtain ⟨i', c, hm', h2⟩ := inv k d hd
    obtain rfl := (ixOne_out hone k i k i' hm hm' (.inl rfl)).2
    exact ⟨d, c, hd, h2⟩
  have mayB : ∀ k i, (k, i) ∈ ix → May X (ρ i).1 := fun k i hm => by
    obtain ⟨d, c, _, hc, ho, _, _, _, h3⟩ := act k i hm
    rcases h3 with h3 | h3
    · by_cases e : i < ss.length
      · obtain ⟨s, hs, hx, hsf⟩ := hpc k i hm e
        exact T.mayX H hs hx hsf
      · exact T.may H hc ho h3 (by omega)
    · exact (E.mine i c _ hc (h3 _ _ _ (E.inv i c hc))).2.2
  let ρp : Nat → Nat × Nat := fun k => match ixK ix k with | some i => ρ i | none => (0, 0)
  let Tp : Nat → Nat → Prop := fun k b => ∃ i d, (k, i) ∈ ix ∧ (hB β)[k]? = some (some d) ∧ d.x ≠ Ext.none ∧ S i b
  have ixKof : ∀ k i, (k, i) ∈ ix → ixK ix k = some i := fun k i hm => by
    obtain ⟨d, hd⟩ := ofix k i hm
    obtain ⟨i', c, h1, _⟩ := hpk k d hd
    rw [(ixOne_out hone k i k i' hm (ixK_mem h1) (.inl rfl)).2]; exact h1
  have ρp_eq : ∀ k i, (k, i) ∈ ix → ρp k = ρ i := fun k i hm => by
    show (match ixK ix k with | some i => ρ i | none => (0, 0)) = ρ i
    rw [ixKof k i hm]
  let F : Nat → Prop := fun b => ∃ k i, (k, i) ∈ ix ∧ (b = (ρ i).1 ∨ Tp k b)
  have Tp_eq : ∀ k i d, (k, i) ∈ ix → (hB β)[k]? = some (some d) → d.x ≠ Ext.none → Tp k = S i := fun k i d hm hd hne => by
    funext b
    refine propext ⟨?_, fun hb => ⟨i, d, hm, hd, hne, hb⟩⟩
    rintro ⟨i', _, hm', _, _, hb⟩
    rw [(ixOne_out hone k i k i' hm hm' (.inl rfl)).2]; exact hb
  have TpS : ∀ k i b, (k, i) ∈ ix → Tp k b → S i b := fun k i b hm hb => by
    obtain ⟨i', _, hm', _, _, hb'⟩ := hb
    rw [(ixOne_out hone k i k i' hm hm' (.inl rfl)).2]; exact hb'
  have K1 : PackOK ρp (hB β) w F Tp := by
    refine ⟨fun k d hk => ?_, fun k d hk j hj => ?_, fun k d hk j hj => ?_, fun k d hk => ?_, fun k d b hk hb => ?_, fun k d l e hk hl hne => ?_⟩
    · obtain ⟨i, c, hm, _⟩ := inv k d hk
      exact ⟨k, i, hm, .inl (by rw [ρp_eq k i hm])⟩
    · obtain ⟨i, c, hm, hc, ho, hn, hr, _⟩ := inv k d hk
      obtain ⟨y, hy, hdy⟩ := H.cell i c hc j (Nat.lt_of_lt_of_le hj hn)
      rw [ρp_eq k i hm]
      refine ⟨y, hy, fun r hrr => ?_⟩
      rw [← (hr j hj).den (r := ρ) (r' := r) (fun k' i' hm' => by
        obtain ⟨d', hd'⟩ := ofix k' i' hm'
        rw [hrr k' ⟨d', hd'⟩, ρp_eq k' i' hm'])]
      exact hdy.self
    · obtain ⟨i, c, hm, hc, ho, hn, _⟩ := inv k d hk
      rw [ρp_eq k i hm]
      exact (H.own i c hc ho j (Nat.lt_of_lt_of_le hj hn)).1
    · obtain ⟨i, c, hm, hc, ho, hn, _, hx', _⟩ := inv k d hk
      by_cases en : d.x = Ext.none
      · rw [en]
        rintro b ⟨i', d', _, hd', hne, _⟩
        rw [hk] at hd'
        obtain rfl : d = d' := by simpa using hd'
        exact hne en
      · rw [Tp_eq k i d hm hk en, ρp_eq k i hm]
        rcases hx' with e | e
        · exact absurd e en
        · rw [e]; exact E.inv i c hc
    · obtain ⟨i, c, hm, hc, ho, hn, _⟩ := inv k d hk
      refine ⟨⟨k, i, hm, .inr hb⟩, ?_⟩
      have := (E.mine i c b hc (TpS k i b hm hb)).1
      rw [ρp_eq k i hm]; omega
    · obtain ⟨i, c, hm, hc, ho, _⟩ := inv k d hk
      obtain ⟨i2, c2, hm2, hc2, ho2, _⟩ := inv l e hl
      have hii : i ≠ i2 := fun ei => hne (ixOne_out hone k i l i2 hm hm2 (.inr ei)).1
      refine ⟨by rw [ρp_eq k i hm, ρp_eq l i2 hm2]; exact H.sep i c i2 c2 hc ho hc2 hii, fun b hb => ?_⟩
      obtain ⟨a1, a2⟩ := E.apart i c b i2 c2 hc (TpS k i b hm hb) hc2 (Ne.symm hii)
      exact ⟨by rw [ρp_eq l i2 hm2]; exact a1, fun hb2 => a2 (TpS l i2 b hm2 hb2)⟩
  have m00 := ixK_mem h00
  have H' : HOK X ρ (closeH (packC ok hB) m keep h 0) w := by
    refine H.redo (T := fun k b => k = m ∧ F b) E (fun i => ∃ k, (k, i) ∈ ix) (fun k => k = m) F (fun b hb => ?_) (fun b hb => ?_) (fun i hi => ?_) (fun k d hk hA => ?_) (fun k d hk hA => ?_) (fun k d l e hk hA hl hB' hne => ?_)
    · obtain ⟨k, i, hm, hb⟩ := hb
      obtain ⟨d, c, hd, hc, ho, _⟩ := act k i hm
      rcases hb with hb | hb
      · exact ⟨i, c, ⟨k, hm⟩, hc, .inl ⟨ho, hb⟩⟩
      · exact ⟨i, c, ⟨k, hm⟩, hc, .inr (TpS k i b hm hb)⟩
    · obtain ⟨k, i, hm, hb⟩ := hb
      rcases hb with rfl | hb
      · exact mayB k i hm
      · obtain ⟨d, c, hd, hc, _⟩ := act k i hm
        exact (E.mine i c b hc (TpS k i b hm hb)).2.2
    · have hi : i < ss.length := by have := T.n0; omega
      rcases hbs i hi with rfl | h1
      · exact ⟨fil0, rfl⟩
      · have hf := (H.base i (by have := T.n0; omega)).1
        obtain ⟨c, hc⟩ := hf
        exact ⟨closeH_fil (List.getElem?_eq_some_iff.1 hc).1 (.inr ⟨by rw [Nat.zero_add]; exact h1, c, hc⟩), rfl⟩
    · rcases closeH_get hk with ⟨h1, _⟩ | ⟨h1, h2, h3⟩
      · exact absurd (by omega) hA
      · rw [Nat.zero_add] at h1 h2
        refine ⟨fun ⟨l, hm⟩ => hkk k h2 l k hm rfl, rfl, h3, fun j hj y hy r hrr => ?_⟩
        rw [(hkd k h2 d h3 j hj).inScope ρ r hrr]
        exact hy.self
    · subst hA
      rcases closeH_get hk with ⟨_, rfl⟩ | ⟨h1, _⟩
      · refine ⟨⟨0, k, m00, .inl rfl⟩, fun j hj => absurd hj (Nat.not_lt_zero j), fun _ j hj => absurd hj (Nat.not_lt_zero j), ⟨⟨rfl, 0, k, m00, .inl rfl⟩, β, hok, ρp, Tp, ρp_eq 0 k m00, hf0, ?_⟩, fun b hb => ⟨hb.2, .inl rfl⟩⟩
        have : (fun b => k = k ∧ F b) = F := by funext b; exact propext ⟨fun h => h.2, fun h => ⟨rfl, h⟩⟩
        rw [this]; exact K1
      · exact absurd (by omega) h1
    · exact absurd (hA.trans hB'.symm) hne
  refine ⟨v, _, ρ, H', fun r hrr => ?_, kk⟩
  rw [hv ρ r hrr]; exact hd.self
end Go.Proofs.YtimccfnlcnlffaaGreat.Sx


namespace Go.Proofs.YtimccfnlcnlffaaGreat.Sx
open Go Go.RowKit
theorem HOK.famOut {α : Type} {X : Ctx} {ρ : Nat → Nat × Nat} {h : List (Option Chunk)} {w : World} {i k n : Nat} {o : Bool} {m : Nat} {ps : List (Nat × Nat × Value)} {enc : α → Nat → Value} {F F' : List ((Nat × Nat) × α)} {q : Nat × Nat} {a : α} {e : Chunk}
    (H : HOK X ρ h w) (hm : 0 < m) (hi : h[i]? = some (some (@Chunk.mk (famX n enc F) true m ps))) (hk : h[k]? = some none) (hmay : May X (ρ i).1) (hF : F.Perm ((q, a) :: F')) (hex : e.x = atX q) (hen : e.n = n) (hef : ∀ j, j < n → e.f j = enc a j) (hpl : ∀ j, j < n → plain1 (enc a j) = true) :
    ∃ ρ', AgreeOn (Fil h) ρ ρ' ∧ HOK X ρ' ((h.set i (some (@Chunk.mk (famX n enc F') true m ps))).set k (some e)) w := by
  obtain ⟨S, E⟩ := H.ext
  have hil := (List.getElem?_eq_some_iff.1 hi).1
  have hkl := (List.getElem?_eq_some_iff.1 hk).1
  have hik : i ≠ k := fun e => by rw [e, hk] at hi; cases hi
  have nf : ¬ Fil h k := fun ⟨d, hd⟩ => by rw [hk] at hd; cases hd
  have FO : FamOK n enc F (S i) w := E.inv i _ hi
  have memF : ∀ x, x ∈ F ↔ x ∈ (q, a) :: F' := fun x => hF.mem_iff
  have qF : (q, a) ∈ F := (memF _).2 (by simp)
  have hS : S i q.1 := (FO.dom _).2 ⟨_, qF, rfl⟩
  have ndF : (((q, a) :: F').map (·.1.1)).Nodup := (hF.map _).nodup_iff.1 FO.nodup
  simp only [List.map_cons, List.nodup_cons] at ndF
  let ρ' : Nat → Nat × Nat := fun j => if j = k then q else ρ j
  have ρk : ρ' k = q := if_pos rfl
  have ρo : ∀ j, j ≠ k → ρ' j = ρ j := fun j hj => if_neg hj
  have hag : AgreeOn (Fil h) ρ ρ' := fun j hj => ρo j fun e => nf (e ▸ hj)
  let hh := (h.set i (some (@Chunk.mk (famX n enc F') true m ps))).set k (some e)
  have get : ∀ j d, hh[j]? = some (some d) → (j = k ∧ d = e) ∨ (j = i ∧ d = @Chunk.mk (famX n enc F') true m ps) ∨ (j ≠ i ∧ j ≠ k ∧ h[j]? = some (some d)) := fun j d hj => by
    by_cases ej : k = j
    · subst ej
      rw [List.getElem?_set_self (by simpa using hkl)] at hj
      exact .inl ⟨rfl, by simpa using hj.symm⟩
    · rw [List.getElem?_set_ne ej] at hj
      by_cases ei : i = j
      · subst ei
        rw [List.getElem?_set_self hil] at hj
        exact .inr (.inl ⟨rfl, by simpa using hj.symm⟩)
      · rw [List.getElem?_set_ne ei] at hj
        exact .inr (.inr ⟨fun e => ei e.symm, fun e => ej e.symm, hj⟩)
  have fil : ∀ j, Fil h j → Fil hh j := fun j hj => by
    obtain ⟨d, hd⟩ := hj
    by_cases ej : k = j
    · exact ⟨e, by subst ej; rw [List.getElem?_set_self (by simpa using hkl)]⟩
    · by_cases ei : i = j
      · exact ⟨_, by subst ei; rw [List.getElem?_set_ne ej, List.getElem?_set_self hil]⟩
      · exact ⟨d, by rw [List.getElem?_set_ne ej, List.getElem?_set_ne ei]; exact hd⟩
  have qne : q.1 ≠ (ρ i).1 := by
    rcases (E.mine i _ _ hi hS).1 with h0 | h0
    · have h0 : m = 0 := h0
      omega
    · exact h0
  refine ⟨ρ', hag, ?_⟩
  refine H.redo (T := fun j b => j = i ∧ S i b ∧ b ≠ q.1) E (fun j => j = i) (fun j => j = i ∨ j = k) (fun b => b = (ρ i).1 ∨ S i b) (fun b hb => ⟨i, _, rfl, hi, hb.imp (fun h => ⟨rfl, h⟩) id⟩) (fun b hb => ?_) (fun j hj => ?_) (fun j d hj hA => ?_) (fun j d hj hA => ?_) (fun j d l f hj hA hl hB hne => ?_)
  · rcases hb with rfl | hb
    · exact hmay
    · exact (E.mine i _ b hi hb).2.2
  · obtain ⟨hf, _⟩ := H.base j hj
    exact ⟨fil j hf, hag j hf⟩
  · rcases get j d hj with ⟨rfl, _⟩ | ⟨rfl, _⟩ | ⟨h1, h2, h3⟩
    · exact absurd (.inr rfl) hA
    · exact absurd (.inl rfl) hA
    · exact ⟨h1, ρo j h2, h3, fun l _ x hx => hx.more hag fil⟩
  · rcases get j d hj with ⟨rfl, rfl⟩ | ⟨rfl, rfl⟩ | ⟨h1, h2, _⟩
    · refine ⟨by rw [ρk]; exact .inr hS, fun l hl => ?_, fun _ l hl => ?_, ?_, fun b hb => absurd hb.1 (Ne.symm hik)⟩
      · rw [hen] at hl
        rw [ρk]
        exact ⟨_, (FO.cell _ qF l hl).1, by rw [hef l hl]; exact Den1.plain (hpl l hl)⟩
      · rw [hen] at hl
        rw [ρk]
        exact (FO.cell _ qF l hl).2
      · rw [hex]
        exact ⟨ρk, fun b hb => hik hb.1.symm⟩
    · refine ⟨by rw [ρo j hik]; exact .inl rfl, fun l hl => ?_, fun _ l hl => ?_, ?_, fun b hb => ⟨.inr hb.2.1, ?_⟩⟩
      · rw [ρo j hik]
        obtain ⟨x, hx, hd⟩ := H.cell j _ hi l hl
        exact ⟨x, hx, hd.more hag fil⟩
      · rw [ρo j hik]
        exact (H.own j _ hi rfl l hl).1
      · show FamOK n enc F' (fun b => j = j ∧ S j b ∧ b ≠ q.1) w
        refine ⟨fun b => ⟨fun hb => ?_, fun ⟨x, hx, hb⟩ => ⟨rfl, (FO.dom b).2 ⟨x, (memF x).2 (by simp [hx]), hb⟩, fun e => ndF.1 (by rw [← e, ← hb]; exact List.mem_map.2 ⟨x, hx, rfl⟩)⟩⟩, ndF.2, fun x hx => FO.cell x ((memF x).2 (by simp [hx]))⟩
        obtain ⟨x, hx, hxb⟩ := (FO.dom b).1 hb.2.1
        rcases List.mem_cons.1 ((memF x).1 hx) with rfl | hx
        · exact absurd hxb.symm hb.2.2
        · exact ⟨x, hx, hxb⟩
      · rw [ρo j hik]
        exact (E.mine j _ b hi hb.2.1).1
    · exact absurd hA (by rintro (rfl | rfl) <;> contradiction)
  · have two : ∀ x, (x = i ∨ x = k) → (x = i ∧ ρ' x = ρ i) ∨ (x = k ∧ ρ' x = q) := fun x hx => by
      rcases hx with rfl | rfl
      · exact .inl ⟨rfl, ρo _ hik⟩
      · exact .inr ⟨rfl, ρk⟩
    rcases two j hA with ⟨rfl, e1⟩ | ⟨rfl, e1⟩ <;> rcases two l hB with ⟨rfl, e2⟩ | ⟨rfl, e2⟩
    · exact absurd rfl hne
    · exact ⟨fun _ => by rw [e1, e2]; exact fun e => qne e.symm, fun b hb => ⟨by rw [e2]; exact fun e => hb.2.2 e.symm, fun h => hik h.1.symm⟩⟩
    · exact ⟨fun _ => by rw [e1, e2]; exact qne, fun b hb => absurd hb.1 (Ne.symm hik)⟩
    · exact absurd rfl hne
theorem HOK.famIn {α : Type} {X : Ctx} {ρ : Nat → Nat × Nat} {h : List (Option Chunk)} {w : World} {i k n : Nat} {m : Nat} {ps : List (Nat × Nat × Value)} {enc : α → Nat → Value} {F : List ((Nat × Nat) × α)} {q : Nat × Nat} {a : α} {e : Chunk}
    (H : HOK X ρ h w) (hm : 0 < m) (hn : 0 < n) (hi : h[i]? = some (some (@Chunk.mk (famX n enc F) true m ps))) (hk : h[k]? = some (some e)) (hik : i ≠ k) (hkb : X.n0 ≤ k) (hmay : May X (ρ i).1) (hmk : May X (ρ k).1) (hex : e.x = atX q) (heo : e.own = true) (hen : n ≤ e.n) (hef : ∀ j, j < n → e.f j = enc a j) (hpl : ∀ j, j < n → plain1 (enc a j) = true)
    (hsc : ∀ (l : Nat) (d : Chunk), l ≠ k → h[l]? = some (some d) → ∀ j, j < d.n → ∀ ρ ρ', (∀ l, l ≠ k → ρ' l = ρ l) → den1 ρ' (d.f j) = den1 ρ (d.f j)) :
    HOK X ρ ((h.set i (some (@Chunk.mk (famX n enc ((q, a) :: F)) true m ps))).set k none) w := by
  obtain ⟨S, E⟩ := H.ext
  have hil := (List.getElem?_eq_some_iff.1 hi).1
  have hkl := (List.getElem?_eq_some_iff.1 hk).1
  have FO : FamOK n enc F (S i) w := E.inv i _ hi
  obtain ⟨ρk, Sk⟩ : ρ k = q ∧ ∀ b, ¬ S k b := by have := E.inv k e hk; rw [hex] at this; exact this
  let hh := (h.set i (some (@Chunk.mk (famX n enc ((q, a) :: F)) true m ps))).set k none
  have get : ∀ j d, hh[j]? = some (some d) → (j = i ∧ d = @Chunk.mk (famX n enc ((q, a) :: F)) true m ps) ∨ (j ≠ i ∧ j ≠ k ∧ h[j]? = some (some d)) := fun j d hj => by
    by_cases ej : k = j
    · subst ej
      rw [List.getElem?_set_self (by simpa using hkl)] at hj
      cases hj
    · rw [List.getElem?_set_ne ej] at hj
      by_cases ei : i = j
      · subst ei
        rw [List.getElem?_set_self hil] at hj
        exact .inl ⟨rfl, by simpa using hj.symm⟩
      · rw [List.getElem?_set_ne ei] at hj
        exact .inr ⟨fun e => ei e.symm, fun e => ej e.symm, hj⟩
  have fil : ∀ j, j ≠ k → Fil h j → Fil hh j := fun j hjk hj => by
    obtain ⟨d, hd⟩ := hj
    by_cases ei : i = j
    · exact ⟨_, by subst ei; rw [List.getElem?_set_ne (Ne.symm hjk), List.getElem?_set_self hil]⟩
    · exact ⟨d, by rw [List.getElem?_set_ne (Ne.symm hjk), List.getElem?_set_ne ei]; exact hd⟩
  have qS : ¬ S i q.1 := fun hs => by
    have := (E.apart i _ _ k e hi hs hk (Ne.symm hik)).1
    rw [ρk] at this; exact this rfl
  have qi : q.1 ≠ (ρ i).1 := by
    have := H.sep k e i _ hk heo hi (Ne.symm hik)
    rw [ρk] at this; exact this
  have less : ∀ l d, l ≠ k → h[l]? = some (some d) → ∀ j, j < d.n → ∀ x, Den1 (Fil h) ρ (d.f j) x → Den1 (Fil hh) ρ (d.f j) x := fun l d hlk hd j hj x hx r hr => by
    let r' : Nat → Nat × Nat := fun i => if i = k then ρ k else if filB h i then r i else ρ i
    have e1 : den1 r' (d.f j) = x := hx r' fun i hf => by
      show (if i = k then ρ k else if filB h i then r i else ρ i) = ρ i
      by_cases ek : i = k
      · rw [if_pos ek, ek]
      · rw [if_neg ek, if_pos (filB_iff.2 hf)]
        exact hr i (fil i ek hf)
    let r2 : Nat → Nat × Nat := fun i => if i = k then r k else r' i
    have e2 : den1 r2 (d.f j) = den1 r' (d.f j) := hsc l d hlk hd j hj r' r2 fun i hi => if_neg hi
    have e3 : den1 r2 (d.f j) = x := e2.trans e1
    let r3 : Nat → Nat × Nat := fun i => if i = k then ρ k else r i
    have e4 : den1 r3 (d.f j) = den1 r (d.f j) := hsc l d hlk hd j hj r r3 fun i hi => if_neg hi
    have e5 : den1 r3 (d.f j) = x := hx r3 fun i hf => by
      show (if i = k then ρ k else r i) = ρ i
      by_cases ek : i = k
      · rw [if_pos ek, ek]
      · rw [if_neg ek]; exact hr i (fil i ek hf)
    exact e4.symm.trans e5
  refine H.redo (T := fun j b => j = i ∧ (S i b ∨ b = q.1)) E (fun j => j = i ∨ j = k) (fun j => j = i) (fun b => b = (ρ i).1 ∨ b = q.1 ∨ S i b) (fun b hb => ?_) (fun b hb => ?_) (fun j hj => ?_) (fun j d hj hA => ?_) (fun j d hj hA => ?_) (fun j d l f hj hA hl hB hne => absurd (hA.trans hB.symm) hne)
  · rcases hb with hb | hb | hb
    · exact ⟨i, _, .inl rfl, hi, .inl ⟨rfl, hb⟩⟩
    · exact ⟨k, e, .inr rfl, hk, .inl ⟨heo, by rw [ρk]; exact hb⟩⟩
    · exact ⟨i, _, .inl rfl, hi, .inr hb⟩
  · rcases hb with rfl | rfl | hb
    · exact hmay
    · rw [ρk] at hmk; exact hmk
    · exact (E.mine i _ b hi hb).2.2
  · exact ⟨fil j (by omega) (H.base j hj).1, rfl⟩
  · rcases get j d hj with ⟨rfl, _⟩ | ⟨h1, h2, h3⟩
    · exact absurd rfl hA
    · exact ⟨fun h => by rcases h with h | h; exact h1 h; exact h2 h, rfl, h3, fun l hl x hx => less j d h2 h3 l hl x hx⟩
  · rcases get j d hj with ⟨rfl, rfl⟩ | ⟨h1, _⟩
    · refine ⟨.inl rfl, fun l hl => ?_, fun _ l hl => (H.own j _ hi rfl l hl).1, ?_, fun b hb => ⟨?_, ?_⟩⟩
      · obtain ⟨x, hx, hd⟩ := H.cell j _ hi l hl
        exact ⟨x, hx, less j _ hik hi l hl x hd⟩
      · show FamOK n enc ((q, a) :: F) (fun b => j = j ∧ (S j b ∨ b = q.1)) w
        refine ⟨fun b => ⟨fun hb => ?_, fun ⟨x, hx, hb⟩ => ⟨rfl, ?_⟩⟩, ?_, fun x hx l hl => ?_⟩
        · rcases hb.2 with hb | hb
          · obtain ⟨x, hx, hxb⟩ := (FO.dom b).1 hb
            exact ⟨x, List.mem_cons_of_mem _ hx, hxb⟩
          · exact ⟨(q, a), by simp, hb.symm⟩
        · rcases List.mem_cons.1 hx with rfl | hx
          · exact .inr hb.symm
          · exact .inl ((FO.dom b).2 ⟨x, hx, hb⟩)
        · simp only [List.map_cons, List.nodup_cons]
          refine ⟨fun hmem => ?_, FO.nodup⟩
          obtain ⟨x, hx, hxb⟩ := List.mem_map.1 hmem
          exact qS ((FO.dom _).2 ⟨x, hx, hxb⟩)
        · rcases List.mem_cons.1 hx with rfl | hx
          · obtain ⟨y, hy, hdy⟩ := H.cell k e hk l (Nat.lt_of_lt_of_le hl hen)
            rw [hef l hl] at hdy
            have := den1_any (hpl l hl) hdy
            subst this
            rw [ρk] at hy
            have h2 := (H.own k e hk heo l (Nat.lt_of_lt_of_le hl hen)).1
            rw [ρk] at h2
            exact ⟨hy, h2⟩
          · exact FO.cell x hx l hl
      · rcases hb.2 with hb | hb
        · exact .inr (.inr hb)
        · exact .inr (.inl hb)
      · rcases hb.2 with hb | rfl
        · exact (E.mine j _ b hi hb).1
        · exact .inr qi
    · exact absurd hA h1
inductive AtRe (q : Nat × Nat) (k : Nat) : Value → Value → Prop
  | same (v : Value) : AtRe q k v v
  | ptr {s : Nat} : AtRe q k (realP q) (.pointer (some ⟨k, 0, some s⟩))
theorem all2_at {F : Nat → Prop} {ρ : Nat → Nat × Nat} {q : Nat × Nat} {k : Nat} (hF : F k) (hρ : ρ k = q) : ∀ {vs vs' xs : List Value}, All2 (AtRe q k) vs vs' → All2 (Den F ρ) vs xs → All2 (Den F ρ) vs' xs
  | [], [], xs, _, h => h
  | [], _ :: _, _, h, _ => h.elim
  | _ :: _, [], _, h, _ => h.elim
  | _ :: _, _ :: _, [], _, h => h.elim
  | v :: vs, v' :: vs', x :: xs, h, h' => by
    refine ⟨?_, all2_at hF hρ h.2 h'.2⟩
    have h1 := h.1
    cases h1 with
    | same => exact h'.1
    | ptr =>
      intro r hr
      have e1 : x = realP q := h'.1.self.symm.trans realP_den
      have e2 : r k = q := (hr k hF).trans hρ
      rw [e1]
      simp [den, den2, den1, den0, denA, e2, realP]
theorem call_at {P : Program} {g : FuncId} {vs : List Value} {h : List (Option Chunk)} {v : Value} {ms : List (Nat × Chunk)} {rh : List Nat} {q : Nat × Nat} {k : Nat} {c : Chunk} (vs' : List Value) (hk : h[k]? = some (some c)) (hx : c.x = atX q) (hvs : All2 (AtRe q k) vs vs') (hin : k ∈ rh ∨ ∃ d, (k, d) ∈ ms) (hc : CallOK P g vs' h v ms rh) : CallOK P g vs h v ms rh :=
  fun h₂ hr hm X ρ w xs H hxs => by
    have hk2 : h₂[k]? = some (some c) := by
      rcases hin with h1 | ⟨d, h1⟩
      · exact (hr k h1).trans hk
      · exact (hm _ h1).trans hk
    obtain ⟨S, E⟩ := H.ext
    have hρ : ρ k = q := by have := E.inv k c hk2; rw [hx] at this; exact this.1
    exact hc h₂ hr hm X ρ w xs H (all2_at ⟨c, hk2⟩ hρ hvs hxs)
theorem HOK.setX {X : Ctx} {ρ : Nat → Nat × Nat} {h : List (Option Chunk)} {w : World} {k n : Nat} {o : Bool} {ps : List (Nat × Nat × Value)} (H : HOK X ρ h w) (hk : h[k]? = some (some (@Chunk.mk Ext.none o n ps))) (y : Ext) (hy : ∀ S, (∀ b, ¬ S b) → y.inv (ρ k) S w) : HOK X ρ (h.set k (some (@Chunk.mk y o n ps))) w := by
  obtain ⟨S, E⟩ := H.ext
  have hkl := (List.getElem?_eq_some_iff.1 hk).1
  have get : ∀ j d, (h.set k (some (@Chunk.mk y o n ps)))[j]? = some (some d) → ∃ c : Chunk, h[j]? = some (some c) ∧ d.own = c.own ∧ d.n = c.n ∧ d.ps = c.ps ∧ (d.x = c.x ∨ (j = k ∧ d.x = y ∧ c.x = Ext.none)) := fun j d hj => by
    by_cases ej : k = j
    · subst ej
      rw [List.getElem?_set_self hkl] at hj
      obtain rfl : _ = d := by simpa using hj
      exact ⟨_, hk, rfl, rfl, rfl, .inr ⟨rfl, rfl, rfl⟩⟩
    · rw [List.getElem?_set_ne ej] at hj
      exact ⟨d, hj, rfl, rfl, rfl, .inl rfl⟩
  have fil : ∀ j, Fil h j → Fil (h.set k (some (@Chunk.mk y o n ps))) j := fun j hj => hj.set
  refine ⟨H.evo, fun i hi => ⟨fil i (H.base i hi).1, (H.base i hi).2⟩, fun j d hj => ?_, fun j d hj l hl => ?_, fun j d hj ho l hl => ?_, fun j d l f hj ho hl hne => ?_, S, fun j d hj => ?_, fun j d b hj hb => ?_, fun j d b l f hj hb hl hne => ?_⟩
  · obtain ⟨c, hc, _⟩ := get j d hj; exact H.lt j c hc
  · obtain ⟨c, hc, _, e2, e3, _⟩ := get j d hj
    obtain ⟨x, hx, hd⟩ := H.cell j c hc l (by omega)
    refine ⟨x, hx, ?_⟩
    have : d.f l = c.f l := by unfold Chunk.f; rw [e3]
    rw [this]; exact hd.more (AgreeOn.refl _ _) fil
  · obtain ⟨c, hc, e1, e2, _⟩ := get j d hj
    exact H.own j c hc (by rw [← e1]; exact ho) l (by omega)
  · obtain ⟨c, hc, e1, _⟩ := get j d hj
    obtain ⟨c2, hc2, _⟩ := get l f hl
    exact H.sep j c l c2 hc (by rw [← e1]; exact ho) hc2 hne
  · obtain ⟨c, hc, _, _, _, e⟩ := get j d hj
    rcases e with e | ⟨rfl, e, e'⟩
    · rw [e]; exact E.inv j c hc
    · have := E.inv j c hc
      rw [e'] at this
      rw [e]; exact hy _ this
  · obtain ⟨c, hc, _, e2, _⟩ := get j d hj
    rw [e2]; exact E.mine j c b hc hb
  · obtain ⟨c, hc, _⟩ := get j d hj
    obtain ⟨c2, hc2, _⟩ := get l f hl
    exact E.apart j c b l c2 hc hb hc2 hne
theorem HOK.mark {X : Ctx} {ρ : Nat → Nat × Nat} {h : List (Option Chunk)} {w : World} {k n : Nat} {o : Bool} {ps : List (Nat × Nat × Value)} (H : HOK X ρ h w) (hk : h[k]? = some (some (@Chunk.mk Ext.none o n ps))) : HOK X ρ (h.set k (some (@Chunk.mk (atX (ρ k)) o n ps))) w :=
  H.setX hk _ fun S hS => ⟨rfl, hS⟩
theorem HOK.famNil {α : Type} {X : Ctx} {ρ : Nat → Nat × Nat} {h : List (Option Chunk)} {w : World} {k n m : Nat} {o : Bool} {ps : List (Nat × Nat × Value)} {enc : α → Nat → Value} (H : HOK X ρ h w) (hk : h[k]? = some (some (@Chunk.mk Ext.none o n ps))) : HOK X ρ (h.set k (some (@Chunk.mk (famX m enc []) o n ps))) w :=
  H.setX hk _ fun S hS => ⟨fun b => ⟨fun hb => absurd hb (hS b), fun ⟨q, hq, _⟩ => by cases hq⟩, List.nodup_nil, fun q hq => by cases hq⟩
abbrev atZ : Ext where
  inv := fun p S _ => p.2 = 0 ∧ ∀ b, ¬ S b
  keep := fun h _ => h
theorem N_endFam {α : Type} {ss : List Piece} {h : List (Option Chunk)} {v : Value} {K : Value → List (Option Chunk) → Prop} {k n : Nat} {o : Bool} {ps : List (Nat × Nat × Value)} (m : Nat) (enc : α → Nat → Value) (hk : h[k]? = some (some (@Chunk.mk Ext.none o n ps))) (kk : N (EndN ss (h.set k (some (@Chunk.mk (famX m enc []) o n ps))) v K)) : N (EndN ss h v K) :=
  N.mk fun X ρ w x T H hd => N.out kk X ρ w x T (H.famNil hk) (hd.more (AgreeOn.refl _ _) fun j hj => hj.set)
theorem N_endMark {ss : List Piece} {h : List (Option Chunk)} {v : Value} {K : Value → List (Option Chunk) → Prop} {k n : Nat} {o : Bool} {ps : List (Nat × Nat × Value)} (v' : Nat × Nat → Value) (hk : h[k]? = some (some (@Chunk.mk Ext.none o n ps))) (hv : ∀ q ρ, ρ k = q → den ρ v = den ρ (v' q)) (kk : ∀ q, N (EndN ss (h.set k (some (@Chunk.mk (atX q) o n ps))) (v' q) K)) : N (EndN ss h v K) :=
  N.mk fun X ρ w x T H hd => N.out (kk (ρ k)) X ρ w x T (H.mark hk) (fun r hr => by
    have h1 : AgreeOn (Fil h) ρ r := fun i hi => hr i hi.set
    rw [← hv (ρ k) r (h1 k ⟨_, hk⟩)]
    exact hd r h1)
theorem N_endFamIn {α : Type} {ss : List Piece} {h : List (Option Chunk)} {v : Value} {K : Value → List (Option Chunk) → Prop} {i k n m : Nat} {ps : List (Nat × Nat × Value)} {enc : α → Nat → Value} {F : List ((Nat × Nat) × α)} {q : Nat × Nat} {e : Chunk} (a : α) (hm : 0 < m) (hn : 0 < n) (hi : h[i]? = some (some (@Chunk.mk (famX n enc F) true m ps))) (hk : h[k]? = some (some e)) (hik : i ≠ k) (hkb : ss.length ≤ k)
    (hib : i < ss.length → ∃ s, ss[i]? = some s ∧ s.e.x ≠ Ext.none ∧ Selfish s.e.x) (hex : e.x = atX q) (heo : e.own = true) (hen : n ≤ e.n) (hef : ∀ j, j < n → e.f j = enc a j) (hpl : ∀ j, j < n → plain1 (enc a j) = true)
    (hsc : ∀ (l : Nat) (d : Chunk), l ≠ k → h[l]? = some (some d) → ∀ j, j < d.n → ∀ ρ ρ', (∀ l, l ≠ k → ρ' l = ρ l) → den1 ρ' (d.f j) = den1 ρ (d.f j)) (hv : plain3 v = true)
    (kk : (∀ x ∈ F, x.1 ≠ q) → N (EndN ss ((h.set i (some (@Chunk.mk (famX n enc ((q, a) :: F)) true m ps))).set k none) v K)) : N (EndN ss h v K) :=
  N.mk fun X ρ w x T H hd => by
    have mi : May X (ρ i).1 := by
      by_cases hl : i < ss.length
      · obtain ⟨s, h1, h2, h3⟩ := hib hl
        exact T.mayX H h1 h2 h3
      · exact T.may H hi rfl hm (by omega)
    have mk : May X (ρ k).1 := T.may H hk heo (by omega) hkb
    have H2 := H.famIn hm hn hi hk hik (by rw [T.n0]; exact hkb) mi mk hex heo hen hef hpl hsc
    have hne : ∀ x ∈ F, x.1 ≠ q := fun y hy e' => by
      obtain ⟨S, E⟩ := H.ext
      have FO : FamOK n enc F (S i) w := E.inv i _ hi
      have hρ : ρ k = q := by have := E.inv k e hk; rw [hex] at this; exact this.1
      have := (E.apart i _ _ k e hi ((FO.dom _).2 ⟨y, hy, rfl⟩) hk (Ne.symm hik)).1
      rw [hρ, e'] at this; exact this rfl
    exact N.out (kk hne) X ρ w x T H2 (fun r hr => by rw [den_plain3 hv, ← hd.self, den_plain3 hv])
end Go.Proofs.YtimccfnlcnlffaaGreat.Sx


namespace Go.Proofs.YtimccfnlcnlffaaGreat
open Go Go.RowKit Sx
theorem bv_nat {a : Nat} (h : a < 18446744073709551616) : (BitVec.ofInt IntKind.u64.bits (a : Int)).toNat = a := by
  rw [BitVec.toNat_ofInt]
  show ((a : Int) % 18446744073709551616).toNat = a
  omega
theorem wrap_nat {a : Nat} (h : a < 18446744073709551616) : IntKind.u64.wrap ((a : Nat) : Int) = a := by
  rw [IntKind.wrap_u64]; omega
theorem or_u {a b : Nat} (ha : a < 18446744073709551616) (hb : b < 18446744073709551616) : IntKind.u64.wrap ((BitVec.ofInt IntKind.u64.bits (a : Int) ||| BitVec.ofInt IntKind.u64.bits (b : Int)).toNat : Nat) = ((a ||| b : Nat) : Int) := by
  rw [BitVec.toNat_or, bv_nat ha, bv_nat hb]
  exact wrap_nat (Nat.or_lt_two_pow (n := 64) ha hb)
theorem and_u {a b : Nat} (ha : a < 18446744073709551616) (hb : b < 18446744073709551616) : IntKind.u64.wrap ((BitVec.ofInt IntKind.u64.bits (a : Int) &&& BitVec.ofInt IntKind.u64.bits (b : Int)).toNat : Nat) = ((a &&& b : Nat) : Int) := by
  rw [BitVec.toNat_and, bv_nat ha, bv_nat hb]
  exact wrap_nat (Nat.lt_of_le_of_lt Nat.and_le_left ha)
theorem shl_u (a n : Nat) : IntKind.u64.wrap ((a : Int) * 2 ^ n) = ((a * 2 ^ n % 18446744073709551616 : Nat) : Int) := by
  rw [IntKind.wrap_u64]
  have : ((a : Int) * 2 ^ n) = ((a * 2 ^ n : Nat) : Int) := by rw [Int.natCast_mul, Int.natCast_pow]; rfl
  rw [this]; omega
abbrev noC : Chunk := ⟨false, 0, []⟩
abbrev wnC (o a : Bool) (l : Int) (s : Nat) : Chunk := ⟨o, 3, [(0, 3, .agg ⟨[.bool a, .int .i64 l, .int .u64 (s : Int)]⟩)]⟩
def bitW (l q : Int) : Nat := if -serD l q < 0 ∨ -serD l q ≥ 64 then 0 else 2 ^ (-serD l q).toNat
theorem bitW_lt (l q : Int) : bitW l q < 18446744073709551616 := by
  unfold bitW
  split
  · decide
  · have : (-serD l q).toNat < 64 := by omega
    exact Nat.pow_lt_pow_right (by decide) this
structure Win where
  any : Bool
  last : Int
  seen : Nat
def Win.zero : Win := ⟨false, 0, 0⟩
def whear (W : Win) (q : Int) : Int × Win :=
  if W.any = false then (0, ⟨true, q, 1⟩)
  else if serD W.last q = 32768 then (9, W)
  else if 0 < serD W.last q then (0, ⟨true, q, (W.seen * 2 ^ (serD W.last q).toNat % 18446744073709551616) ||| 1⟩)
  else if bitW W.last q = 0 ∨ W.seen &&& bitW W.last q ≠ 0 then (9, W)
  else (0, ⟨true, W.last, W.seen ||| bitW W.last q⟩)
abbrev winC (o : Bool) (W : Win) : Chunk := wnC o W.any W.last W.seen
abbrev winX (x : Ext) (W : Win) : Chunk := @Chunk.mk x true 3 [(0, 3, .agg ⟨[.bool W.any, .int .i64 W.last, .int .u64 (W.seen : Int)]⟩)]
theorem wx_re {ix : List (Nat × Nat)} {x y : Ext} {W : Win} : ChunkRe ix (winX x W) (winX y W) := fun j hj => by
  match j, hj with
  | 0, _ => exact .plain rfl
  | 1, _ => exact .plain rfl
  | 2, _ => exact .plain rfl
theorem wn_re {ix : List (Nat × Nat)} {o o' a : Bool} {l : Int} {s : Nat} : ChunkRe ix (wnC o a l s) (wnC o' a l s) := fun j hj => by
  match j, hj with
  | 0, _ => exact .plain rfl
  | 1, _ => exact .plain rfl
  | 2, _ => exact .plain rfl
theorem wx_wn {ix : List (Nat × Nat)} {x : Ext} {o a : Bool} {l : Int} {s : Nat} : ChunkRe ix (winX x ⟨a, l, s⟩) (wnC o a l s) := fun j hj => by
  match j, hj with
  | 0, _ => exact .plain rfl
  | 1, _ => exact .plain rfl
  | 2, _ => exact .plain rfl
theorem wn_post {ix : List (Nat × Nat)} {a : Bool} {l : Int} {s : Nat} {hp : List (Option Chunk)} {n : Nat} {c : Chunk} {x : Ext} (hh : hp[n]? = some (some c)) (ho : c.own = true) (hn : 3 ≤ c.n) (h0 : c.f 0 = .bool a) (h1 : c.f 1 = .int .i64 l) (h2 : c.f 2 = .int .u64 (s : Int)) : PostC ix hp n (winX x ⟨a, l, s⟩) :=
  ⟨_, hh, fun _ => ho, hn, fun j hj => by
    match j, hj with
    | 0, _ => rw [h0]; exact .plain rfl
    | 1, _ => rw [h1]; exact .plain rfl
    | 2, _ => rw [h2]; exact .plain rfl⟩
theorem cBehind (x : Ext) (W : Win) (q : Int) (i : Nat) (h : List (Option Chunk)) (hi : h[i]? = some (some (winX x W))) :
    CallOK Tryz.prog 40 [.pointer (some ⟨i, 0, some 0⟩), .int .i64 q] h (.int .u64 (bitW W.last q : Int)) [] [i] := by
  obtain ⟨a, l, s⟩ := W
  show CallOK _ _ _ h (.int .u64 (bitW l q : Int)) [] [i]
  refine call_sub (G := tys) [⟨i, _, wnC false a l s, noC⟩] [] [.pointer (some ⟨0, 0, some 0⟩), .int .i64 q] tysOK mixed Tryz.func40 (by rfl) (Tryz.call40) ⟨hi, trivial⟩ ⟨⟨fun h => (by cases h), Nat.le_refl _, wx_wn⟩, trivial⟩ (by simp [Apart]) trivial ⟨.ptr rfl, .plain rfl, trivial⟩ ?_
  have hd := serD_in l q
  have en : IntKind.i64.wrap (0 - serD l q) = -serD l q := by rw [IntKind.wrap_i64]; omega
  repeat' (refine N.go ?_; first | with_reducible (first | refine N.obl (by decide) ?_ | refine N.eq ?_ | refine N.obl rfl ?_ | refine N.obl ⟨by kernel_rfl, by kernel_rfl⟩ ?_ | refine N.alt ?_ | refine N.forkT ?_ | refine N.forkF ?_) | refine N.call (cSerDiff _ _ _) ?_ | with_reducible refine N.fork (fun hb => ?_) (fun hb => ?_) | refine N.obl (.plain rfl) ?_ | refine N.obl trivial ?_ | exact N.true | fail)
  · refine N.go ?_
    simp only [en, decide_eq_true_eq] at hb
    have e : bitW l q = 0 := by unfold bitW; rw [if_pos (by omega)]
    rw [e]
    repeat' (refine N.go ?_; first | with_reducible (first | refine N.obl (by decide) ?_ | refine N.eq ?_ | refine N.obl rfl ?_ | refine N.obl ⟨by kernel_rfl, by kernel_rfl⟩ ?_ | refine N.alt ?_ | refine N.forkT ?_ | refine N.forkF ?_) | refine N.call (cSerDiff _ _ _) ?_ | with_reducible refine N.fork (fun hb => ?_) (fun hb => ?_) | refine N.obl (.plain rfl) ?_ | refine N.obl trivial ?_ | exact N.true | fail)
  · refine N.go ?_
    rename_i hb1
    simp only [en, decide_eq_true_eq, decide_eq_false_iff_not] at hb hb1
    have e : bitW l q = 0 := by unfold bitW; rw [if_pos (by omega)]
    rw [e]
    repeat' (refine N.go ?_; first | with_reducible (first | refine N.obl (by decide) ?_ | refine N.eq ?_ | refine N.obl rfl ?_ | refine N.obl ⟨by kernel_rfl, by kernel_rfl⟩ ?_ | refine N.alt ?_ | refine N.forkT ?_ | refine N.forkF ?_) | refine N.call (cSerDiff _ _ _) ?_ | with_reducible refine N.fork (fun hb => ?_) (fun hb => ?_) | refine N.obl (.plain rfl) ?_ | refine N.obl trivial ?_ | exact N.true | fail)
  · refine N.go ?_
    rename_i hb1
    simp only [en, decide_eq_true_eq, decide_eq_false_iff_not] at hb hb1
    refine N.obl (by rw [en]; omega) ?_
    have e : IntKind.u64.wrap (1 * 2 ^ sh (IntKind.i64.wrap (0 - serD l q)) IntKind.u64) = (bitW l q : Int) := by
      rw [en]
      have e1 : sh (-serD l q) IntKind.u64 = (-serD l q).toNat := by show min (-serD l q).toNat 64 = _; omega
      have e2 : bitW l q = 2 ^ (-serD l q).toNat := by unfold bitW; rw [if_neg (by omega)]
      have e3 := shl_u 1 (-serD l q).toNat
      rw [e1]
      have hlt := bitW_lt l q
      rw [e2] at hlt ⊢
      rw [Nat.one_mul, Nat.mod_eq_of_lt hlt] at e3
      exact e3
    rw [e]
    repeat' (refine N.go ?_; first | with_reducible (first | refine N.obl (by decide) ?_ | refine N.eq ?_ | refine N.obl rfl ?_ | refine N.obl ⟨by kernel_rfl, by kernel_rfl⟩ ?_ | refine N.alt ?_ | refine N.forkT ?_ | refine N.forkF ?_) | refine N.call (cSerDiff _ _ _) ?_ | with_reducible refine N.fork (fun hb => ?_) (fun hb => ?_) | refine N.obl (.plain rfl) ?_ | refine N.obl trivial ?_ | exact N.true | fail)
theorem cWHear (x : Ext) (W W' : Win) (q e : Int) (i : Nat) (hs : W.seen < 18446744073709551616) (hq : serOK q) (he : whear W q = (e, W')) (h : List (Option Chunk)) (hi : h[i]? = some (some (winX x W))) :
    CallOK Tryz.prog 24 [.pointer (some ⟨i, 0, some 0⟩), .int .i64 q] h (.int .i64 e) [(i, winX x W')] [] := by
  refine call_res (G := tys) (fun _ : Unit => True) (fun _ => _) [⟨i, _, winX x W, winX x W'⟩] [] [.pointer (some ⟨0, 0, some 0⟩), .int .i64 q] tysOK mixed Tryz.func24 (by rfl) (Tryz.call24) ⟨hi, trivial⟩ ⟨⟨fun h => ⟨rfl, Nat.le_refl _⟩, Nat.le_refl _, wx_re⟩, trivial⟩ (by simp [Apart]) ⟨.inr ⟨rfl, rfl⟩, trivial⟩ trivial ⟨.ptr rfl, .plain rfl, trivial⟩ Opens.same ?_
  rintro ⟨⟩ -
  have hd := serD_in W.last q
  have hbw := bitW_lt W.last q
  repeat' (refine N.go ?_; first | with_reducible (first | refine N.obl (by decide) ?_ | refine N.eq ?_ | refine N.obl rfl ?_ | refine N.obl ⟨by kernel_rfl, by kernel_rfl⟩ ?_ | refine N.alt ?_ | refine N.forkT ?_ | refine N.forkF ?_) | refine N.forkNo (by simp only [decide_eq_true hq]; rfl) ?_ | refine N.call (cSerMay _ _) ?_ | refine N.call (cSerDiff _ _ _) ?_ | refine N.call (cBehind _ _ _ _ _ (by rfl)) ?_ | with_reducible refine N.fork (fun hb => ?_) (fun hb => ?_) | fail)
  · simp only [Bool.not_eq_eq_eq_not, Bool.not_true] at hb
    have e1 : whear W q = (0, ⟨true, q, 1⟩) := by unfold whear; rw [if_pos hb]
    rw [e1] at he
    obtain ⟨rfl, rfl⟩ := Prod.mk.inj he
    repeat' (refine N.go ?_; first | with_reducible (first | refine N.obl (by decide) ?_ | refine N.eq ?_ | refine N.obl rfl ?_ | refine N.obl ⟨by kernel_rfl, by kernel_rfl⟩ ?_ | refine N.alt ?_ | refine N.forkT ?_ | refine N.forkF ?_) | refine N.endSame ?_ | refine N.obl (.plain rfl) ?_ | refine N.obl ⟨wn_post (by rfl) rfl (Nat.le_refl _) (by rfl) (by rfl) (by rfl), trivial⟩ ?_ | refine N.obl trivial ?_ | refine N.obl ⟨⟨.inr ⟨_, rfl, rfl⟩, trivial⟩, trivial⟩ ?_ | exact N.true | fail)
  · rename_i hb1
    simp only [Bool.not_eq_eq_eq_not, Bool.not_false, beq_iff_eq] at hb hb1
    have e1 : whear W q = (9, W) := by unfold whear; rw [if_neg (by rw [hb1]; decide), if_pos hb]
    rw [e1] at he
    obtain ⟨rfl, rfl⟩ := Prod.mk.inj he
    repeat' (refine N.go ?_; first | with_reducible (first | refine N.obl (by decide) ?_ | refine N.eq ?_ | refine N.obl rfl ?_ | refine N.obl ⟨by kernel_rfl, by kernel_rfl⟩ ?_ | refine N.alt ?_ | refine N.forkT ?_ | refine N.forkF ?_) | refine N.endSame ?_ | refine N.obl (.plain rfl) ?_ | refine N.obl ⟨wn_post (by rfl) rfl (Nat.le_refl _) (by rfl) (by rfl) (by rfl), trivial⟩ ?_ | refine N.obl trivial ?_ | refine N.obl ⟨⟨.inr ⟨_, rfl, rfl⟩, trivial⟩, trivial⟩ ?_ | exact N.true | fail)
  · rename_i hb2 hb1
    simp only [Bool.not_eq_eq_eq_not, Bool.not_false, beq_iff_eq, beq_eq_false_iff_ne, decide_eq_true_eq, gt_iff_lt] at hb hb1 hb2
    have e1 : whear W q = (0, ⟨true, q, (W.seen * 2 ^ (serD W.last q).toNat % 18446744073709551616) ||| 1⟩) := by unfold whear; rw [if_neg (by rw [hb2]; decide), if_neg hb1, if_pos hb]
    rw [e1] at he
    obtain ⟨rfl, rfl⟩ := Prod.mk.inj he
    refine N.go ?_
    refine N.obl (by omega) ?_
    have e2 : IntKind.u64.wrap ((W.seen : Int) * 2 ^ sh (serD W.last q) IntKind.u64) = ((W.seen * 2 ^ (serD W.last q).toNat % 18446744073709551616 : Nat) : Int) := by
      rcases Int.le_total (serD W.last q) 64 with h64 | h64
      · have e3 : sh (serD W.last q) IntKind.u64 = (serD W.last q).toNat := by show min (serD W.last q).toNat 64 = _; omega
        rw [e3]; exact shl_u _ _
      · have e3 : sh (serD W.last q) IntKind.u64 = 64 := by show min (serD W.last q).toNat 64 = _; omega
        rw [e3, shl_u]
        have e4 : ∀ m : Nat, 64 ≤ m → W.seen * 2 ^ m % 18446744073709551616 = 0 := fun m hm => by
          obtain ⟨r, rfl⟩ := Nat.exists_eq_add_of_le hm
          rw [Nat.pow_add, show (2 : Nat) ^ 64 = 18446744073709551616 from by decide, ← Nat.mul_assoc, Nat.mul_right_comm]
          exact Nat.mul_mod_left _ _
        rw [e4 64 (Nat.le_refl _), e4 _ (by omega)]
    rw [e2]
    have e5 : IntKind.u64.wrap ((BitVec.ofInt IntKind.u64.bits ((W.seen * 2 ^ (serD W.last q).toNat % 18446744073709551616 : Nat) : Int) ||| BitVec.ofInt IntKind.u64.bits 1).toNat : Nat) = ((W.seen * 2 ^ (serD W.last q).toNat % 18446744073709551616 ||| 1 : Nat) : Int) := or_u (b := 1) (Nat.mod_lt _ (by decide)) (by decide)
    repeat' (refine N.go ?_; first | with_reducible (first | refine N.obl (by decide) ?_ | refine N.eq ?_ | refine N.obl rfl ?_ | refine N.obl ⟨by kernel_rfl, by kernel_rfl⟩ ?_ | refine N.alt ?_ | refine N.forkT ?_ | refine N.forkF ?_) | refine N.endSame ?_ | refine N.obl (.plain rfl) ?_ | refine N.obl ⟨wn_post (by rfl) rfl (Nat.le_refl _) (by exact congrArg Value.bool hb2) (by rfl) (by exact congrArg (Value.int IntKind.u64) e5), trivial⟩ ?_ | refine N.obl trivial ?_ | refine N.obl ⟨⟨.inr ⟨_, rfl, rfl⟩, trivial⟩, trivial⟩ ?_ | exact N.true | fail)
  · rename_i hb3 hb2 hb1
    simp only [Bool.not_eq_eq_eq_not, Bool.not_false, beq_iff_eq, beq_eq_false_iff_ne, decide_eq_true_eq, decide_eq_false_iff_not, gt_iff_lt] at hb hb1 hb2 hb3
    have hz : bitW W.last q = 0 := by omega
    have e1 : whear W q = (9, W) := by unfold whear; rw [if_neg (by rw [hb3]; decide), if_neg hb2, if_neg hb1, if_pos (.inl hz)]
    rw [e1] at he
    obtain ⟨rfl, rfl⟩ := Prod.mk.inj he
    repeat' (refine N.go ?_; first | with_reducible (first | refine N.obl (by decide) ?_ | refine N.eq ?_ | refine N.obl rfl ?_ | refine N.obl ⟨by kernel_rfl, by kernel_rfl⟩ ?_ | refine N.alt ?_ | refine N.forkT ?_ | refine N.forkF ?_) | refine N.endSame ?_ | refine N.obl (.plain rfl) ?_ | refine N.obl ⟨wn_post (by rfl) rfl (Nat.le_refl _) (by rfl) (by rfl) (by rfl), trivial⟩ ?_ | refine N.obl trivial ?_ | refine N.obl ⟨⟨.inr ⟨_, rfl, rfl⟩, trivial⟩, trivial⟩ ?_ | exact N.true | fail)
  · rename_i hb4 hb3 hb2 hb1
    simp only [Bool.not_eq_eq_eq_not, Bool.not_false, beq_iff_eq, beq_eq_false_iff_ne, decide_eq_true_eq, decide_eq_false_iff_not, gt_iff_lt, bne_iff_ne, ne_eq] at hb hb1 hb2 hb3 hb4
    rw [and_u hs hbw] at hb
    have e1 : whear W q = (9, W) := by unfold whear; rw [if_neg (by rw [hb4]; decide), if_neg hb3, if_neg hb2, if_pos (.inr (by omega))]
    rw [e1] at he
    obtain ⟨rfl, rfl⟩ := Prod.mk.inj he
    repeat' (refine N.go ?_; first | with_reducible (first | refine N.obl (by decide) ?_ | refine N.eq ?_ | refine N.obl rfl ?_ | refine N.obl ⟨by kernel_rfl, by kernel_rfl⟩ ?_ | refine N.alt ?_ | refine N.forkT ?_ | refine N.forkF ?_) | refine N.endSame ?_ | refine N.obl (.plain rfl) ?_ | refine N.obl ⟨wn_post (by rfl) rfl (Nat.le_refl _) (by rfl) (by rfl) (by rfl), trivial⟩ ?_ | refine N.obl trivial ?_ | refine N.obl ⟨⟨.inr ⟨_, rfl, rfl⟩, trivial⟩, trivial⟩ ?_ | exact N.true | fail)
  · rename_i hb4 hb3 hb2 hb1
    simp only [Bool.not_eq_eq_eq_not, Bool.not_false, beq_iff_eq, beq_eq_false_iff_ne, decide_eq_true_eq, decide_eq_false_iff_not, gt_iff_lt, bne_eq_false_iff_eq, ne_eq] at hb hb1 hb2 hb3 hb4
    rw [and_u hs hbw] at hb
    have e1 : whear W q = (0, ⟨true, W.last, W.seen ||| bitW W.last q⟩) := by unfold whear; rw [if_neg (by rw [hb4]; decide), if_neg hb3, if_neg hb2, if_neg (by omega)]
    rw [e1] at he
    obtain ⟨rfl, rfl⟩ := Prod.mk.inj he
    have e5 := or_u hs hbw
    repeat' (refine N.go ?_; first | with_reducible (first | refine N.obl (by decide) ?_ | refine N.eq ?_ | refine N.obl rfl ?_ | refine N.obl ⟨by kernel_rfl, by kernel_rfl⟩ ?_ | refine N.alt ?_ | refine N.forkT ?_ | refine N.forkF ?_) | refine N.endSame ?_ | refine N.obl (.plain rfl) ?_ | refine N.obl ⟨wn_post (by rfl) rfl (Nat.le_refl _) (by exact congrArg Value.bool hb4) (by rfl) (by exact congrArg (Value.int IntKind.u64) e5), trivial⟩ ?_ | refine N.obl trivial ?_ | refine N.obl ⟨⟨.inr ⟨_, rfl, rfl⟩, trivial⟩, trivial⟩ ?_ | exact N.true | fail)
end Go.Proofs.YtimccfnlcnlffaaGreat


namespace Go.Proofs.YtimccfnlcnlffaaGreat
open Go Go.RowKit Sx
structure Ent where
  node : Int
  boot : Int
  heard : Int
  has : Bool
  x : Int
  y : Int
  a : Int
  b : Int
  d : Int
  when_ : Int
def Ent.zero : Ent := ⟨0, 0, 0, false, 0, 0, 0, 0, 0, 0⟩
abbrev entV (e : Ent) : Value := .agg ⟨[.int .i64 e.node, .int .i64 e.boot, .int .i64 e.heard, .bool e.has, .int .i64 e.x, .int .i64 e.y, .int .i64 e.a, .int .i64 e.b, .int .i64 e.d, .int .i64 e.when_]⟩
structure LifR where
  boot : Int
  left : Bool
  q : Nat × Nat
abbrev lifV (l : LifR) : Value := .agg ⟨[.int .i64 l.boot, .bool l.left, realP l.q]⟩
structure Life where
  boot : Int
  left : Bool
  W : Win
structure Tbl where
  most : Int
  E : List (Int × Ent)
  lives : Int → Option Life
def winF (W : Win) (j : Nat) : Value := match j with
  | 0 => .bool W.any
  | 1 => .int .i64 W.last
  | _ => .int .u64 (W.seen : Int)
structure LB where
  D : List (Int × LifR)
  F : List ((Nat × Nat) × Win)
def livesOK (lv : Int → Option Life) (β : LB) : Prop :=
  (∀ n, dGet β.D n = none → lv n = none) ∧ (∀ n r, dGet β.D n = some r → ∃ W, (r.q, W) ∈ β.F ∧ lv n = some ⟨r.boot, r.left, W⟩) ∧
  ∀ n m r s, dGet β.D n = some r → dGet β.D m = some s → r.q = s.q → n = m
abbrev mainC (F : List ((Nat × Nat) × Win)) (most : Int) : Chunk := @Chunk.mk (famX 3 winF F) true 3 [(0, 3, .agg ⟨[.int .i64 most, .map (some 1), .map (some 2)]⟩)]
abbrev tblH (T : Tbl) (β : LB) : List (Option Chunk) := [some (mainC β.F T.most), some (mapC entV T.E), some (mapC lifV β.D)]
abbrev tblC (T : Tbl) : Chunk := packC (livesOK T.lives) (tblH T)
def Tbl.new (most : Int) : Tbl := ⟨max 1 (min most 64), [], fun _ => none⟩
theorem main_re {ix : List (Nat × Nat)} {F : List ((Nat × Nat) × Win)} {most : Int} {c : Chunk} {i j : Nat} (h0 : c.f 0 = .int .i64 most) (h1 : c.f 1 = .map (some i)) (h2 : c.f 2 = .map (some j)) (hi : ixK ix 1 = some i) (hj : ixK ix 2 = some j) : ∀ l, l < 3 → Re1 ix (c.f l) ((mainC F most).f l) := fun l hl => by
  match l, hl with
  | 0, _ => rw [h0]; exact .plain rfl
  | 1, _ => rw [h1]; exact .map hi
  | 2, _ => rw [h2]; exact .map hj
theorem tblClose {ss : List Piece} {h : List (Option Chunk)} {v : Value} {K : Value → List (Option Chunk) → Prop} (T : Tbl) (β : LB) (m i j : Nat) (keep : List Nat) {c : Chunk} (hpc : ∀ l, (l = m ∨ l = i ∨ l = j) → l < ss.length → ∃ s, ss[l]? = some s ∧ s.e.x ≠ Ext.none ∧ Selfish s.e.x) (hbs : ∀ i, i < ss.length → i = m ∨ i ∈ keep) (hok : livesOK T.lives β)
    (hm : h[m]? = some (some c)) (ho : c.own = true) (hn : c.n = 3) (hx : c.x = famX 3 winF β.F) (h0 : c.f 0 = .int .i64 T.most) (h1 : c.f 1 = .map (some i)) (h2 : c.f 2 = .map (some j)) (hi : h[i]? = some (some (mapC entV T.E))) (hj : h[j]? = some (some (mapC lifV β.D))) (hd : m ≠ i ∧ m ≠ j ∧ i ≠ j)
    (hkk : ∀ k ∈ keep, k ≠ m ∧ k ≠ i ∧ k ≠ j) (hkd : ∀ k ∈ keep, ∀ (d : Chunk), h[k]? = some (some d) → ∀ l, l < d.n → Safe1 (closeH (tblC T) m keep h 0) (d.f l))
    (hv : ∀ ρ ρ', AgreeOn (Fil (closeH (tblC T) m keep h 0)) ρ ρ' → den ρ' v = den ρ v) (kk : K v (closeH (tblC T) m keep h 0)) : N (EndN ss h v K) := by
  refine closeN (ok := livesOK T.lives) (hB := tblH T) β m [(0, m), (1, i), (2, j)] keep (fun k l hk hl => hpc l ?_ hl) hbs hok rfl ⟨_, rfl⟩ ?_ rfl ?_ (fun k hk l i' hm' => ?_) hkd hv (List.getElem?_eq_some_iff.1 hm).1 kk
  · simp only [List.mem_cons, Prod.mk.injEq, List.not_mem_nil, or_false] at hk
    omega
  · have nb : ∀ a b : Nat, a ≠ b → Nat.beq a b = false := fun a b hab => by
      cases e : Nat.beq a b with
      | false => rfl
      | true => exact absurd (Nat.eq_of_beq_eq_true e) hab
    simp only [ixOne, List.all_cons, List.all_nil, nb _ _ hd.1.symm, nb _ _ hd.2.1.symm, nb _ _ hd.2.2.symm]
    rfl
  · intro k d hk
    match k, hk with
    | 0, hk =>
      obtain rfl : _ = d := by simpa using hk
      exact ⟨m, c, rfl, hm, ho, by rw [hn]; exact Nat.le_refl _, main_re h0 h1 h2 rfl rfl, .inr hx.symm, .inl (by omega)⟩
    | 1, hk =>
      obtain rfl : _ = d := by simpa using hk
      exact ⟨i, _, rfl, hi, rfl, Nat.le_refl _, fun j hj => absurd hj (Nat.not_lt_zero j), .inr rfl, .inr mapX_selfish⟩
    | 2, hk =>
      obtain rfl : _ = d := by simpa using hk
      exact ⟨j, _, rfl, hj, rfl, Nat.le_refl _, fun j hj => absurd hj (Nat.not_lt_zero j), .inr rfl, .inr mapX_selfish⟩
    | k + 3, hk => simp at hk
  · have := hkk k hk
    simp only [List.mem_cons, Prod.mk.injEq, List.not_mem_nil, or_false] at hm'
    omega
theorem livesNew : livesOK (fun _ => none) ⟨[], []⟩ := ⟨fun _ _ => rfl, fun _ _ h => by simp [dGet] at h, fun _ _ _ _ h => by simp [dGet] at h⟩
theorem plain_sc {v : Value} (h : plain3 v = true) {F : Nat → Prop} : ∀ ρ ρ', AgreeOn F ρ ρ' → den ρ' v = den ρ v := fun ρ ρ' _ => by rw [den_plain3 h, den_plain3 h]
theorem tblC_ne (T : Tbl) : (tblC T).x ≠ Ext.none := fun e => by
  have h1 : ∀ p S w, (tblC T).x.inv p S w → S p.1 := packX_selfish
  rw [e] at h1
  exact (h1 (0, 0) (fun _ => False) default fun _ h => h).elim
theorem tbl_piece {i : Nat} {T T' : Tbl} : ∀ l, (l = 0 ∨ l = 1 ∨ l = 2) → l < [(⟨i, tblC T, tblC T, tblC T'⟩ : Piece)].length → ∃ s, [(⟨i, tblC T, tblC T, tblC T'⟩ : Piece)][l]? = some s ∧ s.e.x ≠ Ext.none ∧ Selfish s.e.x := fun l _ hl => by
  obtain rfl : l = 0 := by simpa using hl
  exact ⟨_, rfl, tblC_ne T, packX_selfish⟩
theorem safe0 {h : List (Option Chunk)} {T : Tbl} {m : Nat} : ∀ k ∈ ([] : List Nat), ∀ (d : Chunk), h[k]? = some (some d) → ∀ l, l < d.n → Safe1 (closeH (tblC T) m [] h 0) (d.f l) := fun k hk => by cases hk
theorem cNewT (most : Int) (k : Nat) (h : List (Option Chunk)) (hk : h[k]? = some none) :
    CallOK Tryz.prog 4 [.int .i64 most] h (.pointer (some ⟨k, 0, some 0⟩)) [(k, tblC (Tbl.new most))] [] := by
  refine call_res (G := tys) (fun _ : Unit => True) (fun _ => []) [] [⟨k, 10, tblC (Tbl.new most)⟩] [.int .i64 most] tysOK mixed Tryz.func4 (by rfl) (Tryz.call4) trivial trivial trivial trivial ⟨⟨hk, rfl, .inr packX_selfish, by simp⟩, trivial⟩ ⟨.plain rfl, trivial⟩ Opens.same ?_
  rintro ⟨⟩ -
  repeat' (refine N.go ?_; first | with_reducible (first | refine N.obl (by decide) ?_ | refine N.eq ?_ | refine N.obl rfl ?_ | refine N.obl ⟨by kernel_rfl, by kernel_rfl⟩ ?_ | refine N.alt ?_ | refine N.forkT ?_ | refine N.forkF ?_ | refine N.min2 ?_ | refine N.max2 ?_) | fail)
  refine N.go ?_
  refine N_mkMap entV ?_
  repeat' (refine N.go ?_; first | with_reducible (first | refine N.obl (by decide) ?_ | refine N.eq ?_ | refine N.obl rfl ?_ | refine N.obl ⟨by kernel_rfl, by kernel_rfl⟩ ?_ | refine N.alt ?_ | refine N.forkT ?_ | refine N.forkF ?_ | refine N.min2 ?_ | refine N.max2 ?_) | fail)
  refine N.go ?_
  refine N_mkMap lifV ?_
  repeat' (refine N.go ?_; first | with_reducible (first | refine N.obl (by decide) ?_ | refine N.eq ?_ | refine N.obl rfl ?_ | refine N.obl ⟨by kernel_rfl, by kernel_rfl⟩ ?_ | refine N.alt ?_ | refine N.forkT ?_ | refine N.forkF ?_ | refine N.min2 ?_ | refine N.max2 ?_) | fail)
  refine N.go ?_
  refine N_endFam 3 winF (k := 10) (by rfl) ?_
  refine tblClose (Tbl.new most) ⟨[], []⟩ 10 8 9 [] (fun _ _ hl => absurd hl (by simp)) (fun i hi => absurd hi (by simp)) livesNew (by rfl) (by rfl) (by rfl) (by rfl) (by rfl) (by rfl) (by rfl) (by rfl) (by rfl) (by decide) (fun k hk => by cases hk) safe0 (fun ρ ρ' ha => by have := ha 10 ⟨_, rfl⟩; simp [den, den2, den1, den0, denA, this]) ?_
  refine N.obl (.one (.ptr rfl)) ?_
  refine N.obl trivial ?_
  refine N.obl ⟨⟨Nat.zero_le _, _, rfl, id, Nat.le_refl _, fun j hj => absurd hj (Nat.not_lt_zero j)⟩, trivial⟩ ?_
  refine N.obl ⟨trivial, .inr ⟨_, rfl, rfl⟩, trivial⟩ ?_
  exact N.true
end Go.Proofs.YtimccfnlcnlffaaGreat


namespace Go.Proofs
open Go.Shelf
def Tryz.keysA_ren : Go.Shelf.Ren := ⟨fun | 7 => 36 | 10 => 57 | n => n, fun | 23 => 58 | 26 => 3 | 3 => 42 | 28 => 77 | 0 => 0 | 27 => 76 | 33 => 37 | 4 => 4 | n => n, fun | n => n⟩
theorem Tryz.keysA : Go.Proofs.SlLaysZI.n7 Tryz.prog Tryz.keysA_ren := {
  mixed := by kernel_rfl
  f7 := ⟨Tryz.f36.name, by decide, Tryz.func36.trans (congrArg some (by kernel_rfl))⟩
  f10 := ⟨Tryz.f57.name, by decide, Tryz.func57.trans (congrArg some (by kernel_rfl))⟩
  t0 := Tryz.underlying0
  a0 := Tryz.isAgg0
  z0 := Tryz.sizeOf0
  v0 := Tryz.zeroValue0
  t4 := Tryz.underlying4
  a4 := Tryz.isAgg4
  z4 := Tryz.sizeOf4
  v4 := Tryz.zeroValue4
  t23 := Tryz.underlying58
  a23 := Tryz.isAgg58
  z23 := Tryz.sizeOf58
  v23 := Tryz.zeroValue58
  t26 := Tryz.underlying3
  a26 := Tryz.isAgg3
  z26 := Tryz.sizeOf3
  v26 := Tryz.zeroValue3
  t27 := Tryz.underlying76
  a27 := Tryz.isAgg76
  z27 := Tryz.sizeOf76
  v27 := Tryz.zeroValue76
  t28 := Tryz.underlying77
  a28 := Tryz.isAgg77
  z28 := Tryz.sizeOf77
  v28 := Tryz.zeroValue77
  t33 := Tryz.underlying37
  a33 := Tryz.isAgg37
  z33 := Tryz.sizeOf37
  v33 := Tryz.zeroValue37 }
def Tryz.sortedA_ren : Go.Shelf.Ren := ⟨fun | 6 => 35 | 8 => 55 | 9 => 56 | 11 => 65 | 13 => 67 | 12 => 66 | 23 => 82 | 24 => 83 | 14 => 73 | 15 => 74 | 16 => 75 | 17 => 76 | 18 => 77 | 19 => 78 | 20 => 79 | 21 => 80 | 22 => 81 | 25 => 96 | 26 => 97 | 27 => 98 | 28 => 99 | 29 => 100 | 30 => 59 | 31 => 108 | n => n, fun | 26 => 3 | 28 => 77 | 24 => 39 | 0 => 0 | 3 => 3 | 37 => 112 | 48 => 116 | 50 => 81 | 4 => 4 | 40 => 119 | 39 => 118 | 45 => 123 | 5 => 5 | 9 => 9 | 51 => 139 | 55 => 143 | 57 => 151 | 58 => 152 | 33 => 37 | n => n, fun | n => n⟩
theorem Tryz.sortedA : Go.Proofs.SlLaysZI.n6 Tryz.prog Tryz.sortedA_ren := {
  mixed := by kernel_rfl
  f6 := ⟨Tryz.f35.name, by decide, Tryz.func35.trans (congrArg some (by kernel_rfl))⟩
  f8 := ⟨Tryz.f55.name, by decide, Tryz.func55.trans (congrArg some (by kernel_rfl))⟩
  f11 := ⟨Tryz.f65.name, by decide, Tryz.func65.trans (congrArg some (by kernel_rfl))⟩
  t0 := Tryz.underlying0
  a0 := Tryz.isAgg0
  z0 := Tryz.sizeOf0
  v0 := Tryz.zeroValue0
  t24 := Tryz.underlying39
  a24 := Tryz.isAgg39
  z24 := Tryz.sizeOf39
  v24 := Tryz.zeroValue39
  t26 := Tryz.underlying3
  a26 := Tryz.isAgg3
  z26 := Tryz.sizeOf3
  v26 := Tryz.zeroValue3
  t28 := Tryz.underlying77
  a28 := Tryz.isAgg77
  z28 := Tryz.sizeOf77
  v28 := Tryz.zeroValue77
  i26 := by kernel_rfl }
def Tryz.sortA_ren : Go.Shelf.Ren := ⟨fun | 5 => 56 | 8 => 67 | 7 => 66 | 19 => 82 | 20 => 83 | 10 => 73 | 11 => 74 | 12 => 75 | 13 => 76 | 14 => 77 | 15 => 78 | 16 => 79 | 17 => 80 | 18 => 81 | 30 => 96 | 31 => 97 | 32 => 98 | 33 => 99 | 34 => 100 | 35 => 59 | 40 => 108 | n => n, fun | 23 => 39 | 25 => 3 | 3 => 3 | 32 => 112 | 22 => 39 | 0 => 0 | 44 => 116 | 46 => 81 | 4 => 4 | 36 => 119 | 35 => 118 | 41 => 123 | 5 => 5 | 9 => 9 | 53 => 139 | 57 => 143 | 63 => 151 | 64 => 152 | n => n, fun | n => n⟩
theorem Tryz.sortA : Go.Proofs.SlLaysM.n5 Tryz.prog Tryz.sortA_ren := {
  mixed := by kernel_rfl
  f5 := ⟨Tryz.f56.name, by decide, Tryz.func56.trans (congrArg some (by kernel_rfl))⟩
  f7 := ⟨Tryz.f66.name, by decide, Tryz.func66.trans (congrArg some (by kernel_rfl))⟩
  f8 := Tryz.func67.trans (congrArg some (by kernel_rfl))
  f10 := ⟨Tryz.f73.name, by decide, Tryz.func73.trans (congrArg some (by kernel_rfl))⟩
  f11 := ⟨Tryz.f74.name, by decide, Tryz.func74.trans (congrArg some (by kernel_rfl))⟩
  f12 := ⟨Tryz.f75.name, by decide, Tryz.func75.trans (congrArg some (by kernel_rfl))⟩
  f13 := ⟨Tryz.f76.name, by decide, Tryz.func76.trans (congrArg some (by kernel_rfl))⟩
  f14 := ⟨Tryz.f77.name, by decide, Tryz.func77.trans (congrArg some (by kernel_rfl))⟩
  f15 := ⟨Tryz.f78.name, by decide, Tryz.func78.trans (congrArg some (by kernel_rfl))⟩
  f16 := ⟨Tryz.f79.name, by decide, Tryz.func79.trans (congrArg some (by kernel_rfl))⟩
  f17 := ⟨Tryz.f80.name, by decide, Tryz.func80.trans (congrArg some (by kernel_rfl))⟩
  f18 := ⟨Tryz.f81.name, by decide, Tryz.func81.trans (congrArg some (by kernel_rfl))⟩
  f19 := Tryz.func82.trans (congrArg some (by kernel_rfl))
  f20 := Tryz.func83.trans (congrArg some (by kernel_rfl))
  f30 := ⟨Tryz.f96.name, by decide, Tryz.func96.trans (congrArg some (by kernel_rfl))⟩
  f31 := Tryz.func97.trans (congrArg some (by kernel_rfl))
  f32 := Tryz.func98.trans (congrArg some (by kernel_rfl))
  f33 := ⟨Tryz.f99.name, by decide, Tryz.func99.trans (congrArg some (by kernel_rfl))⟩
  f34 := ⟨Tryz.f100.name, by decide, Tryz.func100.trans (congrArg some (by kernel_rfl))⟩
  f35 := ⟨Tryz.f59.name, by decide, Tryz.func59.trans (congrArg some (by kernel_rfl))⟩
  f40 := ⟨Tryz.f108.name, by decide, Tryz.func108.trans (congrArg some (by kernel_rfl))⟩
  t0 := Tryz.underlying0
  a0 := Tryz.isAgg0
  z0 := Tryz.sizeOf0
  v0 := Tryz.zeroValue0
  t3 := Tryz.underlying3
  a3 := Tryz.isAgg3
  z3 := Tryz.sizeOf3
  v3 := Tryz.zeroValue3
  t4 := Tryz.underlying4
  a4 := Tryz.isAgg4
  z4 := Tryz.sizeOf4
  v4 := Tryz.zeroValue4
  t5 := Tryz.underlying5
  a5 := Tryz.isAgg5
  z5 := Tryz.sizeOf5
  v5 := Tryz.zeroValue5
  t9 := Tryz.underlying9
  a9 := Tryz.isAgg9
  z9 := Tryz.sizeOf9
  v9 := Tryz.zeroValue9
  t22 := Tryz.underlying39
  a22 := Tryz.isAgg39
  z22 := Tryz.sizeOf39
  v22 := Tryz.zeroValue39
  t23 := Tryz.underlying39
  a23 := Tryz.isAgg39
  z23 := Tryz.sizeOf39
  v23 := Tryz.zeroValue39
  t25 := Tryz.underlying3
  a25 := Tryz.isAgg3
  z25 := Tryz.sizeOf3
  v25 := Tryz.zeroValue3
  t32 := Tryz.underlying112
  a32 := Tryz.isAgg112
  z32 := Tryz.sizeOf112
  v32 := Tryz.zeroValue112
  t35 := Tryz.underlying118
  a35 := Tryz.isAgg118
  z35 := Tryz.sizeOf118
  v35 := Tryz.zeroValue118
  t36 := Tryz.underlying119
  a36 := Tryz.isAgg119
  z36 := Tryz.sizeOf119
  v36 := Tryz.zeroValue119
  t41 := Tryz.underlying123
  a41 := Tryz.isAgg123
  z41 := Tryz.sizeOf123
  v41 := Tryz.zeroValue123
  t44 := Tryz.underlying116
  a44 := Tryz.isAgg116
  z44 := Tryz.sizeOf116
  v44 := Tryz.zeroValue116
  t46 := Tryz.underlying81
  a46 := Tryz.isAgg81
  z46 := Tryz.sizeOf81
  v46 := Tryz.zeroValue81
  t53 := Tryz.underlying139
  a53 := Tryz.isAgg139
  z53 := Tryz.sizeOf139
  v53 := Tryz.zeroValue139
  t57 := Tryz.underlying143
  a57 := Tryz.isAgg143
  z57 := Tryz.sizeOf143
  v57 := Tryz.zeroValue143
  t63 := Tryz.underlying151
  a63 := Tryz.isAgg151
  z63 := Tryz.sizeOf151
  v63 := Tryz.zeroValue151
  t64 := Tryz.underlying152
  a64 := Tryz.isAgg152
  z64 := Tryz.sizeOf152
  v64 := Tryz.zeroValue152 }
end Go.Proofs


namespace Go.Proofs.YtimccfnlcnlffaaGreat
open Go Go.RowKit Sx
theorem HOK.newB {X : Ctx} {ρ : Nat → Nat × Nat} {h : List (Option Chunk)} {w w' : World} {i g : Nat} {d : Chunk} (H : HOK X ρ h w) (hi : h[i]? = some none) (hB : Below w.heap.size w w') (hg : w.heap.size ≤ g ∧ g < w'.heap.size) (hx : d.x = Ext.none)
    (hc : ∀ j, j < d.n → w'.cell? ⟨g, j, none⟩ = some (d.f j) ∧ plain1 (d.f j) = true ∧ w'.frozen? ⟨g, j, none⟩ = false) : ∃ ρ', AgreeOn (Fil h) ρ ρ' ∧ ρ' i = (g, 0) ∧ HOK X ρ' (h.set i (some d)) w' := by
  have H2 := H.frame hB
  obtain ⟨S, E⟩ := H.ext
  obtain ⟨S2, E2⟩ := H2.ext
  have hl := (List.getElem?_eq_some_iff.1 hi).1
  have nf : ¬ Fil h i := fun ⟨d, hd⟩ => by rw [hi] at hd; cases hd
  let ρ' : Nat → Nat × Nat := fun k => if k = i then (g, 0) else ρ k
  have hag : AgreeOn (Fil h) ρ ρ' := fun k hk => by
    show (if k = i then _ else _) = _
    rw [if_neg]; rintro rfl; exact nf hk
  have hρi : ρ' i = (g, 0) := if_pos rfl
  have hρk : ∀ k, k ≠ i → ρ' k = ρ k := fun k hk => if_neg hk
  have get : ∀ k e, (h.set i (some d))[k]? = some (some e) → (k = i ∧ e = d) ∨ (k ≠ i ∧ h[k]? = some (some e)) := fun k e hk => by
    by_cases ek : i = k
    · subst ek
      rw [List.getElem?_set_self hl] at hk
      exact .inl ⟨rfl, by simpa using hk.symm⟩
    · rw [List.getElem?_set_ne ek] at hk
      exact .inr ⟨fun h => ek h.symm, hk⟩
  have fil : ∀ k, Fil h k → Fil (h.set i (some d)) k := fun k hk => hk.set
  refine ⟨ρ', hag, hρi, H2.evo, fun k hk => ⟨fil k (H2.base k hk).1, ?_⟩, fun k e hk => ?_, fun k e hk j hj => ?_, fun k e hk hoe j hj => ?_, fun k e l f hk hoe hlf hne => ?_, ?_⟩
  · rw [hag k (H2.base k hk).1]; exact (H2.base k hk).2
  · rcases get k e hk with ⟨rfl, rfl⟩ | ⟨hne, hk⟩
    · rw [hρi]; exact hg.2
    · rw [hρk k hne]; exact H2.lt _ _ hk
  · rcases get k e hk with ⟨rfl, rfl⟩ | ⟨hne, hk⟩
    · rw [hρi]
      obtain ⟨h1, h2, _⟩ := hc j hj
      exact ⟨_, by simpa using h1, Den1.plain h2⟩
    · rw [hρk k hne]
      obtain ⟨y, hy, hd⟩ := H2.cell _ _ hk j hj
      exact ⟨y, hy, hd.more hag fil⟩
  · rcases get k e hk with ⟨rfl, rfl⟩ | ⟨hne, hk⟩
    · rw [hρi]
      exact ⟨by simpa using (hc j hj).2.2, .inl (Nat.le_trans H.evo.size hg.1)⟩
    · rw [hρk k hne]; exact H2.own _ _ hk hoe j hj
  · rcases get k e hk with ⟨rfl, rfl⟩ | ⟨hk1, hk'⟩ <;> rcases get l f hlf with ⟨rfl, rfl⟩ | ⟨hl1, hl'⟩
    · exact absurd rfl hne
    · rw [hρi, hρk l hl1]; have := H.lt _ _ hl'; simp; omega
    · rw [hρi, hρk k hk1]; have := H.lt _ _ hk'; simp; omega
    · rw [hρk k hk1, hρk l hl1]; exact H2.sep _ _ _ _ hk' hoe hl' hne
  · refine ⟨fun k b => k ≠ i ∧ S k b, fun k e hk => ?_, fun k e b hk hS => ?_, fun k e b l f hk hS hl' hne => ?_⟩
    · rcases get k e hk with ⟨rfl, rfl⟩ | ⟨hne, hk⟩
      · rw [hx]; exact fun b hb => hb.1 rfl
      · have : (fun b => k ≠ i ∧ S k b) = S k := by funext b; exact propext ⟨fun h => h.2, fun h => ⟨hne, h⟩⟩
        rw [this, hρk k hne]
        exact e.x.keep (E.inv k e hk) fun b hSb => hB.block b (E.mine k e b hk hSb).2.1
    · rcases get k e hk with ⟨rfl, rfl⟩ | ⟨hne, hk⟩
      · exact absurd rfl hS.1
      · obtain ⟨g1, g2, g3⟩ := E.mine k e b hk hS.2
        exact ⟨by rw [hρk k hne]; exact g1, Nat.lt_of_lt_of_le g2 hB.size, g3⟩
    · rcases get k e hk with ⟨rfl, rfl⟩ | ⟨hk1, hk⟩
      · exact absurd rfl hS.1
      · have hlt := (E.mine k e b hk hS.2).2.1
        rcases get l f hl' with ⟨hli, hfd⟩ | ⟨hl1, hl'⟩
        · refine ⟨by rw [hli, hρi]; show g ≠ b; omega, fun h => h.1 hli⟩
        · obtain ⟨a1, a2⟩ := E.apart _ _ b _ _ hk hS.2 hl' hne
          exact ⟨by rw [hρk l hl1]; exact a1, fun h => a2 h.2⟩
theorem wfI {a : Int} (h : -9223372036854775808 ≤ a ∧ a ≤ 9223372036854775807) : (Lit.int .i64 a).wf = true := by
  have h1 : IntKind.min .i64 = -9223372036854775808 := by decide
  have h2 : IntKind.max .i64 = 9223372036854775807 := by decide
  simp only [Lit.wf, h1, h2, Bool.and_eq_true, decide_eq_true_eq]; exact h
theorem Tryz.sortsA (m : Nat) : AnyZI.SortsIn Tryz.prog Tryz.sortedA_ren Fence.wide m :=
  ⟨fun blk off cap ss W hH hblk hsz => callsIn_wide.2 (AnyM.slices_Sort_int Tryz.sortA blk off cap ss W hH hblk hsz),
   fun p cap W => callsIn_wide.2 (AnyM.slices_Sort_int_none Tryz.sortA p cap W)⟩
abbrev keysFn : FuncId := 36
abbrev iterFn : FuncId := 57
abbrev sortedFn : FuncId := 35
theorem keys_w (mb : Option Nat) (W : World) : Calls Tryz.prog keysFn #[.map mb] W fun e w' => e = .returned (.func (.func iterFn) #[] #[.pointer (some ⟨W.heap.size, 0, none⟩)]) ∧ w' = W.alloc (.cells #[.map mb] 58) :=
  callsIn_wide.1 (AnyZI.keys_in Tryz.keysA Fence.wide 5 trivial rfl mb W)
theorem foldr_perm {H : Type} : ∀ l : List (Lit × DataW H), (l.foldr DataW.insert []).Perm l
  | [] => .nil
  | x :: l => (WideShapes.insert_perm x _).trans ((foldr_perm l).cons x)
abbrev leZ : Int → Int → Bool := fun x y => decide (x ≤ y)
def sortK {α : Type} (D : List (Int × α)) : List Int := (D.map (·.1)).mergeSort leZ
theorem sortK_len {α : Type} (D : List (Int × α)) : (sortK D).length = D.length := by simp [sortK]
theorem sortK_perm {α : Type} (D : List (Int × α)) : (sortK D).Perm (D.map (·.1)) := List.mergeSort_perm _ _
theorem sorted_w {α : Type} {enc : α → Value} (D : List (Int × α)) (B b : Nat) (W : World) (hB : B < W.heap.size) (hc : W.cell? ⟨B, 0, none⟩ = some (.map (some b))) {es : Array MapEntry} {clock : Nat} (hb : W.heap[b]? = some (.map es clock)) (M : MapIs enc D es clock) (hl : D.length ≤ 100000) :
    Calls Tryz.prog sortedFn #[.func (.func iterFn) #[] #[.pointer (some ⟨B, 0, none⟩)]] W fun e w' => ∃ v, e = .returned v ∧ w'.ownsRow W.heap.size 3 1 v D.length ((sortK D).map encZ) ∧ (v = .slice none 0 0 ↔ D = []) ∧ Below W.heap.size W w' := by
  let R : Value → Option (DataW Unit × List MemPlace) := fun _ => some (.nil, [])
  let D0 : DataW Unit := .map ((es.toList.map (Go.WideElems.rg Tryz.prog 3 R)).foldr DataW.insert [])
  have hk := Tryz.underlying3
  have hrd : ∀ x ∈ es.toList, ∃ k, x.key = .int .i64 k ∧ Go.WideElems.rd Tryz.prog 3 R x = some (.int .i64 k, .nil) := fun x hx => by
    have : (x.key, x.val) ∈ es.toList.map (fun e => (e.key, e.val)) := List.mem_map.2 ⟨x, hx, rfl⟩
    rw [M.ents] at this
    obtain ⟨q, hq, e⟩ := List.mem_map.1 this
    have e1 := (Prod.mk.inj e).1.symm
    have hw := M.wf q hq
    refine ⟨q.1, e1, ?_⟩
    unfold Go.WideElems.rd
    rw [e1, Maps.keyOf_int_mk hk (wfI hw)]
    rfl
  have hsz := M.size
  have hown : W.ownsMap Tryz.prog 3 R b es.size D0 := ⟨es, clock, hb, ⟨by rw [hsz]; exact Nat.le_trans hl (by decide), M.stamped, fun x hx => by obtain ⟨k, _, h2⟩ := hrd x hx; exact ⟨_, h2⟩⟩, Nat.le_refl _, rfl⟩
  have hD0 : Maps.size D0 = D.length := by
    show ((es.toList.map (Go.WideElems.rg Tryz.prog 3 R)).foldr DataW.insert []).length = _
    rw [(foldr_perm _).length_eq]
    simp [hsz]
  have hkeys : (intKeys D0).Perm (D.map (·.1)) := by
    show (((es.toList.map (Go.WideElems.rg Tryz.prog 3 R)).foldr DataW.insert []).map fun p => Go.intOf p.1).Perm _
    refine ((foldr_perm _).map _).trans ?_
    have e1 : ((es.toList.map (Go.WideElems.rg Tryz.prog 3 R)).map fun p => Go.intOf p.1) = (es.toList.map (fun e => e.key)).map fun v => match v with | .int _ a => a | _ => 0 := by
      rw [List.map_map, List.map_map]
      refine List.map_congr_left fun x hx => ?_
      obtain ⟨k, h1, h2⟩ := hrd x hx
      simp only [Function.comp_def, Go.WideElems.rg, h2, h1, Option.getD_some, Go.intOf]
    have e2 : es.toList.map (fun e => e.key) = D.map fun q => (.int .i64 q.1 : Value) := by
      have := congrArg (fun l => l.map Prod.fst) M.ents
      simpa [List.map_map, Function.comp_def] using this
    rw [e1, e2, List.map_map]
    exact .refl _
  have hseq := AnyZI.keys_gives (ρ := Tryz.keysA_ren) { Tryz.keysA with } Fence.wide 2 trivial rfl (by omega) B b es.size D0 W hB hc hown
  have cS := AnyZI.sorted_in Tryz.sortedA Fence.wide 5 trivial trivial trivial trivial rfl (by omega) (Tryz.sortsA _) (enters_of Tryz.func56 (by kernel_rfl) rfl) iterFn #[.pointer (some ⟨B, 0, none⟩)] trivial (enters_of Tryz.func57 (by kernel_rfl) rfl) _ _ (by rw [hD0]; exact Nat.le_trans hl (by decide)) (by rw [hD0]; omega) W hseq
  refine (callsIn_wide.1 cS).mono ?_
  rintro e w' ⟨v, ss, rfl, hS, hrow, hnil, hbel⟩
  have hp : ss.Perm (D.map (·.1)) := hS.trans hkeys
  have hlen : ss.length = D.length := by rw [hp.length_eq]; simp
  have hsort : ss.mergeSort (fun x y => decide (x ≤ y)) = sortK D := mergeSort_of_perm_i hp
  rw [hsort, hlen] at hrow
  refine ⟨v, rfl, hrow, hnil.trans ⟨fun h => ?_, fun h => ?_⟩, hbel⟩
  · rw [h] at hlen; exact List.length_eq_zero_iff.1 hlen.symm
  · rw [h] at hlen; exact List.length_eq_zero_iff.1 hlen
abbrev seqV (k : Nat) : Value := .func (.func iterFn) ⟨[]⟩ ⟨[.pointer (some ⟨k, 0, some 0⟩)]⟩
abbrev keyC (i : Nat) : Chunk := @Chunk.mk atZ true 1 [(0, 1, .map (some i))]
theorem cKeysT (i k : Nat) (c : Chunk) (h : List (Option Chunk)) (hi : h[i]? = some (some c)) (hk : h[k]? = some none) : CallOK Tryz.prog keysFn [.map (some i)] h (seqV k) [(k, keyC i)] [i] := fun h₂ hr hm X ρ w xs H hx => by
  have hi2 : h₂[i]? = some (some c) := (hr i (by simp)).trans hi
  have hk2 : h₂[k]? = some none := (hm _ (List.mem_singleton.2 rfl)).trans hk
  obtain ⟨x, rfl⟩ : ∃ x, xs = [x] := by
    match xs, hx with
    | [x], _ => exact ⟨x, rfl⟩
  have hx1 : x = .map (some (ρ i).1) := hx.1.self.symm
  refine .inr ⟨Tryz.call36 _ w, ?_⟩
  rw [hx1]
  refine (keys_w (some (ρ i).1) w).mono ?_
  rintro e w' ⟨rfl, rfl⟩
  obtain ⟨ρ', ha, hρ, H'⟩ := H.alloc (c := ⟨true, 1, [(0, 1, .map (some i))]⟩) (xs := #[.map (some (ρ i).1)]) (ty := 58) hk2 rfl (fun j y hy => by
    cases j with
    | zero =>
      simp at hy; subst hy
      exact fun r hr => by
        have := hr i ⟨c, hi2⟩
        show den1 r (.map (some i)) = _
        simp [den1, den0, this]
    | succ j => simp at hy)
  have H3 := H'.setX (k := k) (List.getElem?_set_self (List.getElem?_eq_some_iff.1 hk2).1) atZ fun S hS => ⟨by rw [hρ], hS⟩
  rw [List.set_set] at H3
  refine ⟨_, rfl, ρ', ha, H3, fun r hr => ?_⟩
  have := hr k ⟨keyC i, by show (h₂.set k _)[k]? = _; rw [List.getElem?_set_self (List.getElem?_eq_some_iff.1 hk2).1]⟩
  simp [den, den2, den1, den0, denA, this, hρ]
abbrev intsC (l : List Int) : Chunk := ⟨true, l.length, [(0, l.length, .agg ⟨l.map (Value.int .i64)⟩)]⟩
theorem intsC_f {l : List Int} {j : Nat} {x : Int} (h : l[j]? = some x) : (intsC l).f j = .int .i64 x := by
  have hl := (List.getElem?_eq_some_iff.1 h).1
  show cellOf [(0, l.length, .agg ⟨l.map (Value.int .i64)⟩)] j = _
  rw [cellOf_cons, if_pos (by omega)]
  simp [cellIn, h]
def sortR {α : Type} (D : List (Int × α)) (k : Nat) (v : Value) (ms : List (Nat × Chunk)) : Prop :=
  (D = [] ∧ v = .slice none 0 0 ∧ ms = []) ∨ ∃ cap, 0 < D.length ∧ D.length ≤ cap ∧ v = .slice (some ⟨k, 0, some 0⟩) D.length cap ∧ ms = [(k, intsC (sortK D))]
theorem cSortedT {α : Type} {enc : α → Value} (D : List (Int × α)) (i l k : Nat) (c : Chunk) (h : List (Option Chunk)) (hi : h[i]? = some (some c)) (hc : c.x = mapX enc D) (hl : h[l]? = some (some (keyC i))) (hk : h[k]? = some none) (hlen : D.length ≤ 100000) : CallAll Tryz.prog sortedFn [seqV l] h (sortR D k) := fun X ρ w xs H hx => by
  obtain ⟨x, rfl⟩ : ∃ x, xs = [x] := by
    match xs, hx with
    | [x], _ => exact ⟨x, rfl⟩
  obtain ⟨S, E⟩ := H.ext
  have hz : (ρ l).2 = 0 := (E.inv l _ hl).1
  have hx1 : x = .func (.func iterFn) #[] #[.pointer (some ⟨(ρ l).1, 0, none⟩)] := by
    rw [← hx.1.self]; simp [den, den2, den1, den0, denA, hz]
  obtain ⟨hS, es, clock, hb, M⟩ : (∀ b, S i b ↔ b = (ρ i).1) ∧ ∃ es clock, w.heap[(ρ i).1]? = some (.map es clock) ∧ MapIs enc D es clock := by have := E.inv i c hi; rw [hc] at this; exact this
  have hcell : w.cell? ⟨(ρ l).1, 0, none⟩ = some (.map (some (ρ i).1)) := by
    obtain ⟨y, hy, hd⟩ := H.cell l _ hl 0 (by show 0 < 1; decide)
    rw [hz] at hy
    have := hd.self
    rw [hy, ← this]
    rfl
  refine .inr ⟨Tryz.call35 _ w, ?_⟩
  rw [hx1]
  refine (sorted_w D (ρ l).1 (ρ i).1 w (H.lt l _ hl) hcell hb M hlen).mono ?_
  rintro e w' ⟨v, rfl, ⟨_, hrow⟩, hnil, hbel⟩
  rcases hrow with ⟨rfl, h0⟩ | ⟨g, cap, cur, rfl, hbase, hg, hcap, hmax, hsz, htake⟩
  · exact ⟨_, rfl, .slice none 0 0, [], ρ, .inl ⟨List.length_eq_zero_iff.1 h0, rfl, rfl⟩, AgreeOn.refl _ _, H.frame hbel, fun r _ => rfl⟩
  · have hpos : 0 < D.length := by
      rcases Nat.eq_zero_or_pos D.length with h0 | h0
      · have := hnil.2 (List.length_eq_zero_iff.1 h0); cases this
      · exact h0
    have hlt : g < w'.heap.size := (Array.getElem?_eq_some_iff.1 hg).1
    rw [Nat.mul_one] at htake hsz
    obtain ⟨ρ', ha, hρ, H'⟩ := HOK.newB (d := intsC (sortK D)) H hk hbel ⟨hbase, hlt⟩ rfl (fun j hj => by
      have hj : j < (sortK D).length := hj
      have e1 : (sortK D)[j]? = some (sortK D)[j] := by simp [hj]
      rw [intsC_f e1]
      refine ⟨?_, rfl, by simp [World.frozen?, hg]⟩
      have h1 : (cur.toList.take D.length)[j]? = ((sortK D).map encZ)[j]? := by rw [htake]
      rw [List.getElem?_take_of_lt (by rw [← sortK_len D]; exact hj)] at h1
      simp only [World.cell?, hg]
      simp only [Option.isSome_none, Bool.false_eq_true, if_false]
      rw [← Array.getElem?_toList, h1]
      simp [hj])
    refine ⟨_, rfl, .slice (some ⟨k, 0, some 0⟩) D.length cap, [(k, intsC (sortK D))], ρ', .inr ⟨cap, hpos, hcap, rfl, rfl⟩, ha, H', fun r hr => ?_⟩
    have := hr k ⟨intsC (sortK D), by show (h.set k _)[k]? = _; rw [List.getElem?_set_self (List.getElem?_eq_some_iff.1 hk).1]⟩
    simp [den, den2, den1, den0, denA, this, hρ]
end Go.Proofs.YtimccfnlcnlffaaGreat


namespace Go.Proofs.YtimccfnlcnlffaaGreat.Sx
open Go Go.RowKit
def ixI : List (Nat × Nat) → Nat → Option Nat
  | [], _ => none
  | (k, i) :: r, n => match Nat.beq i n with
    | true => some k
    | false => ixI r n
def ixFree : List (Nat × Nat) → Nat → Nat → Bool
  | [], _, _ => true
  | (k, i) :: r, a, b => (!Nat.beq k a && !Nat.beq i b) && ixFree r a b
def ixNo : List (Nat × Nat) → Bool
  | [] => true
  | (k, i) :: r => ixFree r k i && ixNo r
def ixBase (ix : List (Nat × Nat)) : Nat → Bool
  | 0 => true
  | n + 1 => (match ixI ix n with
    | some k => Nat.beq k n
    | none => false) && ixBase ix n
def ixFil (h : List (Option Chunk)) : List (Nat × Nat) → Bool
  | [] => true
  | (_, i) :: r => filB h i && ixFil h r
theorem ixFree_out : ∀ {ix : List (Nat × Nat)} {a b : Nat}, ixFree ix a b = true → ∀ k i, (k, i) ∈ ix → k ≠ a ∧ i ≠ b
  | [], _, _, _, k, i, h => by simp at h
  | (x, y) :: r, a, b, h, k, i, hm => by
    simp only [ixFree, Bool.and_eq_true, Bool.not_eq_true'] at h
    rcases List.mem_cons.1 hm with e | hm
    · simp only [Prod.mk.injEq] at e
      obtain ⟨rfl, rfl⟩ := e
      exact ⟨fun e => by subst e; simp at h, fun e => by subst e; simp at h⟩
    · exact ixFree_out h.2 k i hm
theorem ixNo_out : ∀ {ix : List (Nat × Nat)}, ixNo ix = true → ∀ k i k' i', (k, i) ∈ ix → (k', i') ∈ ix → ((k = k' ∨ i = i') → k = k' ∧ i = i')
  | [], _, k, i, k', i', h, _, _ => by simp at h
  | (x, y) :: r, hn, k, i, k', i', h, h', he => by
    simp only [ixNo, Bool.and_eq_true] at hn
    rcases List.mem_cons.1 h with e | hm <;> rcases List.mem_cons.1 h' with e' | hm'
    · simp only [Prod.mk.injEq] at e e'; omega
    · simp only [Prod.mk.injEq] at e
      have := ixFree_out hn.1 k' i' hm'
      omega
    · simp only [Prod.mk.injEq] at e'
      have := ixFree_out hn.1 k i hm
      omega
    · exact ixNo_out hn.2 k i k' i' hm hm' he
theorem ixI_mem : ∀ {ix : List (Nat × Nat)} {i k : Nat}, ixI ix i = some k → (k, i) ∈ ix
  | [], _, _, h => by cases h
  | (a, b) :: r, i, k, h => by
    simp only [ixI] at h
    cases e : Nat.beq b i with
    | true =>
      rw [e] at h
      have := Nat.eq_of_beq_eq_true e
      simp only [Option.some.injEq] at h
      subst this h; simp
    | false => rw [e] at h; exact List.mem_cons_of_mem _ (ixI_mem h)
theorem ixI_of : ∀ {ix : List (Nat × Nat)} {i k : Nat}, ixNo ix = true → (k, i) ∈ ix → ixI ix i = some k
  | [], _, _, _, h => by simp at h
  | (a, b) :: r, i, k, hn, h => by
    simp only [ixI]
    cases e : Nat.beq b i with
    | true =>
      have e := Nat.eq_of_beq_eq_true e
      subst e
      have := (ixNo_out hn a b k b (by simp) h (.inr rfl)).1
      rw [this]
    | false =>
      simp only [ixNo, Bool.and_eq_true] at hn
      rcases List.mem_cons.1 h with e' | hm
      · simp only [Prod.mk.injEq] at e'
        obtain ⟨rfl, rfl⟩ := e'
        rw [Nat.beq_refl] at e; cases e
      · exact ixI_of hn.2 hm
theorem ixBase_out {ix : List (Nat × Nat)} : ∀ {n : Nat}, ixBase ix n = true → ∀ i, i < n → ixI ix i = some i
  | 0, _, i, h => absurd h (by omega)
  | n + 1, hb, i, h => by
    simp only [ixBase, Bool.and_eq_true] at hb
    rcases Nat.lt_or_ge i n with h1 | h1
    · exact ixBase_out hb.2 i h1
    · obtain rfl : i = n := by omega
      cases e : ixI ix i with
      | none => rw [e] at hb; simp at hb
      | some k => rw [e] at hb; simp only at hb; rw [Nat.eq_of_beq_eq_true hb.1]
theorem ixFil_out {h : List (Option Chunk)} : ∀ {ix : List (Nat × Nat)}, ixFil h ix = true → ∀ k i, (k, i) ∈ ix → Fil h i
  | [], _, k, i, hm => by simp at hm
  | (a, b) :: r, hb, k, i, hm => by
    simp only [ixFil, Bool.and_eq_true] at hb
    rcases List.mem_cons.1 hm with e | hm
    · simp only [Prod.mk.injEq] at e
      obtain ⟨rfl, rfl⟩ := e
      exact filB_iff.1 hb.1
    · exact ixFil_out hb.2 k i hm
class XLe (c' c : Chunk) : Prop where
  le : c'.x = Ext.none ∨ c'.x = c.x
instance XLe.none {o : Bool} {n : Nat} {ps : List (Nat × Nat × Value)} {c : Chunk} : XLe (@Chunk.mk Ext.none o n ps) c := ⟨.inl rfl⟩
instance XLe.refl (c : Chunk) : XLe c c := ⟨.inr rfl⟩
structure ChunkReLe (ix : List (Nat × Nat)) (c' c : Chunk) : Prop where
  [x : XLe c' c]
  own : c'.own = true → c.own = true
  le : c'.n ≤ c.n
  re : ∀ j, j < c'.n → Re1 ix (c'.f j) (c.f j)
theorem ChunkReLe.same {ix : List (Nat × Nat)} {o : Bool} {n : Nat} {ps : List (Nat × Nat × Value)} (hp : ∀ j, j < n → plain1 (cellOf ps j) = true) : ChunkReLe ix ⟨o, n, ps⟩ ⟨o, n, ps⟩ := ⟨id, Nat.le_refl _, fun j hj => .plain (hp j hj)⟩
def renT (ix : List (Nat × Nat)) : List (Option Value) → List (Option Value) → Prop → Prop
  | [], [], A => A
  | _ :: a, none :: b, A => renT ix a b A
  | some u :: a, some v :: b, A => N (Obl (Re ix v u) (renT ix a b A))
  | _, _, _ => False
def renH (ix : List (Nat × Nat)) (h : List (Option Chunk)) : List (Option Chunk) → Nat → Prop → Prop
  | [], _, A => A
  | none :: b, i, A => renH ix h b (i + 1) A
  | some c' :: b, i, A => match ixI ix i with
    | some k => getH h k fun c => N (Obl (ChunkReLe ix c' c) (renH ix h b (i + 1) A))
    | none => False
def renK (n0 : Nat) (ix : List (Nat × Nat)) (st s : St) (A : Prop) : Prop :=
  match st, s with
  | ⟨t, h⟩, ⟨t', h'⟩ => match ixNo ix && ixBase ix n0 && ixFil h' ix with
    | true => renT ix t t' (renH ix h h' 0 A)
    | false => False
theorem renT_out {ix : List (Nat × Nat)} : ∀ {t t' : List (Option Value)} {A : Prop}, renT ix t t' A → t'.length = t.length ∧ (∀ (i : Nat) (v : Value), t'[i]? = some (some v) → ∃ u, t[i]? = some (some u) ∧ Re ix v u) ∧ A
  | [], [], A, h => ⟨rfl, fun i v hi => by simp at hi, h⟩
  | x :: a, none :: b, A, h => by
    have h : renT ix a b A := by cases x <;> exact h
    obtain ⟨h1, h2, h3⟩ := renT_out h
    refine ⟨by simp [h1], fun i v hi => ?_, h3⟩
    cases i with
    | zero => simp at hi
    | succ i => simpa using h2 i v (by simpa using hi)
  | some u :: a, some v :: b, A, h => by
    obtain ⟨e, h⟩ := N.out h
    obtain ⟨h1, h2, h3⟩ := renT_out h
    refine ⟨by simp [h1], fun i w hi => ?_, h3⟩
    cases i with
    | zero => simp at hi; subst hi; exact ⟨u, rfl, e⟩
    | succ i => simpa using h2 i w (by simpa using hi)
  | none :: a, some v :: b, A, h => h.elim
  | [], _ :: _, A, h => h.elim
  | _ :: _, [], A, h => by cases ‹Option Value› <;> exact h.elim
theorem renH_out {ix : List (Nat × Nat)} {h : List (Option Chunk)} : ∀ {b : List (Option Chunk)} {i0 : Nat} {A : Prop}, renH ix h b i0 A → (∀ (i : Nat) (c' : Chunk), b[i]? = some (some c') → ∃ k c, ixI ix (i0 + i) = some k ∧ h[k]? = some (some c) ∧ ChunkReLe ix c' c) ∧ A
  | [], i0, A, hh => ⟨fun i c' hi => by simp at hi, hh⟩
  | none :: b, i0, A, hh => by
    obtain ⟨h1, h2⟩ := renH_out (b := b) hh
    refine ⟨fun i c' hi => ?_, h2⟩
    cases i with
    | zero => simp at hi
    | succ i => have := h1 i c' (by simpa using hi); rwa [show i0 + 1 + i = i0 + (i + 1) from by omega] at this
  | some c0 :: b, i0, A, hh => by
    simp only [renH] at hh
    split at hh
    · rename_i k hk
      obtain ⟨c, hc, hh⟩ := getH_out hh
      obtain ⟨e, hh⟩ := N.out hh
      obtain ⟨h1, h2⟩ := renH_out (b := b) hh
      refine ⟨fun i c' hi => ?_, h2⟩
      cases i with
      | zero => simp at hi; subst hi; exact ⟨k, c, hk, hc, e⟩
      | succ i => have := h1 i c' (by simpa using hi); rwa [show i0 + 1 + i = i0 + (i + 1) from by omega] at this
    · exact hh.elim
theorem ren_out {n0 : Nat} {ix : List (Nat × Nat)} {st s : St} {A : Prop} (hh : renK n0 ix st s A) : Wkg n0 st s ∧ A := by
  obtain ⟨t, h⟩ := st
  obtain ⟨t', h'⟩ := s
  simp only [renK] at hh
  cases hb : ixNo ix && ixBase ix n0 && ixFil h' ix with
  | false => rw [hb] at hh; exact hh.elim
  | true =>
    rw [hb] at hh
    simp only [Bool.and_eq_true] at hb
    obtain ⟨a1, a2, hh⟩ := renT_out hh
    obtain ⟨b1, hA⟩ := renH_out hh
    refine ⟨fun X ρ a w hn R => ?_, hA⟩
    subst hn
    let ρ' : Nat → Nat × Nat := fun i => match ixI ix i with
      | some k => ρ k
      | none => ρ i
    have hρ : ∀ k i, (k, i) ∈ ix → ρ' i = ρ k := fun k i hm => by
      show (match ixI ix i with | some k => ρ k | none => ρ i) = ρ k
      rw [ixI_of hb.1.1 hm]
    have hr : ∀ r, AgreeOn (Fil h') ρ' r → ∀ k i, (k, i) ∈ ix → r i = ρ k := fun r hrr k i hm => (hrr i (ixFil_out hb.2 k i hm)).trans (hρ k i hm)
    have hat : ∀ i c', h'[i]? = some (some c') → ∃ k c, (k, i) ∈ ix ∧ h[k]? = some (some c) ∧ ChunkReLe ix c' c := fun i c' hi => by
      obtain ⟨k, c, h1, h2, h3⟩ := b1 i c' hi
      rw [Nat.zero_add] at h1
      exact ⟨k, c, ixI_mem h1, h2, h3⟩
    refine ⟨ρ', R.defers, R.size.trans a1.symm, fun i v hi => ?_, R.heap.evo, fun i hi => ?_, fun i c' hi => ?_, fun i c' hi j hj => ?_, fun i c' hi ho j hj => ?_, fun i c' j d' hi ho hj hne => ?_, ?_⟩
    · obtain ⟨u, hu, hre⟩ := a2 i v hi
      obtain ⟨x, hx, hd⟩ := R.slot i u hu
      exact ⟨x, hx, fun r hrr => (hre.den (hr r hrr)).trans hd.self⟩
    · have hm := ixI_mem (ixBase_out hb.1.2 i hi)
      exact ⟨ixFil_out hb.2 i i hm, (hρ i i hm).trans (R.heap.base i hi).2⟩
    · obtain ⟨k, c, hm, hc, _⟩ := hat i c' hi
      rw [hρ k i hm]; exact R.heap.lt k c hc
    · obtain ⟨k, c, hm, hc, L⟩ := hat i c' hi
      obtain ⟨x, hx, hd⟩ := R.heap.cell k c hc j (Nat.lt_of_lt_of_le hj L.le)
      rw [hρ k i hm]
      exact ⟨x, hx, fun r hrr => ((L.re j hj).den (hr r hrr)).trans hd.self⟩
    · obtain ⟨k, c, hm, hc, L⟩ := hat i c' hi
      rw [hρ k i hm]
      exact R.heap.own k c hc (L.own ho) j (Nat.lt_of_lt_of_le hj L.le)
    · obtain ⟨k, c, hm, hc, L⟩ := hat i c' hi
      obtain ⟨l, d, hm', hd, _⟩ := hat j d' hj
      rw [hρ k i hm, hρ l j hm']
      exact R.heap.sep k c l d hc (L.own ho) hd fun e => hne (ixNo_out hb.1.1 k i l j hm hm' (.inl e)).2
    · obtain ⟨S, E⟩ := R.heap.ext
      refine ⟨fun i b => ∃ k c', (k, i) ∈ ix ∧ h'[i]? = some (some c') ∧ c'.x ≠ Ext.none ∧ S k b, fun i c' hi => ?_, fun i c' b hi hS => ?_, fun i c' b j d' hi hS hj hne => ?_⟩
      · obtain ⟨k, c, hm, hc, L⟩ := hat i c' hi
        by_cases en : c'.x = Ext.none
        · rw [en]
          rintro b ⟨_, c'', _, hi', h1, _⟩
          rw [hi] at hi'
          obtain rfl : c' = c'' := by simpa using hi'
          exact h1 en
        · have : (fun b => ∃ k c', (k, i) ∈ ix ∧ h'[i]? = some (some c') ∧ c'.x ≠ Ext.none ∧ S k b) = S k := by
            funext b
            refine propext ⟨?_, fun hb => ⟨k, c', hm, hi, en, hb⟩⟩
            rintro ⟨k', _, hm', _, _, hb'⟩
            rw [(ixNo_out hb.1.1 k i k' i hm hm' (.inr rfl)).1]; exact hb'
          rw [this, hρ k i hm]
          rcases L.x.le with e | e
          · exact absurd e en
          · rw [e]; exact E.inv k c hc
      · obtain ⟨k, c, hm, hc, L⟩ := hat i c' hi
        obtain ⟨k', _, hm', _, _, hb'⟩ := hS
        rw [← (ixNo_out hb.1.1 k i k' i hm hm' (.inr rfl)).1] at hb'
        obtain ⟨h1, h2, h3⟩ := E.mine k c b hc hb'
        have := L.le
        exact ⟨by rw [hρ k i hm]; omega, h2, h3⟩
      · obtain ⟨k, c, hm, hc, L⟩ := hat i c' hi
        obtain ⟨k', _, hm', _, _, hb'⟩ := hS
        rw [← (ixNo_out hb.1.1 k i k' i hm hm' (.inr rfl)).1] at hb'
        obtain ⟨l, d, hml, hd, _⟩ := hat j d' hj
        obtain ⟨a1, a2⟩ := E.apart k c b l d hc hb' hd fun e => hne (ixNo_out hb.1.1 l j k i hml hm (.inl e)).2
        refine ⟨by rw [hρ l j hml]; exact a1, ?_⟩
        rintro ⟨l', _, hml', _, _, hbl⟩
        rw [← (ixNo_out hb.1.1 l j l' j hml hml' (.inr rfl)).1] at hbl
        exact a2 hbl
def NextR {α : Type} (p : α → Prop) (K : List (Nat × Nat) → α → Prop) : Prop := ∃ y ix, p y ∧ K ix y
theorem N.nextR {α : Type} {p : α → Prop} {K : List (Nat × Nat) → α → Prop} (y : α) (ix : List (Nat × Nat)) (hp : p y) (k : K ix y) : N (NextR p K) := N.mk ⟨y, ix, hp, k⟩
section
variable {P : Program} {G : Tys}
theorem nonesK_iff : ∀ {n : Nat} {K : List (Option Chunk) → Prop}, nonesK n K ↔ K (List.replicate n none)
  | 0, K => Iff.rfl
  | n + 1, K => nonesK_iff (n := n) (K := fun r => K (none :: r))
theorem appK_iff : ∀ {h : List (Option Chunk)} {n : Nat} {K : List (Option Chunk) → Prop}, appK h n K ↔ K (h ++ List.replicate n none)
  | [], n, K => nonesK_iff
  | x :: r, n, K => appK_iff (h := r) (n := n) (K := fun r' => K (x :: r'))
theorem N.loopR {n0 : Nat} {c : Code} {A : (Exit → St → Prop) → St → Prop} {Q : Exit → St → Prop} {t : List (Option Value)} {h : List (Option Chunk)} {α : Type} (inv : α → Prop) (μ : α → Nat) (sets : α → List (Nat × Value)) (hs : α → List (Nat × Chunk)) (x0 : α) (ix0 : List (Nat × Nat)) (h0 : inv x0)
    (hw : updK (maskC c) (sets x0) t 0 fun t' => appK h 3 fun hp => setM hp (hs x0) fun h' => renK n0 ix0 ⟨t, h⟩ ⟨t', h'⟩ (N True))
    (hr : ∀ x, inv x → updK (maskC c) (sets x) t 0 fun t' => appK h 3 fun hp => setM hp (hs x) fun h' => A (thenQ (fun s => N (NextR (fun y => inv y ∧ μ y < μ x) fun ix y => updK (maskC c) (sets y) t 0 fun t'' => appK h 3 fun hp => setM hp (hs y) fun h'' => renK n0 ix s ⟨t'', h''⟩ (N True))) Q) ⟨t', h'⟩) : N (LoopN P G n0 c A Q ⟨t, h⟩) := by
  refine N.mk ⟨α, fun x => ⟨updT (maskC c) (sets x) t 0, modH (h ++ List.replicate 3 none) (hs x)⟩, inv, μ, fun x s => N (NextR (fun y => inv y ∧ μ y < μ x) fun ix y => updK (maskC c) (sets y) t 0 fun t'' => appK h 3 fun hp => setM hp (hs y) fun h'' => renK n0 ix s ⟨t'', h''⟩ (N True)), fun x s hq => ?_, ⟨x0, h0, (ren_out (setM_iff.1 (appK_iff.1 (updK_iff.1 hw)))).1⟩, fun x hx => setM_iff.1 (appK_iff.1 (updK_iff.1 (hr x hx)))⟩
  obtain ⟨y, ix, ⟨hy, hlt⟩, hk⟩ := N.out hq
  exact ⟨y, hy, (ren_out (setM_iff.1 (appK_iff.1 (updK_iff.1 hk)))).1, hlt⟩
end
end Go.Proofs.YtimccfnlcnlffaaGreat.Sx


namespace Go.Proofs.YtimccfnlcnlffaaGreat
open Go.ChangeShapes Go.WideShapes Go.ChangeAt Go.RowKit
theorem ret_int {k : IntKind} {a b : Int} (h : a = b) : Ending.returned (.int k a) = .returned (.int k b) := by rw [h]
theorem add_block (a : Addr) (n : Nat) : (a.add n).block = a.block := by unfold Addr.add; split <;> rfl
theorem add_add (a : Addr) (i j : Nat) : (a.add i).add j = a.add (i + j) := by
  unfold Addr.add
  by_cases hi : i = 0
  · by_cases hj : j = 0 <;> simp [hi, hj]
  · by_cases hj : j = 0
    · simp [hi, hj]
    · simp [hi, hj, Nat.add_assoc]
theorem add_zero_at (b i : Nat) : (⟨b, 0, none⟩ : Addr).add i = ⟨b, i, none⟩ := by
  unfold Addr.add
  split
  · subst i; rfl
  · simp
def Seg (w : World) (B : Nat) (A : Option Addr) (m : Nat) (f : Nat → Value) : Prop :=
  0 < m → ∃ x, A = some x ∧ x.block < B ∧ ∀ j, j < m → w.cell? (x.add j) = some (f j)
section
variable {w w' : World} {B B' m : Nat} {A : Option Addr} {f : Nat → Value}
theorem Seg.zero : Seg w B A 0 f := fun h => absurd h (by omega)
theorem Seg.keep (h : Seg w B A m f) (hk : ∀ p : Addr, p.block < B → w'.cell? p = w.cell? p) : Seg w' B A m f := fun hm => by
  obtain ⟨x, e, hb, hc⟩ := h hm
  exact ⟨x, e, hb, fun j hj => (hk _ (by rw [add_block]; exact hb)).trans (hc j hj)⟩
theorem Seg.below (h : Seg w B A m f) (hb : Below B w w') : Seg w' B A m f := h.keep fun _ hp => hb.cell hp
theorem Seg.more (h : Seg w B A m f) (hB : B ≤ B') : Seg w B' A m f := fun hm => by
  obtain ⟨x, e, hb, hc⟩ := h hm
  exact ⟨x, e, by omega, hc⟩
theorem Seg.same {g : Nat → Value} (h : Seg w B A m f) (e : ∀ j, j < m → f j = g j) : Seg w B A m g := fun hm => by
  obtain ⟨x, ex, hb, hc⟩ := h hm
  exact ⟨x, ex, hb, fun j hj => by rw [hc j hj, e j hj]⟩
theorem Seg.less {n : Nat} (h : Seg w B A m f) (e : n ≤ m) : Seg w B A n f := fun hm => by
  obtain ⟨x, ex, hb, hc⟩ := h (by omega)
  exact ⟨x, ex, hb, fun j hj => hc j (by omega)⟩
theorem Seg.alloc (h : Seg w B A m f) (hB : B ≤ w.heap.size) (o : Obj) : Seg (w.alloc o) B A m f := h.below ((Below.refl _ _).alloc hB o)
theorem Seg.drew (h : Seg w B A m f) : Seg w.drew B A m f := h
end
theorem Seg.new (w : World) (ty : TypeId) (vs : Array Value) (b : Nat) (hb : b = w.heap.size) (f : Nat → Value) (hf : ∀ j, j < vs.size → vs[j]? = some (f j)) :
    Seg (w.alloc (.cells vs ty)) (w.heap.size + 1) (some ⟨b, 0, none⟩) vs.size f := fun _ =>
  ⟨_, rfl, by simp [hb], fun j hj => by rw [add_zero_at, World.cell?_alloc_at _ _ _ _ hb]; exact hf j hj⟩
section
variable {H : Type} {enc : TypeId × Value → H} {P : Program}
theorem trodAll_kept (hl : laidOutB P = true) {W W' : World} (bel : Below W.heap.size W W') : ∀ (ts : List TypeId) (vs : List Value) (ds : List (DataW H)) (p : List MemPlace),
    (∀ t ∈ ts, P.readableRec t = true ∧ t < P.types.size) → DataW.TrodAll enc P W 0 (fun _ => true) true ts vs ds p → DataW.TrodAll enc P W' 0 (fun b => decide (b < W.heap.size)) true ts vs ds p
  | [], vs, ds, p, _, h => by
    obtain ⟨rfl, rfl, rfl⟩ := trodAll_nil h
    exact trodAll_mk0
  | t :: ts, vs, ds, p, ht, h => by
    obtain ⟨v, vs, d, ds, p, q, rfl, rfl, rfl, h0, hr⟩ := trodAll_cons h
    have lt : ∀ x ∈ p, x.block < W.heap.size := by obtain ⟨m, hm⟩ := h0; exact DataW.trod_lt m _ _ _ hm
    exact trodAll_cons_mk (Below.trod hl (ht t (by simp)).1 (ht t (by simp)).2 h0 bel lt) (trodAll_kept hl bel ts vs ds q (fun x hx => ht x (by simp [hx])) hr)
theorem trodAll_len : ∀ (ts : List TypeId) (vs : List Value) (ds : List (DataW H)) (p : List MemPlace) {w : World} {base : Nat} {sp : Nat → Bool} {hd : Bool}, DataW.TrodAll enc P w base sp hd ts vs ds p → ds.length = ts.length
  | [], vs, ds, p, _, _, _, _, h => by
    obtain ⟨rfl, rfl, rfl⟩ := trodAll_nil h
    rfl
  | t :: ts, vs, ds, p, _, _, _, _, h => by
    obtain ⟨v, vs, d, ds, p, q, rfl, rfl, rfl, h0, hr⟩ := trodAll_cons h
    simp [trodAll_len ts vs ds q hr]
end
theorem law_lifted {H : Type} {enc : TypeId × Value → H} {C : Checked} {os : Os} {f : FuncId} {fn : Func} {s : ChangeSpec} {tb : TypeId}
    (own : ownKnob C.prog.godebug = none) (started : os.Started) (noInit : C.prog.inits.idxOf? f = none) (hfn : C.prog.funcs[f]? = some fn)
    (hl : laidOutB C.prog = true) (hr : fn.params.toList.all (fun t => C.prog.readableRec t && decide (t < C.prog.types.size)) = true)
    (hres : fn.resultTypes = #[tb]) (hb : C.prog.underlying tb = some .bool) (hvars : s.vars = [])
    (hspec : ∀ ds : List (DataW H), ds.length = fn.params.toList.length → s.fn H ds = { results := [.lit (.bool true)], args := ds })
    (witness : ∃ (w : World) (tape : Tape) (i : Input), w.os = os ∧ (w.forCall tape i).Shaped C.prog ∧ i.vars = [] ∧ Input.okWide C.prog (w.forCall tape i) .any w.heap.size f i ∧
      s.pre6 enc C.prog fn [] false (w.forCall tape i).memory i.args ∧ ({} : Assume).holds C.prog (lone (Frame.enter C.prog f i.args .normal) [] (w.forCall tape i)))
    (walk : ∀ (W : World) (base : Nat) (args : Array Value) (ds : List (DataW H)) (p : List MemPlace),
      (∀ (j : Nat) t v, fn.params[j]? = some t → args[j]? = some v → Value.okWide C.prog W .any base t v) →
      DataW.TrodAll enc C.prog W 0 (fun _ => true) true fn.params.toList args.toList ds p →
      (DataW.weightsEach C.prog fn.params.toList ds).all (· ≤ reachBytes) = true →
      Calls C.prog f args W fun e W' => e = .returned (.bool true) ∧ Below W.heap.size W W') :
    ReturnsInHanded {} C os f .any (s.pre6 enc C.prog fn [] false) (s.post enc C.prog fn false true false false) := by
  refine returnsInHanded_of_change_sized (C := C) own started noInit hfn witness ?_
  intro W base args ds gs before hval hW _ hsz _
  have hW' := hW
  obtain ⟨p, q, hA, hV, rfl, hfz, hnd⟩ := hW
  rw [hvars] at hV
  obtain ⟨rfl, rfl⟩ := trodVars_none hV
  have hvt : s.plain.varTypes C.prog = [] := by simp [ChangeSpec.plain, DataSpec.varTypes, hvars]
  rw [hvt] at hsz
  simp only [List.append_nil] at hsz
  refine (walk W base args ds p hval hA hsz).mono fun e W' ⟨he, bel⟩ => ?_
  subst he
  have hlen : ds.length = fn.params.toList.length := trodAll_len _ _ _ _ hA
  have hs := hspec ds hlen
  refine ⟨_, rfl, ds, [], p ++ [], [], p, [], hW', ?_, ?_, ?_, bel.frame _, fun h => by cases h⟩
  · rw [List.append_nil, hs, hres]
    exact trodAll_mk1 (shut_bool hb _)
  · rw [List.append_nil, hs]
    refine trodAll_kept hl bel _ _ _ _ (fun t ht => ?_) hA
    have := List.all_eq_true.1 hr t ht
    simpa using this
  · rw [List.append_nil, hs, hvars]
    simp [DataW.TrodVars]
def leafAt (P : Program) : Nat → TypeId → Nat → Option TypeId
  | 0, _, _ => none
  | d + 1, t, j =>
    match P.underlying t with
    | some (.struct fs) => (fs.toList.find? fun f => decide (f.offset ≤ j) && decide (j < f.offset + P.cellsOf f.type)).bind fun f => leafAt P d f.type (j - f.offset)
    | some (.array n e) => if j < n * P.cellsOf e then leafAt P d e (j % P.cellsOf e) else none
    | _ => if j = 0 then some t else none
section
variable {H : Type} {enc : TypeId × Value → H} {P : Program} {w : World} {base : Nat} {spare : Nat → Bool} {held : Bool}
theorem leaf_read : ∀ (d : Nat) (t : TypeId) (j : Nat) (l : TypeId) (fuel : Nat) (cs : List Value) (x : DataW H × List MemPlace), leafAt P d t j = some l → j < cs.length → DataW.trod enc P w base spare held fuel t cs = some x →
    ∃ (v : Value) (y : DataW H × List MemPlace) (n : Nat), cs[j]? = some v ∧ DataW.trod enc P w base spare held n l [v] = some y
  | 0, _, _, _, _, _, _, h, _, _ => by simp [leafAt] at h
  | d + 1, t, j, l, fuel, cs, x, h, hj, ht => by
    unfold leafAt at h
    split at h
    · rename_i fs hu
      obtain ⟨f, hf, hl⟩ := Option.bind_eq_some_iff.1 h
      obtain ⟨xs, n, hn, hx, hlen, hxl, hg⟩ := DataW.trod_struct hu ht
      have hp := List.find?_some hf
      simp only [Bool.and_eq_true, decide_eq_true_eq] at hp
      obtain ⟨i, hi, hie⟩ := List.getElem_of_mem (List.mem_of_find?_eq_some hf)
      have hfi : fs[i]? = some f := by simp at hi; rw [Array.getElem?_eq_getElem hi]; simpa using hie
      have hgi := hg i f hfi
      have hxi : i < xs.length := by rw [hxl]; simpa using hi
      rw [List.getElem?_eq_getElem hxi] at hgi
      obtain ⟨v, y, n', hv, hy⟩ := leaf_read d f.type (j - f.offset) l n _ _ hl (by simp; omega) hgi
      refine ⟨v, y, n', ?_, hy⟩
      rw [List.getElem?_take, List.getElem?_drop] at hv
      split at hv
      · rwa [show f.offset + (j - f.offset) = j from by omega] at hv
      · cases hv
    · rename_i n e hu
      split at h
      · rename_i hjn
        obtain ⟨xs, n', hn, hx, hlen, hxl, hg⟩ := DataW.trod_array hu ht
        have hc : 0 < P.cellsOf e := by
          rcases Nat.eq_zero_or_pos (P.cellsOf e) with h0 | h0
          · rw [h0] at hjn; omega
          · exact h0
        have hq : j / P.cellsOf e < n := (Nat.div_lt_iff_lt_mul hc).2 hjn
        have hgi := hg (j / P.cellsOf e) hq
        rw [List.getElem?_eq_getElem (by omega)] at hgi
        have hm := Nat.mod_lt j hc
        have hd := Nat.div_add_mod j (P.cellsOf e)
        have hd' : j / P.cellsOf e * P.cellsOf e + j % P.cellsOf e = j := by rw [Nat.mul_comm]; exact hd
        obtain ⟨v, y, n'', hv, hy⟩ := leaf_read d e (j % P.cellsOf e) l n' _ _ h (by simp; omega) hgi
        refine ⟨v, y, n'', ?_, hy⟩
        rw [List.getElem?_take, if_pos hm, List.getElem?_drop, hd'] at hv
        exact hv
      · cases h
    · split at h
      · rename_i hj0
        subst hj0
        obtain rfl : t = l := by simpa using h
        match cs, hj with
        | [v], _ => exact ⟨v, x, fuel, rfl, ht⟩
        | v :: v' :: r, _ =>
          exfalso
          cases fuel with
          | zero => simp [DataW.trod] at ht
          | succ n =>
            unfold DataW.trod at ht
            split at ht <;> simp_all
      · cases h
end
section
variable {H : Type} {enc : TypeId × Value → H} {P : Program} {w : World}
theorem open_rows {t e : TypeId} {C : Nat} {v : Value} {d : DataW H} {p : List MemPlace} (ht : P.underlying t = some (.slice e)) (hC : P.cellsOf e = C) (h : DataW.Trod enc P w 0 (fun _ => true) true t v d p) (hsh : ∃ A len cap, v = .slice A len cap) :
    ∃ (A : Option Addr) (len cap : Nat) (f : Nat → Value), v = .slice A len cap ∧ len ≤ cap ∧ cap ≤ maxLen ∧ ((len = 0 ∧ d = .nil) ∨ ∃ el sp, d = .slice el sp ∧ el.length = len) ∧ Seg w w.heap.size A (len * C) f ∧
      ∀ i, i < len → ∃ (x : DataW H × List MemPlace) (n : Nat) (cs : List Value), DataW.trod enc P w 0 (fun _ => true) true n e cs = some x ∧ cs.length = C ∧ ∀ j, j < C → cs[j]? = some (f (i * C + j)) := by
  obtain ⟨A, len, cap, rfl⟩ := hsh
  obtain ⟨fuel, hf⟩ := h
  rcases Deep.open_slice ht hf with ⟨hcs, hx⟩ | ⟨a, len', cap', m, n, D, Pl, hcs, hb, hl, hm, hmm, hx, hi⟩
  · simp [Value.cells] at hcs
    obtain ⟨rfl, rfl, rfl⟩ := hcs
    simp only [Prod.mk.injEq] at hx
    exact ⟨none, 0, 0, fun _ => undef, rfl, Nat.le_refl _, by simp, .inl ⟨rfl, hx.1⟩, by rw [Nat.zero_mul]; exact Seg.zero, fun i hi => absurd hi (by omega)⟩
  · simp [Value.cells] at hcs
    obtain ⟨rfl, rfl, rfl⟩ := hcs
    simp only [Prod.mk.injEq] at hx
    have hmc : m = cap := by simpa using hmm
    subst hmc
    rw [hC] at hi
    have hrow : ∀ i, i < len → ∃ cs', (cs'.length = C ∧ ∀ j, j < C → w.cell? ((a.add (i * C)).add j) = cs'[j]?) ∧ DataW.trod enc P w 0 (fun _ => true) true n e cs' = some (D i, Pl i) := fun i hil => by
      obtain ⟨cs', hc, ht'⟩ := hi i (by omega)
      obtain ⟨_, hcl, hat⟩ := World.cells?_some hc
      exact ⟨cs', ⟨hcl, hat⟩, ht'⟩
    refine ⟨some a, len, m, fun j => (w.cell? (a.add j)).getD undef, rfl, hl, hm, .inr ⟨_, _, hx.1, by simp⟩, ?_, ?_⟩
    · intro hpos
      have hcell : ∀ j, j < len * C → w.cell? (a.add j) = some ((w.cell? (a.add j)).getD undef) := by
        intro j hj
        have hC0 : 0 < C := by
          rcases Nat.eq_zero_or_pos C with h0 | h0
          · rw [h0] at hj; omega
          · exact h0
        obtain ⟨cs', ⟨hcl, hat⟩, _⟩ := hrow (j / C) ((Nat.div_lt_iff_lt_mul hC0).2 hj)
        have hr := Nat.mod_lt j hC0
        have hd := Nat.div_add_mod j C
        have := hat (j % C) hr
        rw [add_add, show j / C * C + j % C = j from by rw [Nat.mul_comm]; exact hd, List.getElem?_eq_getElem (by omega)] at this
        rw [this]; rfl
      refine ⟨a, rfl, ?_, hcell⟩
      have := World.block_lt_of_cell? _ _ (hcell 0 hpos)
      rwa [add_block] at this
    · intro i hil
      obtain ⟨cs', ⟨hcl, hat⟩, ht'⟩ := hrow i hil
      refine ⟨_, n, cs', ht', hcl, fun j hj => ?_⟩
      have := hat j hj
      rw [add_add, List.getElem?_eq_getElem (by omega)] at this
      show cs'[j]? = some ((w.cell? (a.add (i * C + j))).getD undef)
      rw [this, List.getElem?_eq_getElem (by omega)]; rfl
end
theorem slice_shape {P : Program} {W : World} {r : Reach} {base : Nat} {t e : TypeId} {v : Value} (ht : P.underlying t = some (.slice e)) (hv : Value.okWide P W r base t v) : ∃ A len cap, v = .slice A len cap := okWide_slice ht hv
section
variable {H : Type} {enc : TypeId × Value → H} {P : Program} {w : World} {base : Nat} {spare : Nat → Bool} {held : Bool}
theorem leaf_int {d : Nat} {t : TypeId} {j : Nat} {l : TypeId} {fuel : Nat} {cs : List Value} {x : DataW H × List MemPlace} {k : IntKind} {u : Value} (hl : leafAt P d t j = some l) (hu : P.underlying l = some (.int k)) (hj : cs[j]? = some u)
    (h : DataW.trod enc P w base spare held fuel t cs = some x) : u = .int k (intOf u) ∧ (Lit.int k (intOf u)).wf = true := by
  have hjl : j < cs.length := (List.getElem?_eq_some_iff.1 hj).1
  obtain ⟨v, y, n, hv, hy⟩ := leaf_read d t j l fuel cs x hl hjl h
  rw [hj] at hv
  obtain rfl := Option.some.inj hv
  obtain ⟨z, hz, _, hw⟩ := DataW.trod_int hu hy
  obtain rfl : u = .int k z := by simpa using hz
  exact ⟨rfl, hw⟩
end
theorem below_drewN {B : Nat} {a w : World} (h : Below B a w) (n : Nat) : Below B a (w.drewN n) := ⟨h.os, h.tape, h.output, h.size, h.block⟩
end Go.Proofs.YtimccfnlcnlffaaGreat


namespace Go.Proofs.YtimccfnlcnlffaaGreat.Sx
open Go Go.RowKit
theorem seg_cell {o : Bool} {n : Nat} {f : Nat → Value} {j : Nat} (h : j < n) : (⟨o, n, [(0, n, .agg ⟨segL n f⟩)]⟩ : Chunk).f j = f j := by
  show cellOf _ _ = _
  rw [cellOf_cons, if_pos (by omega)]
  exact segL_get h
theorem reads_seg1 {o : Bool} {m p : Nat} {f : Nat → Value} {v : Value} (hp : p < m) (h1 : v.oneCell' = true) (hv : f p = v) : Reads ⟨o, m, [(0, m, .agg ⟨segL m f⟩)]⟩ p false 1 v :=
  ⟨hp, h1, by rw [seg_cell hp]; exact hv⟩
def lit1 (v : Value) : Bool :=
  match v with
  | .int _ _ | .bool _ | .string _ | .float _ _ | .complex _ _ _ | .nilFunc | .nilIface => true
  | .pointer none | .slice none _ _ => true
  | _ => false
theorem lit1_plain {v : Value} (h : lit1 v = true) : plain1 v = true := by
  cases v with
  | pointer a => cases a <;> first | rfl | (simp [lit1] at h)
  | slice a l c => cases a <;> first | rfl | (simp [lit1] at h)
  | _ => first | rfl | (simp [lit1] at h)
theorem rows_lit {n k : Nat} {f : Nat → Value} (hk : 0 < k) (h : ∀ i, i < n → ∀ j, j < k → lit1 (f (i * k + j)) = true) : ∀ j, j < n * k → lit1 (f j) = true := fun j hj => by
  have := h (j / k) ((Nat.div_lt_iff_lt_mul hk).2 hj) (j % k) (Nat.mod_lt _ hk)
  rwa [show j / k * k + j % k = j from by rw [Nat.mul_comm]; exact Nat.div_add_mod j k] at this
structure Seen where
  a : Addr
  n : Nat
  f : Nat → Value
def SeenIn (w : World) (s : Seen) : Prop := s.a.spot = none ∧ s.a.block < w.heap.size ∧ ∀ j, j < s.n → w.cell? (s.a.add j) = some (s.f j) ∧ plain1 (s.f j) = true
theorem SeenIn.of {w : World} {A : Option Addr} {m : Nat} {f : Nat → Value} (h : Seg w w.heap.size A m f) (hm : 0 < m) (hp : ∀ j, j < m → plain1 (f j) = true) : ∃ a, A = some a ∧ SeenIn w ⟨a, m, f⟩ := by
  obtain ⟨a, rfl, hb, hc⟩ := h hm
  refine ⟨a, rfl, ?_, hb, fun j hj => ⟨hc j hj, hp j hj⟩⟩
  have := hc 0 hm
  cases e : a.spot with
  | none => rfl
  | some s =>
    exfalso
    have e0 : a.add 0 = a := rfl
    rw [e0] at this
    unfold World.cell? at this
    rw [e] at this
    simp at this
    split at this <;> simp at this
theorem okWide_seen {P : Program} {W : World} {r : Reach} {base : Nat} {t e : TypeId} {a : Addr} {len cap : Nat} (ht : P.underlying t = some (.slice e)) (hv : Value.okWide P W r base t (.slice (some a) len cap)) : a.spot = none ∧ a.block < W.heap.size ∧ len ≤ cap := by
  simp only [Value.okWide, ht, Cell.okWide, Cell.ok, World.has] at hv
  obtain ⟨h1, h2, h3, h4, row, cells, h5, _⟩ := hv
  refine ⟨h4, ?_, h1⟩
  unfold World.shape? at h5
  cases e : W.heap[a.block]? with
  | none => rw [e] at h5; simp at h5
  | some o => exact (Array.getElem?_eq_some_iff.1 e).1
theorem okWide_nil {P : Program} {W : World} {r : Reach} {base : Nat} {t e : TypeId} {len cap : Nat} (ht : P.underlying t = some (.slice e)) (hv : Value.okWide P W r base t (.slice none len cap)) : len = 0 ∧ cap = 0 := by
  simp only [Value.okWide, ht, Cell.okWide, Cell.ok] at hv
  split at hv <;> simp_all
theorem SeenIn.some {P : Program} {w : World} {r : Reach} {base : Nat} {t e : TypeId} {a : Addr} {len cap m : Nat} {f : Nat → Value} (ht : P.underlying t = Option.some (.slice e)) (hv : Value.okWide P w r base t (.slice (Option.some a) len cap))
    (h : Seg w w.heap.size (Option.some a) m f) (hp : ∀ j, j < m → lit1 (f j) = true) : SeenIn w ⟨a, m, f⟩ := by
  obtain ⟨h1, h2, _⟩ := okWide_seen ht hv
  refine ⟨h1, h2, fun j hj => ⟨?_, lit1_plain (hp j hj)⟩⟩
  obtain ⟨x, hx, _, hc⟩ := h (Nat.lt_of_le_of_lt (Nat.zero_le _) hj)
  obtain rfl : a = x := by simpa using hx
  exact hc j hj
inductive ArgIs (sg : List Seen) : Value → Value → Prop
  | plain {v : Value} (h : plain2 v = true) : ArgIs sg v v
  | slice {k l c s0 n : Nat} {a : Addr} {f : Nat → Value} (h : sg[k]? = some ⟨a, n, f⟩) : ArgIs sg (.slice (some ⟨k, 0, some s0⟩) l c) (.slice (some a) l c)
section
variable {P : Program} {G : Tys}
end
end Go.Proofs.YtimccfnlcnlffaaGreat.Sx


namespace Go.Proofs.YtimccfnlcnlffaaGreat
open Go Go.RowKit Sx
def encell (x : Ent) : Nat → Value
  | 0 => .int .i64 x.node
  | 1 => .int .i64 x.boot
  | 2 => .int .i64 x.heard
  | 3 => .bool x.has
  | 4 => .int .i64 x.x
  | 5 => .int .i64 x.y
  | 6 => .int .i64 x.a
  | 7 => .int .i64 x.b
  | 8 => .int .i64 x.d
  | _ => .int .i64 x.when_
theorem encell_plain (x : Ent) (k : Nat) : plain1 (encell x k) = true := by unfold encell; split <;> rfl
theorem encell_in (x : Ent) {k : Nat} (h : k < 10) : cellIn (entV x) k = encell x k := by
  match k, h with
  | 0, _ => rfl
  | 1, _ => rfl
  | 2, _ => rfl
  | 3, _ => rfl
  | 4, _ => rfl
  | 5, _ => rfl
  | 6, _ => rfl
  | 7, _ => rfl
  | 8, _ => rfl
  | 9, _ => rfl
theorem encell_zero (j : Nat) : repZ 10 (entV Ent.zero) j = encell (Ent.zero) (j % 10) := by
  unfold repZ
  have h : j % 10 < 10 := Nat.mod_lt _ (by decide)
  generalize j % 10 = k at h
  match k, h with
  | 0, _ => rfl
  | 1, _ => rfl
  | 2, _ => rfl
  | 3, _ => rfl
  | 4, _ => rfl
  | 5, _ => rfl
  | 6, _ => rfl
  | 7, _ => rfl
  | 8, _ => rfl
  | 9, _ => rfl
abbrev enC (o : Bool) (c : Nat) (T : Nat → Ent) : Chunk := ⟨o, c * 10, [(0, c * 10, .agg ⟨segL (c * 10) (fun j => encell (T (j / 10)) (j % 10))⟩)]⟩
theorem enC_f {o : Bool} {c j : Nat} {T : Nat → Ent} (h : j < c * 10) : (enC o c T).f j = encell (T (j / 10)) (j % 10) := seg_cell h
theorem enC_re {ix : List (Nat × Nat)} {o o' : Bool} {c : Nat} {T T' : Nat → Ent} (h : ∀ i, i < c → T i = T' i) : ChunkRe ix (enC o c T) (enC o' c T') := fun j hj => by
  have hj : j < c * 10 := hj
  rw [seg_cell hj, seg_cell hj, h (j / 10) (by omega)]; exact .plain (encell_plain _ _)
theorem enC_post {ix : List (Nat × Nat)} {c : Nat} {T T' : Nat → Ent} {hp : List (Option Chunk)} {n : Nat} (h : ∀ i, i < c → T i = T' i) (hh : hp[n]? = some (some (enC true c T'))) : PostC ix hp n (enC true c T) := ⟨_, hh, id, Nat.le_refl _, enC_re h⟩
theorem enC_ren {ix : List (Nat × Nat)} {c : Nat} {T T' : Nat → Ent} (h : ∀ i, i < c → T i = T' i) : ChunkReLe ix (enC true c T) (enC true c T') := ⟨id, Nat.le_refl _, enC_re h⟩
theorem rd_en {o : Bool} {c p n : Nat} {T : Nat → Ent} (i : Nat) (hn : n = 10) (h : i < c) (e : p = i * 10) : Reads (enC o c T) p true n (entV (T i)) := by
  subst e hn
  refine ⟨by show i * 10 + 10 ≤ c * 10; omega, _, rfl, rfl, fun j hj => ?_⟩
  rw [seg_cell (by omega), show (i * 10 + j) / 10 = i from by omega, show (i * 10 + j) % 10 = j from by omega]
  exact (encell_in _ hj).symm
def seten (T : Nat → Ent) (l : Nat) (x : Ent) (i : Nat) : Ent := if i = l then x else T i
theorem wr_en {c l p : Nat} {T : Nat → Ent} {x : Ent} (h : l < c) (e : p = l * 10) : Writes (enC true c T) p (1 * 10) (entV x) (enC true c (seten T l x)) := by
  subst e
  refine ⟨rfl, by show l * 10 + 1 * 10 ≤ c * 10; omega, rfl, fun j hj => ?_⟩
  have hj : j < c * 10 := hj
  rw [seg_cell hj, seg_cell hj]
  unfold seten
  by_cases e : l * 10 ≤ j ∧ j < l * 10 + 1 * 10
  · rw [if_pos e, if_pos (by omega), encell_in _ (by omega)]
    congr 1; omega
  · rw [if_neg e, if_neg (by omega)]
def growen (T : Nat → Ent) (l : Nat) (x : Ent) (i : Nat) : Ent := if i < l then T i else if i = l then x else Ent.zero
theorem grown_en {ci : Chunk} {l cap : Nat} {T : Nat → Ent} {x : Ent} (h : l < cap) (hc : ∀ j, j < l * 10 → ci.f j = encell (T (j / 10)) (j % 10)) {j : Nat} (hj : j < cap * 10) : (grown ci l 1 10 (entV x) (entV Ent.zero) cap).f j = encell (growen T l x (j / 10)) (j % 10) := by
  unfold growen
  by_cases h1 : j < l * 10
  · rw [grown_old h1, if_pos (by omega)]; exact hc j h1
  · rw [if_neg (by omega)]
    by_cases h2 : j < (l + 1) * 10
    · have := grown_new (ci := ci) (l := l) (m := 1) (size := 10) (cap := cap) (v := entV x) (z := entV Ent.zero) (j := j - l * 10) (by omega)
      rw [show l * 10 + (j - l * 10) = j from by omega] at this
      rw [this, if_pos (by omega), encell_in _ (by omega)]
      congr 1; omega
    · rw [grown_zero (by omega) hj, if_neg (by omega)]; exact encell_zero j
theorem grownen_ren {ix : List (Nat × Nat)} {ci : Chunk} {l cap : Nat} {T T' : Nat → Ent} {x : Ent} (h : l < cap) (hc : ∀ j, j < l * 10 → ci.f j = encell (T (j / 10)) (j % 10)) (he : ∀ i, i < cap → T' i = growen T l x i) : ChunkReLe ix (enC true cap T') (grown ci l 1 10 (entV x) (entV Ent.zero) cap) :=
  ⟨fun _ => rfl, by show cap * 10 ≤ cap * 10; omega, fun j hj => by
    have hj : j < cap * 10 := hj
    rw [seg_cell hj, grown_en h hc hj, he _ (by omega)]; exact .plain (encell_plain _ _)⟩
def entT (E : List (Int × Ent)) (i : Nat) : Ent := match (sortK E)[i]? with
  | some k => (dGet E k).getD Ent.zero
  | none => Ent.zero
theorem entT_in {E : List (Int × Ent)} {i : Nat} {k : Int} {e : Ent} (h : (sortK E)[i]? = some k) (he : dGet E k = some e) : entT E i = e := by
  unfold entT; rw [h]; simp only [he]; rfl
theorem sortK_get {E : List (Int × Ent)} {i : Nat} (h : i < E.length) : ∃ k, (sortK E)[i]? = some k ∧ ∃ e, (k, e) ∈ E := by
  have hl : i < (sortK E).length := by rw [sortK_len]; exact h
  refine ⟨(sortK E)[i], by simp [hl], ?_⟩
  have : (sortK E)[i] ∈ E.map (·.1) := (sortK_perm E).mem_iff.1 (List.getElem_mem hl)
  obtain ⟨q, hq, e⟩ := List.mem_map.1 this
  exact ⟨q.2, by rw [← e]; exact hq⟩
theorem dGet_has {α : Type} {E : List (Int × α)} {k : Int} {e : α} (h : (k, e) ∈ E) : ∃ e', dGet E k = some e' := by
  cases hg : dGet E k with
  | some e' => exact ⟨e', rfl⟩
  | none => exact absurd rfl (dGet_none.1 hg _ h)
abbrev mainG (x : Ext) (o : Bool) (most : Int) (i j : Nat) : Chunk := @Chunk.mk x o 3 [(0, 3, .agg ⟨[.int .i64 most, .map (some i), .map (some j)]⟩)]
abbrev main2 (most : Int) : Chunk := ⟨false, 2, [(0, 2, .agg ⟨[.int .i64 most, .map (some 1)]⟩)]⟩
theorem main2_re {ix : List (Nat × Nat)} {x : Ext} {o : Bool} {most : Int} {i j : Nat} (hi : ixK ix 1 = some i) : ChunkRe ix (mainG x o most i j) (main2 most) := fun l hl => by
  match l, hl with
  | 0, _ => exact .plain rfl
  | 1, _ => exact .map hi
theorem map_re {ix : List (Nat × Nat)} {α : Type} {enc : α → Value} {D D' : List (Int × α)} : ChunkRe ix (mapC enc D) (mapC enc D') := fun j hj => absurd hj (Nat.not_lt_zero j)
theorem map_post {ix : List (Nat × Nat)} {α : Type} {enc : α → Value} {D : List (Int × α)} {h : List (Option Chunk)} {k : Nat} (hh : h[k]? = some (some (mapC enc D))) : PostC ix h k (mapC enc D) := ⟨_, hh, id, Nat.le_refl _, fun j hj => absurd hj (Nat.not_lt_zero j)⟩
def allR (E : List (Int × Ent)) (k : Nat) (pre : List (Nat × Chunk)) (v : Value) (ms : List (Nat × Chunk)) : Prop :=
  (E = [] ∧ v = .slice none 0 0 ∧ ms = pre) ∨ ∃ cap, 0 < E.length ∧ E.length ≤ cap ∧ v = .slice (some ⟨k, 0, some 0⟩) E.length cap ∧ ms = pre ++ [(k, enC true cap (fun i => if i < E.length then entT E i else Ent.zero))]
theorem enC_safe {c : Nat} {T : Nat → Ent} {h : List (Option Chunk)} {j : Nat} (hj : j < c * 10) : Safe1 h ((enC true c T).f j) := by
  rw [enC_f hj]
  generalize T (j / 10) = x
  generalize j % 10 = k
  unfold encell
  split <;> trivial
theorem re_eq {ix : List (Nat × Nat)} {v u : Value} (h : v = u) (hp : plain3 v = true) : Re ix v u := by subst h; exact .plain hp
theorem int_eq {k : IntKind} {a b : Int} (h : a = b) : Value.int k a = .int k b := by rw [h]
def allF (E : List (Int × Ent)) (r i : Nat) : Ent := if i < r then entT E i else Ent.zero
theorem N_loopD {P : Program} {G : Tys} {n0 : Nat} {c : Code} {A : (Exit → St → Prop) → St → Prop} {Q : Exit → St → Prop} {t : List (Option Value)} {h : List (Option Chunk)} (mk : Nat) (hw : updK mk [] t 0 fun t' => wkK n0 ⟨t, h⟩ ⟨t', h⟩ (N True)) (k : updK mk [] t 0 fun t' => N (LoopN P G n0 c A Q ⟨t', h⟩)) : N (LoopN P G n0 c A Q ⟨t, h⟩) := by
  have h1 := (wk_out (updK_iff.1 hw)).1
  obtain ⟨α, mk', inv, μ, nx, p1, ⟨x, p2, p3⟩, p4⟩ := (updK_iff.1 k).out
  exact N.mk ⟨α, mk', inv, μ, nx, p1, ⟨x, p2, fun X ρ a w hn R => p3 X ρ a w hn (by subst hn; exact h1.rel R)⟩, p4⟩
theorem rd_ints {l : List Int} {p n : Nat} {x : Int} (i : Nat) (hn : n = 1) (h : l[i]? = some x) (e : p = i * 1) : Reads (intsC l) p false n (.int .i64 x) := by
  subst e hn
  have hl := (List.getElem?_eq_some_iff.1 h).1
  exact ⟨by show i * 1 < l.length; omega, rfl, by rw [Nat.mul_one]; exact intsC_f h⟩
theorem rd_all {o : Bool} {n m : Nat} {l : List Value} (hl : l.length = n) (hm : m = n) : Reads ⟨o, n, [(0, n, .agg ⟨l⟩)]⟩ 0 true m (.agg ⟨l⟩) := by
  subst hm
  refine ⟨by show 0 + m ≤ m; omega, _, rfl, hl, fun j hj => ?_⟩
  show cellOf [(0, m, .agg ⟨l⟩)] (0 + j) = _
  rw [cellOf_cons, if_pos (by omega)]
  simp [cellIn]
theorem App0_mk {cj : Chunk} {g m size bytes : Nat} {z : Value} {slot : Nat} {K : Value → List (Nat × Chunk) → Prop} (v : Value) (hr : Reads cj g true (m * size) v) (h0 : 0 < m) (h1 : m ≤ 9223372036854775807) (h2 : m * bytes ≤ 140737488355328)
    (k : ∀ cap, m ≤ cap → K (.slice (some ⟨slot, 0, some 0⟩) m cap) [(slot, grown ⟨true, 0, []⟩ 0 m size v z cap)]) : N (App0N cj g m size bytes z slot K) := N.mk (.inl ⟨v, hr, h0, h1, h2, k⟩)
theorem App_mk {ci : Chunk} {k s l c : Nat} {cj : Chunk} {g m size bytes : Nat} {z : Value} {slot : Nat} {K : Value → List (Nat × Chunk) → Prop} (v : Value) (hr : Reads cj g true (m * size) v) (hf : flatB v (m * size) = true) (hl : l * size ≤ ci.n) (h1 : l + m ≤ 9223372036854775807) (h2 : (l + m) * bytes ≤ 140737488355328)
    (d : Chunk) (hw : l + m ≤ c → Writes ci (l * size) (m * size) v d) (k1 : l + m ≤ c → K (.slice (some ⟨k, 0, some s⟩) (l + m) c) [(k, d)]) (k2 : c < l + m → ∀ cap, l + m ≤ cap → K (.slice (some ⟨slot, 0, some 0⟩) (l + m) cap) [(slot, grown ci l m size v z cap)]) : N (AppN ci k s l c cj g m size bytes z slot K) :=
  N.mk ⟨v, hr, hf, hl, h1, h2, fun h => ⟨d, hw h, k1 h⟩, k2⟩
theorem main_ren {ix : List (Nat × Nat)} {F : List ((Nat × Nat) × Win)} {most : Int} (h1 : ixK ix 1 = some 1) (h2 : ixK ix 2 = some 2) : ChunkReLe ix (mainC F most) (mainC F most) := ⟨id, Nat.le_refl _, fun j hj => by
  match j, hj with
  | 0, _ => exact .plain rfl
  | 1, _ => exact .map h1
  | 2, _ => exact .map h2⟩
theorem main2_ren {ix : List (Nat × Nat)} {most : Int} (h1 : ixK ix 1 = some 1) : ChunkReLe ix (main2 most) (main2 most) := ⟨id, Nat.le_refl _, fun j hj => by
  match j, hj with
  | 0, _ => exact .plain rfl
  | 1, _ => exact .map h1⟩
theorem map_ren {ix : List (Nat × Nat)} {α : Type} {enc : α → Value} {D : List (Int × α)} : ChunkReLe ix (mapC enc D) (mapC enc D) := ⟨id, Nat.le_refl _, fun j hj => absurd hj (Nat.not_lt_zero j)⟩
theorem key_ren {ix : List (Nat × Nat)} (h1 : ixK ix 1 = some 1) : ChunkReLe ix (keyC 1) (keyC 1) := ⟨id, Nat.le_refl _, fun j hj => by
  match j, hj with
  | 0, _ => exact .map h1⟩
theorem ints_ren {ix : List (Nat × Nat)} {l : List Int} : ChunkReLe ix (intsC l) (intsC l) := ⟨id, Nat.le_refl _, fun j hj => by
  have hj : j < l.length := hj
  have e : l[j]? = some l[j] := by simp [hj]
  rw [intsC_f e]; exact .plain rfl⟩
theorem callAll_mono {P : Program} {g : FuncId} {vs : List Value} {h : List (Option Chunk)} {R R' : Value → List (Nat × Chunk) → Prop} (hc : CallAll P g vs h R) (hr : ∀ v ms, R v ms → R' v ms) : CallAll P g vs h R' := fun X ρ w xs H hx => by
  rcases hc X ρ w xs H hx with ⟨x, w', h1, v, ms, ρ', h2, h3⟩ | ⟨h1, h2⟩
  · exact .inl ⟨x, w', h1, v, ms, ρ', hr _ _ h2, h3⟩
  · refine .inr ⟨h1, h2.mono ?_⟩
    rintro e w' ⟨x, he, v, ms, ρ', h3, h4⟩
    exact ⟨x, he, v, ms, ρ', hr _ _ h3, h4⟩
theorem cAllT (T : Tbl) (hE : T.E.length ≤ 64) (i K : Nat) (h : List (Option Chunk)) (hi : h[i]? = some (some (tblC T))) (hK : h[K]? = some none) :
    CallAll Tryz.prog 18 [.pointer (some ⟨i, 0, some 0⟩)] h (allR T.E K [(i, tblC T)]) := by
  have key := call_resall (G := tys) (h := h) (vs := [.pointer (some ⟨i, 0, some 0⟩)]) (livesOK T.lives) (tblH T) (α := Option Nat) (fun κ => match κ with | none => T.E = [] | some cap => 0 < T.E.length ∧ T.E.length ≤ cap) (fun κ => match κ with | none => .slice none 0 0 | some cap => .slice (some ⟨K, 0, some 0⟩) T.E.length cap) [⟨i, tblC T, tblC T, tblC T⟩] (fun _ => [tblC T])
    (fun κ => match κ with | none => [] | some cap => [⟨K, 8, enC true cap (fun i => if i < T.E.length then entT T.E i else Ent.zero)⟩]) [.pointer (some ⟨0, 0, some 0⟩)] tysOK mixed Tryz.func18 (by rfl) (Tryz.call18) ⟨hi, trivial⟩ ⟨⟨fun h => ⟨rfl, Nat.le_refl _⟩, Nat.le_refl _, fun j hj => absurd hj (Nat.not_lt_zero j)⟩, trivial⟩ (fun κ _ => ⟨⟨fun h => ⟨rfl, Nat.le_refl _⟩, Nat.le_refl _, fun j hj => absurd hj (Nat.not_lt_zero j)⟩, trivial⟩) (by simp [Apart]) ⟨.inr ⟨rfl, rfl⟩, trivial⟩ (fun κ hκ => by
      cases κ with
      | none => exact trivial
      | some cap => exact ⟨⟨hK, rfl, .inl (by show 0 < cap * 10; have := hκ.1; have := hκ.2; omega), by simp⟩, trivial⟩) ⟨.ptr rfl, trivial⟩ pack_opens ?_
  · refine callAll_mono key fun v ms hR => ?_
    obtain ⟨κ, hκ, rfl, rfl⟩ := hR
    cases κ with
    | none => exact .inl ⟨hκ, rfl, rfl⟩
    | some cap => exact .inr ⟨cap, hκ.1, hκ.2, rfl, rfl⟩
  intro β hβ
  repeat' (refine N.go ?_; first | with_reducible (first | refine N.obl (by decide) ?_ | refine N.eq ?_ | refine N.obl rfl ?_ | refine N.obl ⟨by kernel_rfl, by kernel_rfl⟩ ?_ | refine N.alt ?_ | refine N.forkT ?_ | refine N.forkF ?_) | refine N.call (cKeysT 1 3 _ _ (by rfl) (by rfl)) ?_ | fail)
  refine N.go ?_
  refine N.callAll (cSortedT T.E 1 3 7 _ _ (by rfl) rfl (by rfl) (by rfl) (by omega)) fun v ms hR => ?_
  rcases hR with ⟨hE0, rfl, rfl⟩ | ⟨kc, hpos, hkc, rfl, rfl⟩
  · repeat' (refine N.go ?_; first | with_reducible (first | refine N.obl (by decide) ?_ | refine N.eq ?_ | refine N.obl rfl ?_ | refine N.obl ⟨by kernel_rfl, by kernel_rfl⟩ ?_ | refine N.alt ?_ | refine N.forkT ?_ | refine N.forkF ?_) | refine N.forkYes (by rw [decide_eq_true_eq]; omega) ?_ | refine N.forkNo (by rw [decide_eq_false_iff_not]; omega) ?_ | fail)
    refine N.go ?_
    refine N.roll 1 ?_
    repeat' (refine N.go ?_; first | with_reducible (first | refine N.obl (by decide) ?_ | refine N.eq ?_ | refine N.obl rfl ?_ | refine N.obl ⟨by kernel_rfl, by kernel_rfl⟩ ?_ | refine N.alt ?_ | refine N.forkT ?_ | refine N.forkF ?_) | refine N.forkYes (by rw [decide_eq_true_eq]; omega) ?_ | refine N.forkNo (by rw [decide_eq_false_iff_not]; omega) ?_ | fail)
    refine N.go ?_
    refine tblClose T β 0 1 2 [] tbl_piece (fun i hi => .inl (by simpa using hi)) hβ (by rfl) (by rfl) (by rfl) (by rfl) (by rfl) (by rfl) (by rfl) (by rfl) (by rfl) (by decide) (fun k hk => by cases hk) safe0 (plain_sc rfl) ?_
    refine N.some none ⟨hE0, ?_⟩
    refine N.obl (.plain rfl) ?_
    refine N.obl ⟨⟨_, rfl, id, Nat.le_refl _, fun j hj => absurd hj (Nat.not_lt_zero j)⟩, trivial⟩ ?_
    refine N.obl trivial ?_
    refine N.obl ⟨⟨.inr ⟨_, rfl, rfl⟩, trivial⟩, trivial⟩ ?_
    exact N.true
  · repeat' (refine N.go ?_; first | with_reducible (first | refine N.obl (by decide) ?_ | refine N.eq ?_ | refine N.obl rfl ?_ | refine N.obl ⟨by kernel_rfl, by kernel_rfl⟩ ?_ | refine N.alt ?_ | refine N.forkT ?_ | refine N.forkF ?_) | refine N.forkYes (by rw [decide_eq_true_eq]; omega) ?_ | refine N.forkNo (by rw [decide_eq_false_iff_not]; omega) ?_ | fail)
    refine N.go ?_
    refine N_loopD 4096 ?_ ?_
    · repeat' (refine N.go ?_; first | with_reducible (first | refine N.obl (by decide) ?_ | refine N.eq ?_ | refine N.obl rfl ?_ | refine N.obl ⟨by kernel_rfl, by kernel_rfl⟩ ?_ | refine N.alt ?_ | refine N.forkT ?_ | refine N.forkF ?_) | exact N.true | with_reducible refine N.obl (ChunkLe.refl _) ?_ | fail)
    refine N.go ?_
    refine N.loopR (α := Option (Nat × Nat)) (fun x => match x with | none => True | some q => 1 ≤ q.1 ∧ q.1 ≤ T.E.length ∧ q.1 ≤ q.2) (fun x => match x with | none => T.E.length | some q => T.E.length - q.1) (fun x => match x with | none => [(15, .int .i64 0), (3, .slice none 0 0)] | some q => [(15, .int .i64 (q.1 : Int)), (3, .slice (some ⟨8, 0, some 0⟩) q.1 q.2)]) (fun x => match x with | none => [] | some q => [(8, enC true q.2 (allF T.E q.1))]) none [(0, 0), (1, 1), (2, 2), (3, 3), (7, 7)] trivial ?_ ?_
    · repeat' (refine N.go ?_; first | with_reducible (first | refine N.obl (by decide) ?_ | refine N.eq ?_ | refine N.obl rfl ?_ | refine N.obl ⟨by kernel_rfl, by kernel_rfl⟩ ?_ | refine N.alt ?_ | refine N.forkT ?_ | refine N.forkF ?_) | exact N.true | refine N.obl (main2_ren (by rfl)) ?_ | refine N.obl (main_ren (by rfl) (by rfl)) ?_ | refine N.obl map_ren ?_ | refine N.obl (key_ren (by rfl)) ?_ | refine N.obl ints_ren ?_ | refine N.obl (.plain (by rfl)) ?_ | refine N.obl (.one (.ptr rfl)) ?_ | refine N.obl (.one (.map rfl)) ?_ | refine N.obl (.one (.slice rfl)) ?_ | fail)
    · intro x hx
      cases x with
      | none =>
        obtain ⟨k0, hk0, e0, he0⟩ := sortK_get (E := T.E) (i := 0) hpos
        obtain ⟨e1, hg⟩ := dGet_has he0
        repeat' (refine N.go ?_; first | with_reducible (first | refine N.obl (by decide) ?_ | refine N.eq ?_ | refine N.obl rfl ?_ | refine N.obl ⟨by kernel_rfl, by kernel_rfl⟩ ?_ | refine N.alt ?_ | refine N.forkT ?_ | refine N.forkF ?_) | refine N.forkYes (by rw [decide_eq_true_eq]; omega) ?_ | refine N.forkNo (by rw [decide_eq_false_iff_not]; omega) ?_ | fail)
        refine N.go ?_
        refine N.idx 0 1 rfl hpos ?_
        repeat' (refine N.go ?_; first | with_reducible (first | refine N.obl (by decide) ?_ | refine N.eq ?_ | refine N.obl rfl ?_ | refine N.obl ⟨by kernel_rfl, by kernel_rfl⟩ ?_ | refine N.alt ?_ | refine N.forkT ?_ | refine N.forkF ?_) | refine N.load _ (rd_ints 0 rfl hk0 rfl) ?_ | refine N_look entV T.E rfl Tryz.underlying58 Tryz.underlying3 Tryz.type42 rfl (entV e1) (by rw [hg]; rfl) rfl ?_ | refine N.forkYes (by rw [decide_eq_true_eq]; omega) ?_ | refine N.forkNo (by rw [decide_eq_false_iff_not]; omega) ?_ | fail)
        refine N.go ?_
        refine App0_mk (entV e1) (rd_all (by rfl) (by rfl)) (by decide) (by decide) (by decide) fun cap hcap => ?_
        repeat' (refine N.go ?_; first | with_reducible (first | refine N.obl (by decide) ?_ | refine N.eq ?_ | refine N.obl rfl ?_ | refine N.obl ⟨by kernel_rfl, by kernel_rfl⟩ ?_ | refine N.alt ?_ | refine N.forkT ?_ | refine N.forkF ?_) | refine N.forkYes (by rw [decide_eq_true_eq]; omega) ?_ | refine N.forkNo (by rw [decide_eq_false_iff_not]; omega) ?_ | fail)
        refine N.go ?_
        refine N.nextR (some (1, cap)) [(0, 0), (1, 1), (2, 2), (3, 3), (7, 7), (9, 8)] ⟨⟨Nat.le_refl _, hpos, hcap⟩, by show T.E.length - 1 < T.E.length; omega⟩ ?_
        have hgr : ∀ i, i < cap → allF T.E 1 i = growen (fun _ => Ent.zero) 0 e1 i := fun i _ => by
          unfold allF growen
          by_cases h0 : i = 0
          · subst h0; rw [if_pos (by omega), if_neg (by omega), if_pos rfl]; exact entT_in hk0 hg
          · rw [if_neg (by omega), if_neg (by omega), if_neg h0]
        repeat' (refine N.go ?_; first | with_reducible (first | refine N.obl (by decide) ?_ | refine N.eq ?_ | refine N.obl rfl ?_ | refine N.obl ⟨by kernel_rfl, by kernel_rfl⟩ ?_ | refine N.alt ?_ | refine N.forkT ?_ | refine N.forkF ?_) | exact N.true | refine N.obl (main2_ren (by rfl)) ?_ | refine N.obl (main_ren (by rfl) (by rfl)) ?_ | refine N.obl map_ren ?_ | refine N.obl (key_ren (by rfl)) ?_ | refine N.obl ints_ren ?_ | refine N.obl (.plain (by rfl)) ?_ | refine N.obl (.one (.ptr rfl)) ?_ | refine N.obl (.one (.map rfl)) ?_ | refine N.obl (.one (.slice rfl)) ?_ | refine N.obl (re_eq (int_eq (by rw [i64s _ (by omega) (by omega)]; omega)) rfl) ?_ | refine N.obl (grownen_ren (l := 0) hcap (fun j hj => absurd hj (by omega)) hgr) ?_ | fail)
      | some q =>
        obtain ⟨r, c⟩ := q
        obtain ⟨q1, q2, q3⟩ := hx
        have q1 : 1 ≤ r := q1
        have q2 : r ≤ T.E.length := q2
        have q3 : r ≤ c := q3
        by_cases hlt : r < T.E.length
        · obtain ⟨k0, hk0, e0, he0⟩ := sortK_get (E := T.E) (i := r) hlt
          obtain ⟨e1, hg⟩ := dGet_has he0
          have hset : allF T.E (r + 1) = seten (allF T.E r) r e1 := by
            funext i
            unfold allF seten
            by_cases h0 : i = r
            · subst h0; rw [if_pos (by omega), if_pos rfl]; exact entT_in hk0 hg
            · rw [if_neg h0]
              by_cases h1 : i < r
              · rw [if_pos (by omega)]; exact (if_pos h1).symm
              · rw [if_neg (by omega)]; exact (if_neg h1).symm
          have hgr : ∀ cap i, i < cap → allF T.E (r + 1) i = growen (allF T.E r) r e1 i := fun cap i _ => by
            rw [hset]
            unfold seten growen
            by_cases h0 : i < r
            · rw [if_neg (by omega), if_pos h0]
            · rw [if_neg h0]
              by_cases h1 : i = r
              · rw [if_pos h1, if_pos h1]
              · rw [if_neg h1, if_neg h1]; unfold allF; rw [if_neg h0]
          repeat' (refine N.go ?_; first | with_reducible (first | refine N.obl (by decide) ?_ | refine N.eq ?_ | refine N.obl rfl ?_ | refine N.obl ⟨by kernel_rfl, by kernel_rfl⟩ ?_ | refine N.alt ?_ | refine N.forkT ?_ | refine N.forkF ?_) | refine N.forkYes (by rw [decide_eq_true_eq]; omega) ?_ | refine N.forkNo (by rw [decide_eq_false_iff_not]; omega) ?_ | fail)
          refine N.go ?_
          refine N.idx r 1 rfl hlt ?_
          repeat' (refine N.go ?_; first | with_reducible (first | refine N.obl (by decide) ?_ | refine N.eq ?_ | refine N.obl rfl ?_ | refine N.obl ⟨by kernel_rfl, by kernel_rfl⟩ ?_ | refine N.alt ?_ | refine N.forkT ?_ | refine N.forkF ?_) | refine N.load _ (rd_ints r rfl hk0 (by first | rfl | omega)) ?_ | refine N_look entV T.E rfl Tryz.underlying58 Tryz.underlying3 Tryz.type42 rfl (entV e1) (by rw [hg]; rfl) rfl ?_ | refine N.forkYes (by rw [decide_eq_true_eq]; omega) ?_ | refine N.forkNo (by rw [decide_eq_false_iff_not]; omega) ?_ | fail)
          refine N.go ?_
          refine App_mk (entV e1) (rd_all (by rfl) (by rfl)) (by rfl) (by show r * 10 ≤ c * 10; omega) (by omega) (by show (r + 1) * 80 ≤ _; omega) (enC true c (seten (allF T.E r) r e1)) (fun h => wr_en (by omega) rfl) (fun hr => ?_) (fun hg2 cap hcap => ?_)
          · repeat' (refine N.go ?_; first | with_reducible (first | refine N.obl (by decide) ?_ | refine N.eq ?_ | refine N.obl rfl ?_ | refine N.obl ⟨by kernel_rfl, by kernel_rfl⟩ ?_ | refine N.alt ?_ | refine N.forkT ?_ | refine N.forkF ?_) | refine N.forkYes (by rw [decide_eq_true_eq]; omega) ?_ | refine N.forkNo (by rw [decide_eq_false_iff_not]; omega) ?_ | fail)
            refine N.go ?_
            refine N.nextR (some (r + 1, c)) [(0, 0), (1, 1), (2, 2), (3, 3), (7, 7), (8, 8)] ⟨⟨by show 1 ≤ r + 1; omega, hlt, hr⟩, by show T.E.length - (r + 1) < T.E.length - r; omega⟩ ?_
            repeat' (refine N.go ?_; first | with_reducible (first | refine N.obl (by decide) ?_ | refine N.eq ?_ | refine N.obl rfl ?_ | refine N.obl ⟨by kernel_rfl, by kernel_rfl⟩ ?_ | refine N.alt ?_ | refine N.forkT ?_ | refine N.forkF ?_) | exact N.true | refine N.obl (main2_ren (by rfl)) ?_ | refine N.obl (main_ren (by rfl) (by rfl)) ?_ | refine N.obl map_ren ?_ | refine N.obl (key_ren (by rfl)) ?_ | refine N.obl ints_ren ?_ | refine N.obl (.plain (by rfl)) ?_ | refine N.obl (.one (.ptr rfl)) ?_ | refine N.obl (.one (.map rfl)) ?_ | refine N.obl (.one (.slice rfl)) ?_ | refine N.obl (re_eq (int_eq (by rw [i64s _ (by omega) (by omega)]; omega)) rfl) ?_ | refine N.obl (enC_ren (fun i _ => by rw [hset])) ?_ | fail)
          · repeat' (refine N.go ?_; first | with_reducible (first | refine N.obl (by decide) ?_ | refine N.eq ?_ | refine N.obl rfl ?_ | refine N.obl ⟨by kernel_rfl, by kernel_rfl⟩ ?_ | refine N.alt ?_ | refine N.forkT ?_ | refine N.forkF ?_) | refine N.forkYes (by rw [decide_eq_true_eq]; omega) ?_ | refine N.forkNo (by rw [decide_eq_false_iff_not]; omega) ?_ | fail)
            refine N.go ?_
            refine N.nextR (some (r + 1, cap)) [(0, 0), (1, 1), (2, 2), (3, 3), (7, 7), (10, 8)] ⟨⟨by show 1 ≤ r + 1; omega, hlt, hcap⟩, by show T.E.length - (r + 1) < T.E.length - r; omega⟩ ?_
            repeat' (refine N.go ?_; first | with_reducible (first | refine N.obl (by decide) ?_ | refine N.eq ?_ | refine N.obl rfl ?_ | refine N.obl ⟨by kernel_rfl, by kernel_rfl⟩ ?_ | refine N.alt ?_ | refine N.forkT ?_ | refine N.forkF ?_) | exact N.true | refine N.obl (main2_ren (by rfl)) ?_ | refine N.obl (main_ren (by rfl) (by rfl)) ?_ | refine N.obl map_ren ?_ | refine N.obl (key_ren (by rfl)) ?_ | refine N.obl ints_ren ?_ | refine N.obl (.plain (by rfl)) ?_ | refine N.obl (.one (.ptr rfl)) ?_ | refine N.obl (.one (.map rfl)) ?_ | refine N.obl (.one (.slice rfl)) ?_ | refine N.obl (re_eq (int_eq (by rw [i64s _ (by omega) (by omega)]; omega)) rfl) ?_ | refine N.obl (grownen_ren (ci := enC true c (allF T.E r)) hcap (fun j hj => enC_f (by omega)) (hgr cap)) ?_ | fail)
        · obtain rfl : r = T.E.length := by omega
          repeat' (refine N.go ?_; first | with_reducible (first | refine N.obl (by decide) ?_ | refine N.eq ?_ | refine N.obl rfl ?_ | refine N.obl ⟨by kernel_rfl, by kernel_rfl⟩ ?_ | refine N.alt ?_ | refine N.forkT ?_ | refine N.forkF ?_) | refine N.forkYes (by rw [decide_eq_true_eq]; omega) ?_ | refine N.forkNo (by rw [decide_eq_false_iff_not]; omega) ?_ | fail)
          refine N.go ?_
          refine tblClose T β 0 1 2 [8] tbl_piece (fun i hi => .inl (by simpa using hi)) hβ (by rfl) (by rfl) (by rfl) (by rfl) (by rfl) (by rfl) (by rfl) (by rfl) (by rfl) (by decide) (fun k hk => by simp at hk; omega) (fun k hk d hd l hl => ?_) (fun ρ ρ' ha => by have := ha 8 ⟨_, rfl⟩; simp [den, den2, den1, den0, denA, this]) ?_
          · obtain rfl : k = 8 := by simpa using hk
            obtain rfl : enC true c (allF T.E T.E.length) = d := by simpa using hd
            exact enC_safe hl
          refine N.some (some c) ⟨⟨q1, q3⟩, ?_⟩
          refine N.obl (.one (.slice rfl)) ?_
          refine N.obl ⟨⟨_, rfl, id, Nat.le_refl _, fun j hj => absurd hj (Nat.not_lt_zero j)⟩, trivial⟩ ?_
          refine N.obl ⟨⟨Nat.le_of_ble_eq_true rfl, enC_post (T' := allF T.E T.E.length) (fun _ _ => rfl) (by rfl)⟩, trivial⟩ ?_
          refine N.obl ⟨⟨.inr ⟨_, rfl, rfl⟩, trivial⟩, .inl rfl, trivial⟩ ?_
          exact N.true
theorem cAllI (x : Ext) (o : Bool) (most : Int) (E : List (Int × Ent)) (hE : E.length ≤ 64) (i i1 i2 K : Nat) (h : List (Option Chunk)) (hi : h[i]? = some (some (mainG x o most i1 i2))) (h1 : h[i1]? = some (some (mapC entV E))) (hii : i ≠ i1) (hK : h[K]? = some none) :
    CallAll Tryz.prog 18 [.pointer (some ⟨i, 0, some 0⟩)] h (allR E K [(i1, mapC entV E)]) := by
  have key := call_resall (G := tys) (h := h) (vs := [.pointer (some ⟨i, 0, some 0⟩)]) (fun _ : Unit => True) (fun _ => _) (α := Option Nat) (fun κ => match κ with | none => E = [] | some cap => 0 < E.length ∧ E.length ≤ cap) (fun κ => match κ with | none => .slice none 0 0 | some cap => .slice (some ⟨K, 0, some 0⟩) E.length cap) [⟨i, _, main2 most, noC⟩, ⟨i1, mapC entV E, mapC entV E, mapC entV E⟩] (fun _ => [noC, mapC entV E])
    (fun κ => match κ with | none => [] | some cap => [⟨K, 7, enC true cap (fun i => if i < E.length then entT E i else Ent.zero)⟩]) [.pointer (some ⟨0, 0, some 0⟩)] tysOK mixed Tryz.func18 (by rfl) (Tryz.call18) ⟨hi, h1, trivial⟩ ⟨⟨fun h => (by cases h), by show 2 ≤ 3; decide, main2_re (by rfl)⟩, ⟨fun h => ⟨rfl, Nat.le_refl _⟩, Nat.le_refl _, map_re⟩, trivial⟩ (fun κ _ => ⟨⟨fun h => (by cases h), by show 2 ≤ 3; decide, main2_re (by rfl)⟩, ⟨fun h => ⟨rfl, Nat.le_refl _⟩, Nat.le_refl _, map_re⟩, trivial⟩) (by simp [Apart, hii]) ⟨.inl rfl, .inr ⟨rfl, rfl⟩, trivial⟩ (fun κ hκ => by
      cases κ with
      | none => exact trivial
      | some cap => exact ⟨⟨hK, rfl, .inl (by show 0 < cap * 10; have := hκ.1; have := hκ.2; omega), by simp⟩, trivial⟩) ⟨.ptr rfl, trivial⟩ Opens.same ?_
  · refine callAll_mono key fun v ms hR => ?_
    obtain ⟨κ, hκ, rfl, rfl⟩ := hR
    cases κ with
    | none => exact .inl ⟨hκ, rfl, rfl⟩
    | some cap => exact .inr ⟨cap, hκ.1, hκ.2, rfl, rfl⟩
  rintro ⟨⟩ -
  repeat' (refine N.go ?_; first | with_reducible (first | refine N.obl (by decide) ?_ | refine N.eq ?_ | refine N.obl rfl ?_ | refine N.obl ⟨by kernel_rfl, by kernel_rfl⟩ ?_ | refine N.alt ?_ | refine N.forkT ?_ | refine N.forkF ?_) | refine N.call (cKeysT 1 2 _ _ (by rfl) (by rfl)) ?_ | fail)
  refine N.go ?_
  refine N.callAll (cSortedT E 1 2 6 _ _ (by rfl) rfl (by rfl) (by rfl) (by omega)) fun v ms hR => ?_
  rcases hR with ⟨hE0, rfl, rfl⟩ | ⟨kc, hpos, hkc, rfl, rfl⟩
  · repeat' (refine N.go ?_; first | with_reducible (first | refine N.obl (by decide) ?_ | refine N.eq ?_ | refine N.obl rfl ?_ | refine N.obl ⟨by kernel_rfl, by kernel_rfl⟩ ?_ | refine N.alt ?_ | refine N.forkT ?_ | refine N.forkF ?_) | refine N.forkYes (by rw [decide_eq_true_eq]; omega) ?_ | refine N.forkNo (by rw [decide_eq_false_iff_not]; omega) ?_ | fail)
    refine N.go ?_
    refine N.roll 1 ?_
    repeat' (refine N.go ?_; first | with_reducible (first | refine N.obl (by decide) ?_ | refine N.eq ?_ | refine N.obl rfl ?_ | refine N.obl ⟨by kernel_rfl, by kernel_rfl⟩ ?_ | refine N.alt ?_ | refine N.forkT ?_ | refine N.forkF ?_) | refine N.forkYes (by rw [decide_eq_true_eq]; omega) ?_ | refine N.forkNo (by rw [decide_eq_false_iff_not]; omega) ?_ | fail)
    refine N.go ?_
    refine N.endSame ?_
    refine N.some none ⟨hE0, ?_⟩
    refine N.obl (.plain rfl) ?_
    refine N.obl ⟨map_post (by rfl), trivial⟩ ?_
    refine N.obl trivial ?_
    refine N.obl ⟨⟨.inl rfl, .inr ⟨_, rfl, rfl⟩, trivial⟩, trivial⟩ ?_
    exact N.true
  · repeat' (refine N.go ?_; first | with_reducible (first | refine N.obl (by decide) ?_ | refine N.eq ?_ | refine N.obl rfl ?_ | refine N.obl ⟨by kernel_rfl, by kernel_rfl⟩ ?_ | refine N.alt ?_ | refine N.forkT ?_ | refine N.forkF ?_) | refine N.forkYes (by rw [decide_eq_true_eq]; omega) ?_ | refine N.forkNo (by rw [decide_eq_false_iff_not]; omega) ?_ | fail)
    refine N.go ?_
    refine N_loopD 4096 ?_ ?_
    · repeat' (refine N.go ?_; first | with_reducible (first | refine N.obl (by decide) ?_ | refine N.eq ?_ | refine N.obl rfl ?_ | refine N.obl ⟨by kernel_rfl, by kernel_rfl⟩ ?_ | refine N.alt ?_ | refine N.forkT ?_ | refine N.forkF ?_) | exact N.true | with_reducible refine N.obl (ChunkLe.refl _) ?_ | fail)
    refine N.go ?_
    refine N.loopR (α := Option (Nat × Nat)) (fun x => match x with | none => True | some q => 1 ≤ q.1 ∧ q.1 ≤ E.length ∧ q.1 ≤ q.2) (fun x => match x with | none => E.length | some q => E.length - q.1) (fun x => match x with | none => [(15, .int .i64 0), (3, .slice none 0 0)] | some q => [(15, .int .i64 (q.1 : Int)), (3, .slice (some ⟨7, 0, some 0⟩) q.1 q.2)]) (fun x => match x with | none => [] | some q => [(7, enC true q.2 (allF E q.1))]) none [(0, 0), (1, 1), (2, 2), (6, 6)] trivial ?_ ?_
    · repeat' (refine N.go ?_; first | with_reducible (first | refine N.obl (by decide) ?_ | refine N.eq ?_ | refine N.obl rfl ?_ | refine N.obl ⟨by kernel_rfl, by kernel_rfl⟩ ?_ | refine N.alt ?_ | refine N.forkT ?_ | refine N.forkF ?_) | exact N.true | refine N.obl (main2_ren (by rfl)) ?_ | refine N.obl (main_ren (by rfl) (by rfl)) ?_ | refine N.obl map_ren ?_ | refine N.obl (key_ren (by rfl)) ?_ | refine N.obl ints_ren ?_ | refine N.obl (.plain (by rfl)) ?_ | refine N.obl (.one (.ptr rfl)) ?_ | refine N.obl (.one (.map rfl)) ?_ | refine N.obl (.one (.slice rfl)) ?_ | fail)
    · intro x hx
      cases x with
      | none =>
        obtain ⟨k0, hk0, e0, he0⟩ := sortK_get (E := E) (i := 0) hpos
        obtain ⟨e1, hg⟩ := dGet_has he0
        repeat' (refine N.go ?_; first | with_reducible (first | refine N.obl (by decide) ?_ | refine N.eq ?_ | refine N.obl rfl ?_ | refine N.obl ⟨by kernel_rfl, by kernel_rfl⟩ ?_ | refine N.alt ?_ | refine N.forkT ?_ | refine N.forkF ?_) | refine N.forkYes (by rw [decide_eq_true_eq]; omega) ?_ | refine N.forkNo (by rw [decide_eq_false_iff_not]; omega) ?_ | fail)
        refine N.go ?_
        refine N.idx 0 1 rfl hpos ?_
        repeat' (refine N.go ?_; first | with_reducible (first | refine N.obl (by decide) ?_ | refine N.eq ?_ | refine N.obl rfl ?_ | refine N.obl ⟨by kernel_rfl, by kernel_rfl⟩ ?_ | refine N.alt ?_ | refine N.forkT ?_ | refine N.forkF ?_) | refine N.load _ (rd_ints 0 rfl hk0 rfl) ?_ | refine N_look entV E rfl Tryz.underlying58 Tryz.underlying3 Tryz.type42 rfl (entV e1) (by rw [hg]; rfl) rfl ?_ | refine N.forkYes (by rw [decide_eq_true_eq]; omega) ?_ | refine N.forkNo (by rw [decide_eq_false_iff_not]; omega) ?_ | fail)
        refine N.go ?_
        refine App0_mk (entV e1) (rd_all (by rfl) (by rfl)) (by decide) (by decide) (by decide) fun cap hcap => ?_
        repeat' (refine N.go ?_; first | with_reducible (first | refine N.obl (by decide) ?_ | refine N.eq ?_ | refine N.obl rfl ?_ | refine N.obl ⟨by kernel_rfl, by kernel_rfl⟩ ?_ | refine N.alt ?_ | refine N.forkT ?_ | refine N.forkF ?_) | refine N.forkYes (by rw [decide_eq_true_eq]; omega) ?_ | refine N.forkNo (by rw [decide_eq_false_iff_not]; omega) ?_ | fail)
        refine N.go ?_
        refine N.nextR (some (1, cap)) [(0, 0), (1, 1), (2, 2), (6, 6), (8, 7)] ⟨⟨Nat.le_refl _, hpos, hcap⟩, by show E.length - 1 < E.length; omega⟩ ?_
        have hgr : ∀ i, i < cap → allF E 1 i = growen (fun _ => Ent.zero) 0 e1 i := fun i _ => by
          unfold allF growen
          by_cases h0 : i = 0
          · subst h0; rw [if_pos (by omega), if_neg (by omega), if_pos rfl]; exact entT_in hk0 hg
          · rw [if_neg (by omega), if_neg (by omega), if_neg h0]
        repeat' (refine N.go ?_; first | with_reducible (first | refine N.obl (by decide) ?_ | refine N.eq ?_ | refine N.obl rfl ?_ | refine N.obl ⟨by kernel_rfl, by kernel_rfl⟩ ?_ | refine N.alt ?_ | refine N.forkT ?_ | refine N.forkF ?_) | exact N.true | refine N.obl (main2_ren (by rfl)) ?_ | refine N.obl (main_ren (by rfl) (by rfl)) ?_ | refine N.obl map_ren ?_ | refine N.obl (key_ren (by rfl)) ?_ | refine N.obl ints_ren ?_ | refine N.obl (.plain (by rfl)) ?_ | refine N.obl (.one (.ptr rfl)) ?_ | refine N.obl (.one (.map rfl)) ?_ | refine N.obl (.one (.slice rfl)) ?_ | refine N.obl (re_eq (int_eq (by rw [i64s _ (by omega) (by omega)]; omega)) rfl) ?_ | refine N.obl (grownen_ren (l := 0) hcap (fun j hj => absurd hj (by omega)) hgr) ?_ | fail)
      | some q =>
        obtain ⟨r, c⟩ := q
        obtain ⟨q1, q2, q3⟩ := hx
        have q1 : 1 ≤ r := q1
        have q2 : r ≤ E.length := q2
        have q3 : r ≤ c := q3
        by_cases hlt : r < E.length
        · obtain ⟨k0, hk0, e0, he0⟩ := sortK_get (E := E) (i := r) hlt
          obtain ⟨e1, hg⟩ := dGet_has he0
          have hset : allF E (r + 1) = seten (allF E r) r e1 := by
            funext i
            unfold allF seten
            by_cases h0 : i = r
            · subst h0; rw [if_pos (by omega), if_pos rfl]; exact entT_in hk0 hg
            · rw [if_neg h0]
              by_cases h1 : i < r
              · rw [if_pos (by omega)]; exact (if_pos h1).symm
              · rw [if_neg (by omega)]; exact (if_neg h1).symm
          have hgr : ∀ cap i, i < cap → allF E (r + 1) i = growen (allF E r) r e1 i := fun cap i _ => by
            rw [hset]
            unfold seten growen
            by_cases h0 : i < r
            · rw [if_neg (by omega), if_pos h0]
            · rw [if_neg h0]
              by_cases h1 : i = r
              · rw [if_pos h1, if_pos h1]
              · rw [if_neg h1, if_neg h1]; unfold allF; rw [if_neg h0]
          repeat' (refine N.go ?_; first | with_reducible (first | refine N.obl (by decide) ?_ | refine N.eq ?_ | refine N.obl rfl ?_ | refine N.obl ⟨by kernel_rfl, by kernel_rfl⟩ ?_ | refine N.alt ?_ | refine N.forkT ?_ | refine N.forkF ?_) | refine N.forkYes (by rw [decide_eq_true_eq]; omega) ?_ | refine N.forkNo (by rw [decide_eq_false_iff_not]; omega) ?_ | fail)
          refine N.go ?_
          refine N.idx r 1 rfl hlt ?_
          repeat' (refine N.go ?_; first | with_reducible (first | refine N.obl (by decide) ?_ | refine N.eq ?_ | refine N.obl rfl ?_ | refine N.obl ⟨by kernel_rfl, by kernel_rfl⟩ ?_ | refine N.alt ?_ | refine N.forkT ?_ | refine N.forkF ?_) | refine N.load _ (rd_ints r rfl hk0 (by first | rfl | omega)) ?_ | refine N_look entV E rfl Tryz.underlying58 Tryz.underlying3 Tryz.type42 rfl (entV e1) (by rw [hg]; rfl) rfl ?_ | refine N.forkYes (by rw [decide_eq_true_eq]; omega) ?_ | refine N.forkNo (by rw [decide_eq_false_iff_not]; omega) ?_ | fail)
          refine N.go ?_
          refine App_mk (entV e1) (rd_all (by rfl) (by rfl)) (by rfl) (by show r * 10 ≤ c * 10; omega) (by omega) (by show (r + 1) * 80 ≤ _; omega) (enC true c (seten (allF E r) r e1)) (fun h => wr_en (by omega) rfl) (fun hr => ?_) (fun hg2 cap hcap => ?_)
          · repeat' (refine N.go ?_; first | with_reducible (first | refine N.obl (by decide) ?_ | refine N.eq ?_ | refine N.obl rfl ?_ | refine N.obl ⟨by kernel_rfl, by kernel_rfl⟩ ?_ | refine N.alt ?_ | refine N.forkT ?_ | refine N.forkF ?_) | refine N.forkYes (by rw [decide_eq_true_eq]; omega) ?_ | refine N.forkNo (by rw [decide_eq_false_iff_not]; omega) ?_ | fail)
            refine N.go ?_
            refine N.nextR (some (r + 1, c)) [(0, 0), (1, 1), (2, 2), (6, 6), (7, 7)] ⟨⟨by show 1 ≤ r + 1; omega, hlt, hr⟩, by show E.length - (r + 1) < E.length - r; omega⟩ ?_
            repeat' (refine N.go ?_; first | with_reducible (first | refine N.obl (by decide) ?_ | refine N.eq ?_ | refine N.obl rfl ?_ | refine N.obl ⟨by kernel_rfl, by kernel_rfl⟩ ?_ | refine N.alt ?_ | refine N.forkT ?_ | refine N.forkF ?_) | exact N.true | refine N.obl (main2_ren (by rfl)) ?_ | refine N.obl (main_ren (by rfl) (by rfl)) ?_ | refine N.obl map_ren ?_ | refine N.obl (key_ren (by rfl)) ?_ | refine N.obl ints_ren ?_ | refine N.obl (.plain (by rfl)) ?_ | refine N.obl (.one (.ptr rfl)) ?_ | refine N.obl (.one (.map rfl)) ?_ | refine N.obl (.one (.slice rfl)) ?_ | refine N.obl (re_eq (int_eq (by rw [i64s _ (by omega) (by omega)]; omega)) rfl) ?_ | refine N.obl (enC_ren (fun i _ => by rw [hset])) ?_ | fail)
          · repeat' (refine N.go ?_; first | with_reducible (first | refine N.obl (by decide) ?_ | refine N.eq ?_ | refine N.obl rfl ?_ | refine N.obl ⟨by kernel_rfl, by kernel_rfl⟩ ?_ | refine N.alt ?_ | refine N.forkT ?_ | refine N.forkF ?_) | refine N.forkYes (by rw [decide_eq_true_eq]; omega) ?_ | refine N.forkNo (by rw [decide_eq_false_iff_not]; omega) ?_ | fail)
            refine N.go ?_
            refine N.nextR (some (r + 1, cap)) [(0, 0), (1, 1), (2, 2), (6, 6), (9, 7)] ⟨⟨by show 1 ≤ r + 1; omega, hlt, hcap⟩, by show E.length - (r + 1) < E.length - r; omega⟩ ?_
            repeat' (refine N.go ?_; first | with_reducible (first | refine N.obl (by decide) ?_ | refine N.eq ?_ | refine N.obl rfl ?_ | refine N.obl ⟨by kernel_rfl, by kernel_rfl⟩ ?_ | refine N.alt ?_ | refine N.forkT ?_ | refine N.forkF ?_) | exact N.true | refine N.obl (main2_ren (by rfl)) ?_ | refine N.obl (main_ren (by rfl) (by rfl)) ?_ | refine N.obl map_ren ?_ | refine N.obl (key_ren (by rfl)) ?_ | refine N.obl ints_ren ?_ | refine N.obl (.plain (by rfl)) ?_ | refine N.obl (.one (.ptr rfl)) ?_ | refine N.obl (.one (.map rfl)) ?_ | refine N.obl (.one (.slice rfl)) ?_ | refine N.obl (re_eq (int_eq (by rw [i64s _ (by omega) (by omega)]; omega)) rfl) ?_ | refine N.obl (grownen_ren (ci := enC true c (allF E r)) hcap (fun j hj => enC_f (by omega)) (hgr cap)) ?_ | fail)
        · obtain rfl : r = E.length := by omega
          repeat' (refine N.go ?_; first | with_reducible (first | refine N.obl (by decide) ?_ | refine N.eq ?_ | refine N.obl rfl ?_ | refine N.obl ⟨by kernel_rfl, by kernel_rfl⟩ ?_ | refine N.alt ?_ | refine N.forkT ?_ | refine N.forkF ?_) | refine N.forkYes (by rw [decide_eq_true_eq]; omega) ?_ | refine N.forkNo (by rw [decide_eq_false_iff_not]; omega) ?_ | fail)
          refine N.go ?_
          refine N.endSame ?_
          refine N.some (some c) ⟨⟨q1, q3⟩, ?_⟩
          refine N.obl (.one (.slice rfl)) ?_
          refine N.obl ⟨map_post (by rfl), trivial⟩ ?_
          refine N.obl ⟨⟨Nat.le_of_ble_eq_true rfl, enC_post (T' := allF E E.length) (fun _ _ => rfl) (by rfl)⟩, trivial⟩ ?_
          refine N.obl ⟨⟨.inl rfl, .inr ⟨_, rfl, rfl⟩, trivial⟩, .inl rfl, trivial⟩ ?_
          exact N.true
end Go.Proofs.YtimccfnlcnlffaaGreat


namespace Go.Proofs.YtimccfnlcnlffaaGreat
open Go Go.RowKit Sx
def cmpI (x y : Int) : Int := if x < y then -1 else if x > y then 1 else 0
def cmpE (a b : Ent) : Int := if cmpI a.heard b.heard ≠ 0 then cmpI a.heard b.heard else cmpI a.node b.node
theorem nanint_x (s : Int)  (w : World) : Calls Tryz.prog 59 #[.int .i64 s] w fun e w' => e = .returned (.bool false) ∧ Below w.heap.size w w' := by
  refine calls_pure (G := tys) w tysOK mixed Tryz.func59 (by rfl) (by first | rfl | (simp only [List.all_cons, List.all_nil, plain_wz, plain_lim, plain_wi]; rfl)) (by first | exact plain3_wz _ | exact plain3_wi _ _ _ | rfl | (simp only [plain3, List.all_cons, List.all_nil, plain_wz, plain_lim, plain_wi]; rfl)) ?_
  repeat' (refine N.go ?_; first | with_reducible (first | refine N.obl (by decide) ?_ | refine N.eq ?_ | refine N.obl rfl ?_ | refine N.obl ⟨by kernel_rfl, by kernel_rfl⟩ ?_ | refine N.alt ?_ | refine N.forkT ?_ | refine N.forkF ?_) | fail)
  all_goals simp
theorem cNanint (s : Int) (h : List (Option Chunk)) : CallOK Tryz.prog 59 [.int .i64 s] h (.bool false) [] [] := call_pure rfl rfl (Tryz.call59 _) (nanint_x s)
theorem cmpint_x (a b : Int)  (w : World) : Calls Tryz.prog 45 #[.int .i64 a, .int .i64 b] w fun e w' => e = .returned (.int .i64 (cmpI a b)) ∧ Below w.heap.size w w' := by
  refine calls_pure (G := tys) w tysOK mixed Tryz.func45 (by rfl) (by first | rfl | (simp only [List.all_cons, List.all_nil, plain_wz, plain_lim, plain_wi]; rfl)) (by first | exact plain3_wz _ | exact plain3_wi _ _ _ | rfl | (simp only [plain3, List.all_cons, List.all_nil, plain_wz, plain_lim, plain_wi]; rfl)) ?_
  repeat' (refine N.go ?_; first | with_reducible (first | refine N.obl (by decide) ?_ | refine N.eq ?_ | refine N.obl rfl ?_ | refine N.obl ⟨by kernel_rfl, by kernel_rfl⟩ ?_ | refine N.alt ?_ | refine N.forkT ?_ | refine N.forkF ?_) | refine N.call (cNanint _ _) ?_ | with_reducible refine N.fork (fun hb => ?_) (fun hb => ?_) | fail)
  all_goals
    refine congrArg _ ?_
    unfold cmpI
    simp only [decide_eq_true_eq, decide_eq_false_iff_not] at *
    first
      | (rw [if_pos (by omega)]; first | done | fail)
      | (rw [if_neg (by omega), if_pos (by omega)]; first | done | fail)
      | (rw [if_neg (by omega), if_neg (by omega)])
theorem cCmpint (a b : Int) (h : List (Option Chunk)) : CallOK Tryz.prog 45 [.int .i64 a, .int .i64 b] h (.int .i64 (cmpI a b)) [] [] := call_pure rfl rfl (Tryz.call45 _) (cmpint_x a b)
theorem nanint64_x (s : Int)  (w : World) : Calls Tryz.prog 58 #[.int .i64 s] w fun e w' => e = .returned (.bool false) ∧ Below w.heap.size w w' := by
  refine calls_pure (G := tys) w tysOK mixed Tryz.func58 (by rfl) (by first | rfl | (simp only [List.all_cons, List.all_nil, plain_wz, plain_lim, plain_wi]; rfl)) (by first | exact plain3_wz _ | exact plain3_wi _ _ _ | rfl | (simp only [plain3, List.all_cons, List.all_nil, plain_wz, plain_lim, plain_wi]; rfl)) ?_
  repeat' (refine N.go ?_; first | with_reducible (first | refine N.obl (by decide) ?_ | refine N.eq ?_ | refine N.obl rfl ?_ | refine N.obl ⟨by kernel_rfl, by kernel_rfl⟩ ?_ | refine N.alt ?_ | refine N.forkT ?_ | refine N.forkF ?_) | fail)
  all_goals simp
theorem cNanint64 (s : Int) (h : List (Option Chunk)) : CallOK Tryz.prog 58 [.int .i64 s] h (.bool false) [] [] := call_pure rfl rfl (Tryz.call58 _) (nanint64_x s)
theorem cmpint64_x (a b : Int)  (w : World) : Calls Tryz.prog 44 #[.int .i64 a, .int .i64 b] w fun e w' => e = .returned (.int .i64 (cmpI a b)) ∧ Below w.heap.size w w' := by
  refine calls_pure (G := tys) w tysOK mixed Tryz.func44 (by rfl) (by first | rfl | (simp only [List.all_cons, List.all_nil, plain_wz, plain_lim, plain_wi]; rfl)) (by first | exact plain3_wz _ | exact plain3_wi _ _ _ | rfl | (simp only [plain3, List.all_cons, List.all_nil, plain_wz, plain_lim, plain_wi]; rfl)) ?_
  repeat' (refine N.go ?_; first | with_reducible (first | refine N.obl (by decide) ?_ | refine N.eq ?_ | refine N.obl rfl ?_ | refine N.obl ⟨by kernel_rfl, by kernel_rfl⟩ ?_ | refine N.alt ?_ | refine N.forkT ?_ | refine N.forkF ?_) | refine N.call (cNanint64 _ _) ?_ | with_reducible refine N.fork (fun hb => ?_) (fun hb => ?_) | fail)
  all_goals
    refine congrArg _ ?_
    unfold cmpI
    simp only [decide_eq_true_eq, decide_eq_false_iff_not] at *
    first
      | (rw [if_pos (by omega)]; first | done | fail)
      | (rw [if_neg (by omega), if_pos (by omega)]; first | done | fail)
      | (rw [if_neg (by omega), if_neg (by omega)])
theorem cCmpint64 (a b : Int) (h : List (Option Chunk)) : CallOK Tryz.prog 44 [.int .i64 a, .int .i64 b] h (.int .i64 (cmpI a b)) [] [] := call_pure rfl rfl (Tryz.call44 _) (cmpint64_x a b)
abbrev twoC (o : Bool) (a b : Int) : Chunk := ⟨o, 2, [(0, 2, .agg ⟨[.int .i64 a, .int .i64 b]⟩)]⟩
theorem two_re {ix : List (Nat × Nat)} {o o' : Bool} {a b : Int} : ChunkRe ix (twoC o a b) (twoC o' a b) := fun j hj => by
  match j, hj with
  | 0, _ => exact .plain rfl
  | 1, _ => exact .plain rfl
theorem cOr (o : Bool) (a b : Int) (i : Nat) (h : List (Option Chunk)) (hi : h[i]? = some (some (twoC o a b))) :
    CallOK Tryz.prog 43 [.slice (some ⟨i, 0, some 0⟩) 2 2] h (.int .i64 (if a ≠ 0 then a else b)) [] [i] := by
  refine call_sub (G := tys) [⟨i, _, twoC false a b, noC⟩] [] [.slice (some ⟨0, 0, some 0⟩) 2 2] tysOK mixed Tryz.func43 (by rfl) (Tryz.call43) ⟨hi, trivial⟩ ⟨⟨fun h => (by cases h), Nat.le_refl _, two_re⟩, trivial⟩ (by simp [Apart]) trivial ⟨.slice rfl, trivial⟩ ?_
  repeat' (refine N.go ?_; first | with_reducible (first | refine N.obl (by decide) ?_ | refine N.eq ?_ | refine N.obl rfl ?_ | refine N.obl ⟨by kernel_rfl, by kernel_rfl⟩ ?_ | refine N.alt ?_ | refine N.forkT ?_ | refine N.forkF ?_) | refine N.forkNo (by decide) ?_ | refine N.forkYes (by decide) ?_ | refine N.fork (fun hb => ?_) (fun hb => ?_) | fail)
  refine N.go ?_
  refine N.roll 3 ?_
  repeat' (refine N.go ?_; first | with_reducible (first | refine N.obl (by decide) ?_ | refine N.eq ?_ | refine N.obl rfl ?_ | refine N.obl ⟨by kernel_rfl, by kernel_rfl⟩ ?_ | refine N.alt ?_ | refine N.forkT ?_ | refine N.forkF ?_) | refine N.forkNo (by decide) ?_ | refine N.forkYes (by decide) ?_ | refine N.fork (fun hb => ?_) (fun hb => ?_) | fail)
  refine N.go ?_
  refine N.idx 0 0 rfl (by decide) ?_
  repeat' (refine N.go ?_; first | with_reducible (first | refine N.obl (by decide) ?_ | refine N.eq ?_ | refine N.obl rfl ?_ | refine N.obl ⟨by kernel_rfl, by kernel_rfl⟩ ?_ | refine N.alt ?_ | refine N.forkT ?_ | refine N.forkF ?_) | refine N.forkNo (by decide) ?_ | refine N.forkYes (by decide) ?_ | refine N.fork (fun hb => ?_) (fun hb => ?_) | fail)
  · simp only [bne_iff_ne, ne_eq] at hb
    rw [if_pos hb]
    repeat' (refine N.go ?_; first | with_reducible (first | refine N.obl (by decide) ?_ | refine N.eq ?_ | refine N.obl rfl ?_ | refine N.obl ⟨by kernel_rfl, by kernel_rfl⟩ ?_ | refine N.alt ?_ | refine N.forkT ?_ | refine N.forkF ?_) | refine N.obl (.plain rfl) ?_ | refine N.obl trivial ?_ | exact N.true | fail)
  · refine N.go ?_
    refine N.idx 1 0 rfl (by decide) ?_
    repeat' (refine N.go ?_; first | with_reducible (first | refine N.obl (by decide) ?_ | refine N.eq ?_ | refine N.obl rfl ?_ | refine N.obl ⟨by kernel_rfl, by kernel_rfl⟩ ?_ | refine N.alt ?_ | refine N.forkT ?_ | refine N.forkF ?_) | refine N.forkNo (by decide) ?_ | refine N.forkYes (by decide) ?_ | refine N.fork (fun hb => ?_) (fun hb => ?_) | fail)
    · rename_i hb1
      simp only [bne_iff_ne, ne_eq, bne_eq_false_iff_eq] at hb hb1
      rw [if_neg (by omega)]
      repeat' (refine N.go ?_; first | with_reducible (first | refine N.obl (by decide) ?_ | refine N.eq ?_ | refine N.obl rfl ?_ | refine N.obl ⟨by kernel_rfl, by kernel_rfl⟩ ?_ | refine N.alt ?_ | refine N.forkT ?_ | refine N.forkF ?_) | refine N.obl (.plain rfl) ?_ | refine N.obl trivial ?_ | exact N.true | fail)
    · rename_i hb1
      simp only [bne_iff_ne, ne_eq, bne_eq_false_iff_eq] at hb hb1
      rw [if_neg (by omega), hb]
      repeat' (refine N.go ?_; first | with_reducible (first | refine N.obl (by decide) ?_ | refine N.eq ?_ | refine N.obl rfl ?_ | refine N.obl ⟨by kernel_rfl, by kernel_rfl⟩ ?_ | refine N.alt ?_ | refine N.forkT ?_ | refine N.forkF ?_) | refine N.obl (.plain rfl) ?_ | refine N.obl trivial ?_ | exact N.true | fail)
theorem elder1_x (a b : Ent)  (w : World) : Calls Tryz.prog 42 #[entV a, entV b] w fun e w' => e = .returned (.int .i64 (cmpE a b)) ∧ Below w.heap.size w w' := by
  refine calls_pure (G := tys) w tysOK mixed Tryz.func42 (by rfl) (by first | rfl | (simp only [List.all_cons, List.all_nil, plain_wz, plain_lim, plain_wi]; rfl)) (by first | exact plain3_wz _ | exact plain3_wi _ _ _ | rfl | (simp only [plain3, List.all_cons, List.all_nil, plain_wz, plain_lim, plain_wi]; rfl)) ?_
  repeat' (refine N.go ?_; first | with_reducible (first | refine N.obl (by decide) ?_ | refine N.eq ?_ | refine N.obl rfl ?_ | refine N.obl ⟨by kernel_rfl, by kernel_rfl⟩ ?_ | refine N.alt ?_ | refine N.forkT ?_ | refine N.forkF ?_) | refine N.call (cCmpint64 _ _ _) ?_ | refine N.call (cCmpint _ _ _) ?_ | refine N.call (cOr _ _ _ _ _ (by rfl)) ?_ | fail)
  all_goals rfl
theorem cElder1 (a b : Ent) (h : List (Option Chunk)) : CallOK Tryz.prog 42 [entV a, entV b] h (.int .i64 (cmpE a b)) [] [] := call_pure rfl rfl (Tryz.call42 _) (elder1_x a b)
def minT (T : Nat → Ent) : Nat → Ent
  | 0 => T 0
  | 1 => T 0
  | r + 2 => if cmpE (T (r + 1)) (minT T (r + 1)) < 0 then T (r + 1) else minT T (r + 1)
theorem minT_step (T : Nat → Ent) (r : Nat) (h : 1 ≤ r) : minT T (r + 1) = if cmpE (T r) (minT T r) < 0 then T r else minT T r := by
  obtain ⟨k, rfl⟩ : ∃ k, r = k + 1 := ⟨r - 1, by omega⟩
  rfl
abbrev elderF : Value := .func (.func 42) ⟨[]⟩ ⟨[]⟩
abbrev oneE (e : Ent) : Chunk := ⟨true, 10, [(0, 10, entV e)]⟩
theorem cMinT (o : Bool) (cap : Nat) (T : Nat → Ent) (n c i : Nat) (h : List (Option Chunk)) (hi : h[i]? = some (some (enC o cap T))) (hn : 1 ≤ n) (hc : n ≤ cap) (hm : n ≤ 1000) :
    CallOK Tryz.prog 41 [.slice (some ⟨i, 0, some 0⟩) n c, elderF] h (entV (minT T n)) [] [i] := by
  refine call_sub (G := tys) [⟨i, _, enC false cap T, noC⟩] [] [.slice (some ⟨0, 0, some 0⟩) n c, elderF] tysOK mixed Tryz.func41 (by rfl) (Tryz.call41) ⟨hi, trivial⟩ ⟨⟨fun h => (by cases h), Nat.le_refl _, enC_re (fun _ _ => rfl)⟩, trivial⟩ (by simp [Apart]) trivial ⟨.slice rfl, .plain rfl, trivial⟩ ?_
  repeat' (refine N.go ?_; first | with_reducible (first | refine N.obl (by decide) ?_ | refine N.eq ?_ | refine N.obl rfl ?_ | refine N.obl ⟨by kernel_rfl, by kernel_rfl⟩ ?_ | refine N.alt ?_ | refine N.forkT ?_ | refine N.forkF ?_) | refine N.call (cElder1 _ _ _) ?_ | refine N.forkYes (by rw [decide_eq_true_eq]; omega) ?_ | refine N.forkNo (by rw [decide_eq_false_iff_not]; omega) ?_ | fail)
  refine N.go ?_
  refine N.idx 0 1 rfl hn ?_
  refine N.go ?_
  refine N.load _ (rd_en 0 rfl (by omega) rfl) ?_
  repeat' (refine N.go ?_; first | with_reducible (first | refine N.obl (by decide) ?_ | refine N.eq ?_ | refine N.obl rfl ?_ | refine N.obl ⟨by kernel_rfl, by kernel_rfl⟩ ?_ | refine N.alt ?_ | refine N.forkT ?_ | refine N.forkF ?_) | refine N.call (cElder1 _ _ _) ?_ | refine N.forkYes (by rw [decide_eq_true_eq]; omega) ?_ | refine N.forkNo (by rw [decide_eq_false_iff_not]; omega) ?_ | fail)
  refine N.go ?_
  refine N.loop (α := Nat) (fun r => 1 ≤ r ∧ r ≤ n) (fun r => n - r) (fun r => [(6, .int .i64 (r : Int))]) (fun r => [(2, oneE (minT T r))]) 1 ⟨Nat.le_refl _, hn⟩ ?_ ?_
  · repeat' (refine N.go ?_; first | with_reducible (first | refine N.obl (by decide) ?_ | refine N.eq ?_ | refine N.obl rfl ?_ | refine N.obl ⟨by kernel_rfl, by kernel_rfl⟩ ?_ | refine N.alt ?_ | refine N.forkT ?_ | refine N.forkF ?_) | exact N.true | with_reducible refine N.obl (ChunkLe.refl _) ?_ | refine N.obl (ChunkLe.of rfl) ?_ | refine N.obl (int_eq (by rw [i64s _ (by omega) (by omega)]; omega)) ?_ | fail)
  · intro r hr
    obtain ⟨r1, r2⟩ := hr
    by_cases hlt : r < n
    · have hst := minT_step T r r1
      repeat' (refine N.go ?_; first | with_reducible (first | refine N.obl (by decide) ?_ | refine N.eq ?_ | refine N.obl rfl ?_ | refine N.obl ⟨by kernel_rfl, by kernel_rfl⟩ ?_ | refine N.alt ?_ | refine N.forkT ?_ | refine N.forkF ?_) | refine N.call (cElder1 _ _ _) ?_ | refine N.forkYes (by rw [decide_eq_true_eq]; omega) ?_ | refine N.forkNo (by rw [decide_eq_false_iff_not]; omega) ?_ | fail)
      refine N.go ?_
      refine N.idx r 1 rfl hlt ?_
      refine N.go ?_
      refine N.load _ (rd_en r rfl (by omega) (by first | rfl | omega)) ?_
      repeat' (refine N.go ?_; first | with_reducible (first | refine N.obl (by decide) ?_ | refine N.eq ?_ | refine N.obl rfl ?_ | refine N.obl ⟨by kernel_rfl, by kernel_rfl⟩ ?_ | refine N.alt ?_ | refine N.forkT ?_ | refine N.forkF ?_) | refine N.call (cElder1 _ _ _) ?_ | refine N.forkYes (by rw [decide_eq_true_eq]; omega) ?_ | refine N.forkNo (by rw [decide_eq_false_iff_not]; omega) ?_ | fail)
      refine N.go ?_
      refine N.fork (fun hb => ?_) (fun hb => ?_)
      · simp only [decide_eq_true_eq] at hb
        rw [if_pos hb] at hst
        repeat' (refine N.go ?_; first | with_reducible (first | refine N.obl (by decide) ?_ | refine N.eq ?_ | refine N.obl rfl ?_ | refine N.obl ⟨by kernel_rfl, by kernel_rfl⟩ ?_ | refine N.alt ?_ | refine N.forkT ?_ | refine N.forkF ?_) | refine N.call (cElder1 _ _ _) ?_ | refine N.forkYes (by rw [decide_eq_true_eq]; omega) ?_ | refine N.forkNo (by rw [decide_eq_false_iff_not]; omega) ?_ | fail)
        refine N.go ?_
        refine N.idx r 1 rfl hlt ?_
        refine N.go ?_
        refine N.load _ (rd_en r rfl (by omega) (by first | rfl | omega)) ?_
        repeat' (refine N.go ?_; first | with_reducible (first | refine N.obl (by decide) ?_ | refine N.eq ?_ | refine N.obl rfl ?_ | refine N.obl ⟨by kernel_rfl, by kernel_rfl⟩ ?_ | refine N.alt ?_ | refine N.forkT ?_ | refine N.forkF ?_) | refine N.call (cElder1 _ _ _) ?_ | refine N.forkYes (by rw [decide_eq_true_eq]; omega) ?_ | refine N.forkNo (by rw [decide_eq_false_iff_not]; omega) ?_ | fail)
        refine N.go ?_
        refine N.next (r + 1) ⟨⟨by omega, hlt⟩, by omega⟩ ?_
        rw [hst]
        repeat' (refine N.go ?_; first | with_reducible (first | refine N.obl (by decide) ?_ | refine N.eq ?_ | refine N.obl rfl ?_ | refine N.obl ⟨by kernel_rfl, by kernel_rfl⟩ ?_ | refine N.alt ?_ | refine N.forkT ?_ | refine N.forkF ?_) | exact N.true | with_reducible refine N.obl (ChunkLe.refl _) ?_ | refine N.obl (ChunkLe.of rfl) ?_ | refine N.obl (int_eq (by rw [i64s _ (by omega) (by omega)]; omega)) ?_ | fail)
      · simp only [decide_eq_false_iff_not] at hb
        rw [if_neg hb] at hst
        repeat' (refine N.go ?_; first | with_reducible (first | refine N.obl (by decide) ?_ | refine N.eq ?_ | refine N.obl rfl ?_ | refine N.obl ⟨by kernel_rfl, by kernel_rfl⟩ ?_ | refine N.alt ?_ | refine N.forkT ?_ | refine N.forkF ?_) | refine N.call (cElder1 _ _ _) ?_ | refine N.forkYes (by rw [decide_eq_true_eq]; omega) ?_ | refine N.forkNo (by rw [decide_eq_false_iff_not]; omega) ?_ | fail)
        refine N.go ?_
        refine N.next (r + 1) ⟨⟨by omega, hlt⟩, by omega⟩ ?_
        rw [hst]
        repeat' (refine N.go ?_; first | with_reducible (first | refine N.obl (by decide) ?_ | refine N.eq ?_ | refine N.obl rfl ?_ | refine N.obl ⟨by kernel_rfl, by kernel_rfl⟩ ?_ | refine N.alt ?_ | refine N.forkT ?_ | refine N.forkF ?_) | exact N.true | with_reducible refine N.obl (ChunkLe.refl _) ?_ | refine N.obl (ChunkLe.of rfl) ?_ | refine N.obl (int_eq (by rw [i64s _ (by omega) (by omega)]; omega)) ?_ | fail)
    · obtain rfl : r = n := by omega
      repeat' (refine N.go ?_; first | with_reducible (first | refine N.obl (by decide) ?_ | refine N.eq ?_ | refine N.obl rfl ?_ | refine N.obl ⟨by kernel_rfl, by kernel_rfl⟩ ?_ | refine N.alt ?_ | refine N.forkT ?_ | refine N.forkF ?_) | refine N.forkYes (by rw [decide_eq_true_eq]; omega) ?_ | refine N.forkNo (by rw [decide_eq_false_iff_not]; omega) ?_ | refine N.obl (.plain rfl) ?_ | refine N.obl trivial ?_ | exact N.true | fail)
theorem mainG_re {ix : List (Nat × Nat)} {x y : Ext} {o o' : Bool} {most : Int} {i j i' j' : Nat} (hi : ixK ix i' = some i) (hj : ixK ix j' = some j) : ChunkRe ix (mainG x o most i j) (mainG y o' most i' j') := fun l hl => by
  match l, hl with
  | 0, _ => exact .plain rfl
  | 1, _ => exact .map hi
  | 2, _ => exact .map hj
abbrev mainN (most : Int) : Chunk := mainG Ext.none false most 1 2
theorem cElder (x : Ext) (o : Bool) (most : Int) (E : List (Int × Ent)) (D : List (Int × LifR)) (hE : E.length ≤ 64) (hpos : 0 < E.length) (i i1 i2 : Nat) (h : List (Option Chunk)) (hi : h[i]? = some (some (mainG x o most i1 i2))) (h1 : h[i1]? = some (some (mapC entV E))) (h2 : h[i2]? = some (some (mapC lifV D))) (hii : i ≠ i1 ∧ i ≠ i2 ∧ i1 ≠ i2) :
    CallOK Tryz.prog 25 [.pointer (some ⟨i, 0, some 0⟩)] h (.int .i64 (minT (entT E) E.length).node) [(i1, mapC entV E), (i2, mapC lifV D)] [i] := by
  refine call_res (G := tys) (fun _ : Unit => True) (fun _ => _) [⟨i, _, mainN most, noC⟩, ⟨i1, mapC entV E, mapC entV E, mapC entV E⟩, ⟨i2, mapC lifV D, mapC lifV D, mapC lifV D⟩] [] [.pointer (some ⟨0, 0, some 0⟩)] tysOK mixed Tryz.func25 (by rfl) (Tryz.call25) ⟨hi, h1, h2, trivial⟩
    ⟨⟨fun h => (by cases h), Nat.le_refl _, mainG_re (by rfl) (by rfl)⟩, ⟨fun h => ⟨rfl, Nat.le_refl _⟩, Nat.le_refl _, map_re⟩, ⟨fun h => ⟨rfl, Nat.le_refl _⟩, Nat.le_refl _, map_re⟩, trivial⟩ (by simp [Apart, hii.1, hii.2.1, hii.2.2]) ⟨.inl rfl, .inr ⟨rfl, rfl⟩, .inr ⟨rfl, rfl⟩, trivial⟩ trivial ⟨.ptr rfl, trivial⟩ Opens.same ?_
  rintro ⟨⟩ -
  repeat' (refine N.go ?_; first | with_reducible (first | refine N.obl (by decide) ?_ | refine N.eq ?_ | refine N.obl rfl ?_ | refine N.obl ⟨by kernel_rfl, by kernel_rfl⟩ ?_ | refine N.alt ?_ | refine N.forkT ?_ | refine N.forkF ?_) | fail)
  refine N.go ?_
  refine N.callAll (cAllI Ext.none false most E hE 0 1 2 3 _ (by rfl) (by rfl) (by decide) (by rfl)) fun v ms hR => ?_
  rcases hR with ⟨hE0, _, _⟩ | ⟨cap, _, hcap, rfl, rfl⟩
  · rw [hE0] at hpos; exact absurd hpos (by simp)
  have hmin : ∀ r, r ≤ E.length → 1 ≤ r → minT (fun i => if i < E.length then entT E i else Ent.zero) r = minT (entT E) r := by
    intro r
    induction r with
    | zero => intro _ h0; omega
    | succ r ih =>
      intro hr _
      rcases Nat.eq_zero_or_pos r with rfl | h0
      · show (if 0 < E.length then entT E 0 else Ent.zero) = entT E 0
        rw [if_pos hpos]
      · rw [minT_step _ r h0, minT_step _ r h0, ih (by omega) h0, if_pos (by omega : r < E.length)]
  have hm1 := hmin E.length (Nat.le_refl _) hpos
  repeat' (refine N.go ?_; first | with_reducible (first | refine N.obl (by decide) ?_ | refine N.eq ?_ | refine N.obl rfl ?_ | refine N.obl ⟨by kernel_rfl, by kernel_rfl⟩ ?_ | refine N.alt ?_ | refine N.forkT ?_ | refine N.forkF ?_) | fail)
  refine N.go ?_
  refine N.call (cMinT true cap _ E.length cap 3 _ (by rfl) hpos hcap (by omega)) ?_
  rw [hm1]
  repeat' (refine N.go ?_; first | with_reducible (first | refine N.obl (by decide) ?_ | refine N.eq ?_ | refine N.obl rfl ?_ | refine N.obl ⟨by kernel_rfl, by kernel_rfl⟩ ?_ | refine N.alt ?_ | refine N.forkT ?_ | refine N.forkF ?_) | refine N.endSame ?_ | refine N.obl (.plain rfl) ?_ | refine N.obl ⟨map_post (by rfl), map_post (by rfl), trivial⟩ ?_ | refine N.obl trivial ?_ | refine N.obl ⟨⟨.inl rfl, .inr ⟨_, rfl, rfl⟩, .inr ⟨_, rfl, rfl⟩, trivial⟩, trivial⟩ ?_ | exact N.true | fail)
end Go.Proofs.YtimccfnlcnlffaaGreat


namespace Go.Proofs.YtimccfnlcnlffaaGreat
open Go Go.RowKit Sx
theorem dGet_put_same {α : Type} (D : List (Int × α)) (k : Int) (a : α) : dGet (dPut D k a) k = some a := by
  unfold dPut
  cases hg : dGet D k with
  | none =>
    simp only
    have : (D ++ [(k, a)]).find? (fun q => decide (q.1 = k)) = some (k, a) := by
      rw [List.find?_append, List.find?_eq_none.2 (by simpa using dGet_none.1 hg)]
      simp
    simp [dGet, this]
  | some b =>
    simp only
    have hm := dGet_some hg
    induction D with
    | nil => cases hm
    | cons q D ih =>
      unfold dGet
      rw [List.map_cons, List.find?_cons]
      by_cases e : q.1 = k
      · simp [e]
      · have h1 : decide ((if q.1 = k then (k, a) else q).1 = k) = false := by rw [if_neg e]; simp [e]
        rw [h1]
        have hg' : dGet D k = some b := by
          unfold dGet at hg
          rw [List.find?_cons] at hg
          simpa [e, dGet] using hg
        exact ih hg' (dGet_some hg')
theorem dGet_put_ne {α : Type} (D : List (Int × α)) {k n : Int} (a : α) (h : n ≠ k) : dGet (dPut D k a) n = dGet D n := by
  unfold dPut
  cases hg : dGet D k with
  | none =>
    simp only
    unfold dGet
    rw [List.find?_append]
    cases D.find? (fun q => decide (q.1 = n)) with
    | none => simp [Ne.symm h]
    | some x => simp
  | some b =>
    simp only
    clear hg
    unfold dGet
    induction D with
    | nil => rfl
    | cons q D ih =>
      rw [List.map_cons, List.find?_cons, List.find?_cons]
      by_cases e : q.1 = k
      · have h1 : decide (q.1 = n) = false := by simp [e, Ne.symm h]
        have h2 : decide ((if q.1 = k then (k, a) else q).1 = n) = false := by rw [if_pos e]; simp [Ne.symm h]
        rw [h1, h2]; exact ih
      · rw [if_neg e]
        cases decide (q.1 = n) with
        | true => rfl
        | false => exact ih
theorem dGet_del_same {α : Type} (D : List (Int × α)) (k : Int) : dGet (dDel D k) k = none := dGet_none.2 fun q hq => by
  have := (List.mem_filter.1 hq).2
  simpa using this
theorem dGet_del_ne {α : Type} (D : List (Int × α)) {k n : Int} (h : n ≠ k) : dGet (dDel D k) n = dGet D n := by
  unfold dGet dDel
  induction D with
  | nil => rfl
  | cons q D ih =>
    by_cases e : q.1 = k
    · rw [List.filter_cons, if_neg (by simp [e]), List.find?_cons]
      have h1 : decide (q.1 = n) = false := by simp [e, Ne.symm h]
      rw [h1]; exact ih
    · rw [List.filter_cons, if_pos (by simp [e]), List.find?_cons, List.find?_cons]
      cases decide (q.1 = n) with
      | true => rfl
      | false => exact ih
def setL (lv : Int → Option Life) (n : Int) (l : Life) (m : Int) : Option Life := if m = n then some l else lv m
theorem livesOK_same {lv : Int → Option Life} {β : LB} (h : livesOK lv β) {n : Int} {r : LifR} {W : Win} (hg : dGet β.D n = some r) (hW : (r.q, W) ∈ β.F) (hl : lv n = some ⟨r.boot, r.left, W⟩) (b : Int) (l : Bool) : livesOK (setL lv n ⟨b, l, W⟩) ⟨dPut β.D n ⟨b, l, r.q⟩, β.F⟩ := by
  obtain ⟨h1, h2, h3⟩ := h
  have key : ∀ m s, dGet (dPut β.D n ⟨b, l, r.q⟩) m = some s → (m = n ∧ s = ⟨b, l, r.q⟩) ∨ (m ≠ n ∧ dGet β.D m = some s) := fun m s hs => by
    by_cases e : m = n
    · subst e; rw [dGet_put_same] at hs; exact .inl ⟨rfl, by simpa using hs.symm⟩
    · rw [dGet_put_ne _ _ e] at hs; exact .inr ⟨e, hs⟩
  refine ⟨fun m hm => ?_, fun m s hs => ?_, fun m m' s s' hs hs' e => ?_⟩
  · by_cases e : m = n
    · subst e; rw [dGet_put_same] at hm; cases hm
    · rw [dGet_put_ne _ _ e] at hm
      unfold setL; rw [if_neg e]; exact h1 m hm
  · rcases key m s hs with ⟨rfl, rfl⟩ | ⟨e, hs⟩
    · exact ⟨W, hW, by unfold setL; rw [if_pos rfl]⟩
    · obtain ⟨W', hW', hl'⟩ := h2 m s hs
      exact ⟨W', hW', by unfold setL; rw [if_neg e]; exact hl'⟩
  · have k1 := key m s hs
    have k2 := key m' s' hs'
    clear hs hs'
    rcases k1 with ⟨rfl, rfl⟩ | ⟨e1, hs⟩ <;> rcases k2 with ⟨rfl, rfl⟩ | ⟨e2, hs'⟩
    · rfl
    · exact h3 _ _ _ _ hg hs' e
    · exact h3 _ _ _ _ hs hg e
    · exact h3 _ _ _ _ hs hs' e
theorem cLenT (T : Tbl)  (i : Nat) (h : List (Option Chunk)) (hi : h[i]? = some (some (tblC T))) :
    CallOK Tryz.prog 16 [.pointer (some ⟨i, 0, some 0⟩)] h (.int .i64 (T.E.length : Nat)) [(i, tblC (T))] [] := by
  refine call_res (G := tys) (livesOK T.lives) (tblH T) [⟨i, tblC T, tblC T, tblC (T)⟩] [] [.pointer (some ⟨0, 0, some 0⟩)] tysOK mixed Tryz.func16 (by rfl) (Tryz.call16) ⟨hi, trivial⟩ ⟨⟨fun h => ⟨rfl, Nat.le_refl _⟩, Nat.le_refl _, fun j hj => absurd hj (Nat.not_lt_zero j)⟩, trivial⟩ (by simp [Apart]) ⟨.inr ⟨rfl, rfl⟩, trivial⟩ trivial ⟨.ptr rfl, trivial⟩ pack_opens ?_
  intro β hβ
  repeat' (refine N.go ?_; first | with_reducible (first | refine N.obl (by decide) ?_ | refine N.eq ?_ | refine N.obl rfl ?_ | refine N.obl ⟨by kernel_rfl, by kernel_rfl⟩ ?_ | refine N.alt ?_ | refine N.forkT ?_ | refine N.forkF ?_) | refine N_lenM entV T.E rfl rfl Tryz.underlying58 ?_ | refine tblClose (T) β 0 1 2 [] tbl_piece (fun i hi => .inl (by simpa using hi)) hβ (by rfl) (by rfl) (by rfl) (by rfl) (by rfl) (by rfl) (by rfl) (by rfl) (by rfl) (by decide) (fun k hk => by cases hk) safe0 (plain_sc rfl) ?_ | refine N.obl (.plain rfl) ?_ | refine N.obl ⟨⟨_, rfl, id, Nat.le_refl _, fun j hj => absurd hj (Nat.not_lt_zero j)⟩, trivial⟩ ?_ | refine N.obl trivial ?_ | refine N.obl ⟨⟨.inr ⟨_, rfl, rfl⟩, trivial⟩, trivial⟩ ?_ | exact N.true | fail)
theorem cGetY (T : Tbl) (n : Int) (e : Ent) (hg : dGet T.E n = some e) (i : Nat) (h : List (Option Chunk)) (hi : h[i]? = some (some (tblC T))) :
    CallOK Tryz.prog 14 [.pointer (some ⟨i, 0, some 0⟩), .int .i64 n] h (.tuple ⟨[entV e, .bool true]⟩) [(i, tblC (T))] [] := by
  refine call_res (G := tys) (livesOK T.lives) (tblH T) [⟨i, tblC T, tblC T, tblC (T)⟩] [] [.pointer (some ⟨0, 0, some 0⟩), .int .i64 n] tysOK mixed Tryz.func14 (by rfl) (Tryz.call14) ⟨hi, trivial⟩ ⟨⟨fun h => ⟨rfl, Nat.le_refl _⟩, Nat.le_refl _, fun j hj => absurd hj (Nat.not_lt_zero j)⟩, trivial⟩ (by simp [Apart]) ⟨.inr ⟨rfl, rfl⟩, trivial⟩ trivial ⟨.ptr rfl, .plain rfl, trivial⟩ pack_opens ?_
  intro β hβ
  repeat' (refine N.go ?_; first | with_reducible (first | refine N.obl (by decide) ?_ | refine N.eq ?_ | refine N.obl rfl ?_ | refine N.obl ⟨by kernel_rfl, by kernel_rfl⟩ ?_ | refine N.alt ?_ | refine N.forkT ?_ | refine N.forkF ?_) | refine N_look entV T.E rfl Tryz.underlying58 Tryz.underlying3 Tryz.type42 rfl (.tuple ⟨[entV e, .bool true]⟩) (by rw [hg]; rfl) rfl ?_ | refine tblClose (T) β 0 1 2 [] tbl_piece (fun i hi => .inl (by simpa using hi)) hβ (by rfl) (by rfl) (by rfl) (by rfl) (by rfl) (by rfl) (by rfl) (by rfl) (by rfl) (by decide) (fun k hk => by cases hk) safe0 (plain_sc rfl) ?_ | refine N.obl (.plain rfl) ?_ | refine N.obl ⟨⟨_, rfl, id, Nat.le_refl _, fun j hj => absurd hj (Nat.not_lt_zero j)⟩, trivial⟩ ?_ | refine N.obl trivial ?_ | refine N.obl ⟨⟨.inr ⟨_, rfl, rfl⟩, trivial⟩, trivial⟩ ?_ | exact N.true | fail)
theorem cGetN (T : Tbl) (n : Int) (hg : dGet T.E n = none) (i : Nat) (h : List (Option Chunk)) (hi : h[i]? = some (some (tblC T))) :
    CallOK Tryz.prog 14 [.pointer (some ⟨i, 0, some 0⟩), .int .i64 n] h (.tuple ⟨[entV Ent.zero, .bool false]⟩) [(i, tblC (T))] [] := by
  refine call_res (G := tys) (livesOK T.lives) (tblH T) [⟨i, tblC T, tblC T, tblC (T)⟩] [] [.pointer (some ⟨0, 0, some 0⟩), .int .i64 n] tysOK mixed Tryz.func14 (by rfl) (Tryz.call14) ⟨hi, trivial⟩ ⟨⟨fun h => ⟨rfl, Nat.le_refl _⟩, Nat.le_refl _, fun j hj => absurd hj (Nat.not_lt_zero j)⟩, trivial⟩ (by simp [Apart]) ⟨.inr ⟨rfl, rfl⟩, trivial⟩ trivial ⟨.ptr rfl, .plain rfl, trivial⟩ pack_opens ?_
  intro β hβ
  repeat' (refine N.go ?_; first | with_reducible (first | refine N.obl (by decide) ?_ | refine N.eq ?_ | refine N.obl rfl ?_ | refine N.obl ⟨by kernel_rfl, by kernel_rfl⟩ ?_ | refine N.alt ?_ | refine N.forkT ?_ | refine N.forkF ?_) | refine N_look entV T.E rfl Tryz.underlying58 Tryz.underlying3 Tryz.type42 rfl (.tuple ⟨[entV Ent.zero, .bool false]⟩) (by rw [hg]; rfl) rfl ?_ | refine tblClose (T) β 0 1 2 [] tbl_piece (fun i hi => .inl (by simpa using hi)) hβ (by rfl) (by rfl) (by rfl) (by rfl) (by rfl) (by rfl) (by rfl) (by rfl) (by rfl) (by decide) (fun k hk => by cases hk) safe0 (plain_sc rfl) ?_ | refine N.obl (.plain rfl) ?_ | refine N.obl ⟨⟨_, rfl, id, Nat.le_refl _, fun j hj => absurd hj (Nat.not_lt_zero j)⟩, trivial⟩ ?_ | refine N.obl trivial ?_ | refine N.obl ⟨⟨.inr ⟨_, rfl, rfl⟩, trivial⟩, trivial⟩ ?_ | exact N.true | fail)
theorem livesOK_some {lv : Int → Option Life} {β : LB} (h : livesOK lv β) {n : Int} {l : Life} (hl : lv n = some l) : ∃ q, dGet β.D n = some ⟨l.boot, l.left, q⟩ ∧ (q, l.W) ∈ β.F := by
  cases hg : dGet β.D n with
  | none => rw [h.1 n hg] at hl; cases hl
  | some r =>
    obtain ⟨W, h1, h2⟩ := h.2.1 n r hg
    rw [h2] at hl
    obtain rfl : _ = l := by simpa using hl
    exact ⟨r.q, rfl, h1⟩
theorem livesOK_none {lv : Int → Option Life} {β : LB} (h : livesOK lv β) {n : Int} (hl : lv n = none) : dGet β.D n = none := by
  cases hg : dGet β.D n with
  | none => rfl
  | some r =>
    obtain ⟨W, _, h2⟩ := h.2.1 n r hg
    rw [h2] at hl; cases hl
theorem cLeaveY (T : Tbl) (n : Int) (hn : 0 ≤ n ∧ n < 64) (l : Life) (hl : T.lives n = some l) (i : Nat) (h : List (Option Chunk)) (hi : h[i]? = some (some (tblC T))) :
    CallOK Tryz.prog 8 [.pointer (some ⟨i, 0, some 0⟩), .int .i64 n] h (.bool true) [(i, tblC (⟨T.most, dDel T.E n, setL T.lives n ⟨l.boot, true, l.W⟩⟩))] [] := by
  refine call_res (G := tys) (livesOK T.lives) (tblH T) [⟨i, tblC T, tblC T, tblC (⟨T.most, dDel T.E n, setL T.lives n ⟨l.boot, true, l.W⟩⟩)⟩] [] [.pointer (some ⟨0, 0, some 0⟩), .int .i64 n] tysOK mixed Tryz.func8 (by rfl) (Tryz.call8) ⟨hi, trivial⟩ ⟨⟨fun h => ⟨rfl, Nat.le_refl _⟩, Nat.le_refl _, fun j hj => absurd hj (Nat.not_lt_zero j)⟩, trivial⟩ (by simp [Apart]) ⟨.inr ⟨rfl, rfl⟩, trivial⟩ trivial ⟨.ptr rfl, .plain rfl, trivial⟩ pack_opens ?_
  intro β hβ
  obtain ⟨q, hg, hW⟩ := livesOK_some hβ hl
  have hl2 : livesOK (setL T.lives n ⟨l.boot, true, l.W⟩) ⟨dPut β.D n ⟨l.boot, true, q⟩, β.F⟩ := livesOK_same hβ hg hW hl l.boot true
  repeat' (refine N.go ?_; first | with_reducible (first | refine N.obl (by decide) ?_ | refine N.eq ?_ | refine N.obl rfl ?_ | refine N.obl ⟨by kernel_rfl, by kernel_rfl⟩ ?_ | refine N.alt ?_ | refine N.forkT ?_ | refine N.forkF ?_) | refine N_look lifV β.D rfl Tryz.underlying59 Tryz.underlying3 Tryz.type65 rfl (.tuple ⟨[lifV ⟨l.boot, l.left, q⟩, .bool true]⟩) (by rw [hg]; rfl) rfl ?_ | refine N_put lifV β.D ⟨l.boot, true, q⟩ rfl rfl ⟨by omega, by omega⟩ rfl Tryz.underlying59 Tryz.underlying3 ?_ | refine N_del entV T.E rfl rfl rfl Tryz.underlying58 Tryz.underlying3 ?_ | refine tblClose (⟨T.most, dDel T.E n, setL T.lives n ⟨l.boot, true, l.W⟩⟩) ⟨dPut β.D n ⟨l.boot, true, q⟩, β.F⟩ 0 1 2 [] tbl_piece (fun i hi => .inl (by simpa using hi)) hl2 (by rfl) (by rfl) (by rfl) (by rfl) (by rfl) (by rfl) (by rfl) (by rfl) (by rfl) (by decide) (fun k hk => by cases hk) safe0 (plain_sc rfl) ?_ | refine N.obl (.plain rfl) ?_ | refine N.obl ⟨⟨_, rfl, id, Nat.le_refl _, fun j hj => absurd hj (Nat.not_lt_zero j)⟩, trivial⟩ ?_ | refine N.obl trivial ?_ | refine N.obl ⟨⟨.inr ⟨_, rfl, rfl⟩, trivial⟩, trivial⟩ ?_ | exact N.true | fail)
theorem cLeaveN (T : Tbl) (n : Int) (hl : T.lives n = none) (i : Nat) (h : List (Option Chunk)) (hi : h[i]? = some (some (tblC T))) :
    CallOK Tryz.prog 8 [.pointer (some ⟨i, 0, some 0⟩), .int .i64 n] h (.bool false) [(i, tblC (T))] [] := by
  refine call_res (G := tys) (livesOK T.lives) (tblH T) [⟨i, tblC T, tblC T, tblC (T)⟩] [] [.pointer (some ⟨0, 0, some 0⟩), .int .i64 n] tysOK mixed Tryz.func8 (by rfl) (Tryz.call8) ⟨hi, trivial⟩ ⟨⟨fun h => ⟨rfl, Nat.le_refl _⟩, Nat.le_refl _, fun j hj => absurd hj (Nat.not_lt_zero j)⟩, trivial⟩ (by simp [Apart]) ⟨.inr ⟨rfl, rfl⟩, trivial⟩ trivial ⟨.ptr rfl, .plain rfl, trivial⟩ pack_opens ?_
  intro β hβ
  have hg := livesOK_none hβ hl
  repeat' (refine N.go ?_; first | with_reducible (first | refine N.obl (by decide) ?_ | refine N.eq ?_ | refine N.obl rfl ?_ | refine N.obl ⟨by kernel_rfl, by kernel_rfl⟩ ?_ | refine N.alt ?_ | refine N.forkT ?_ | refine N.forkF ?_) | refine N_look lifV β.D rfl Tryz.underlying59 Tryz.underlying3 Tryz.type65 rfl (.tuple ⟨[.agg ⟨[.int .i64 0, .bool false, .pointer none]⟩, .bool false]⟩) (by rw [hg]; rfl) rfl ?_ | refine tblClose (T) β 0 1 2 [] tbl_piece (fun i hi => .inl (by simpa using hi)) hβ (by rfl) (by rfl) (by rfl) (by rfl) (by rfl) (by rfl) (by rfl) (by rfl) (by rfl) (by decide) (fun k hk => by cases hk) safe0 (plain_sc rfl) ?_ | refine N.obl (.plain rfl) ?_ | refine N.obl ⟨⟨_, rfl, id, Nat.le_refl _, fun j hj => absurd hj (Nat.not_lt_zero j)⟩, trivial⟩ ?_ | refine N.obl trivial ?_ | refine N.obl ⟨⟨.inr ⟨_, rfl, rfl⟩, trivial⟩, trivial⟩ ?_ | exact N.true | fail)
end Go.Proofs.YtimccfnlcnlffaaGreat
