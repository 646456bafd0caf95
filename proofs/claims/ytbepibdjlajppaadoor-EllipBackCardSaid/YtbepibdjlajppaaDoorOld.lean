
/-
  All memory that was there at the beginning, kept as one chunk: contracts of the library that want a laid table, a variable.
-/
import Derived.Test.YtbepibdjlajppaaDoorExt
import Derived.Test.YtbepibdjlajppaaDoorEngB
import Derived.Test.YtbepibdjlajppaaDoorTy
set_option linter.unusedVariables false
set_option linter.unusedSimpArgs false
namespace Go.Proofs.YtbepibdjlajppaaDoor.Sx
open Go Go.RowKit

structure OldOK (W : World) (p : Nat × Nat) (S : Nat → Prop) (w : World) : Prop where
  at_ : p.1 < W.heap.size
  dom : ∀ b, S b ↔ b < W.heap.size
  size : W.heap.size ≤ w.heap.size
  old : ∀ b, b < W.heap.size → w.heap[b]? = W.heap[b]?
theorem old_lt {w w' : World} {b : Nat} (hl : b < w.heap.size) (h : w'.heap[b]? = w.heap[b]?) : b < w'.heap.size := by
  have : w.heap[b]? = some (w.heap[b]'hl) := Array.getElem?_eq_getElem hl
  rw [this] at h
  exact (Array.getElem?_eq_some_iff.1 h).1
abbrev oldX (W : World) : Ext where
  inv := fun p S w => OldOK W p S w
  keep := fun {p S w w'} h hb => ⟨h.at_, h.dom, by
      have h1 := h.at_
      have h2 := hb (W.heap.size - 1) ((h.dom _).2 (by omega))
      have h3 := old_lt (b := W.heap.size - 1) (w := w) (by have := h.size; omega) h2
      omega, fun b hl => (hb b ((h.dom b).2 hl)).trans (h.old b hl)⟩
/-- All old memory. -/
abbrev oldC (W : World) : Chunk := @Chunk.mk (oldX W) true 0 []
/-- What is still so in a world that has kept all old memory. -/
def Kept (W w : World) : Prop := W.heap.size ≤ w.heap.size ∧ ∀ b, b < W.heap.size → w.heap[b]? = W.heap[b]?
theorem Kept.cell {W w : World} (h : Kept W w) {b o : Nat} {v : Value} (hv : W.cell? ⟨b, o, none⟩ = some v) : w.cell? ⟨b, o, none⟩ = some v := by
  have hl : b < W.heap.size := World.block_lt_of_cell? _ _ hv
  rw [← hv]
  simp only [World.cell?, h.2 _ hl]
theorem Kept.below {W w w' : World} (h : Kept W w) (hb : Below w.heap.size w w') : Kept W w' := ⟨Nat.le_trans h.1 hb.size, fun b hl => (hb.block b (Nat.lt_of_lt_of_le hl h.1)).trans (h.2 b hl)⟩
section
variable {P : Program} {G : Tys}
theorem old_kept {X : Ctx} {ρ : Nat → Nat × Nat} {h : List (Option Chunk)} {w : World} {i : Nat} {W : World} (H : HOK X ρ h w) (hi : h[i]? = some (some (oldC W))) : Kept W w := by
  obtain ⟨S, E⟩ := H.ext
  have M : OldOK W (ρ i) (S i) w := E.inv i _ hi
  exact ⟨M.size, M.old⟩
/-- A callee of plain values that leans on old memory. -/
theorem call_oldP {g : FuncId} {vs : List Value} {h : List (Option Chunk)} {v : Value} (i : Nat) (W : World) (hi : h[i]? = some (some (oldC W))) (hp : vs.all plain2 = true) (hv : plain3 v = true) (hr : ∀ xs w, (callFunc g xs).run P w = .ok (.enter g xs) w)
    (hc : ∀ w, Kept W w → Calls P g ⟨vs⟩ w fun e w' => e = .returned v ∧ Below w.heap.size w w') : CallOK P g vs h v [] [i] :=
  fun h₂ hrh _ X ρ w xs H hx => by
    obtain rfl := den_all_eq hp hx
    refine .inr ⟨hr _ w, (hc w (old_kept H ((hrh i (List.mem_singleton.2 rfl)).trans hi))).mono ?_⟩
    rintro e w' ⟨rfl, hb⟩
    exact ⟨v, rfl, ρ, AgreeOn.refl _ _, H.frame hb, fun r _ => den_plain3 hv r⟩
/-- A callee that makes one new row of plain cells. -/
theorem call_oldS {g : FuncId} {vs : List Value} {h : List (Option Chunk)} {n : Nat} (ty : TypeId) (cs : List Value) (i K : Nat) (W : World) (hi : h[i]? = some (some (oldC W))) (hK : h[K]? = some none) (hp : vs.all plain2 = true) (hn : cs.length = n) (hcs : ∀ c ∈ cs, plain1 c = true) (hr : ∀ xs w, (callFunc g xs).run P w = .ok (.enter g xs) w)
    (hc : ∀ w, Kept W w → Calls P g ⟨vs⟩ w fun e w' => e = .returned (.slice (some ⟨w.heap.size, 0, none⟩) n n) ∧ w' = w.alloc (.cells ⟨cs⟩ ty)) :
    CallOK P g vs h (.slice (some ⟨K, 0, some 0⟩) n n) [(K, ⟨true, n, [(0, n, .agg ⟨cs⟩)]⟩)] [i] :=
  fun h₂ hrh hms X ρ w xs H hx => by
    obtain rfl := den_all_eq hp hx
    have h2 : h₂[K]? = some none := (hms (K, ⟨true, n, [(0, n, .agg ⟨cs⟩)]⟩) (List.mem_singleton.2 rfl)).trans hK
    refine .inr ⟨hr _ w, (hc w (old_kept H ((hrh i (List.mem_singleton.2 rfl)).trans hi))).mono ?_⟩
    rintro e w' ⟨rfl, rfl⟩
    obtain ⟨ρ', ha, hρ, hH⟩ := H.alloc (c := ⟨true, n, [(0, n, .agg ⟨cs⟩)]⟩) (xs := ⟨cs⟩) (ty := ty) h2 (by show n = cs.length; exact hn.symm) (fun j x hj => by
      have hj' : cs[j]? = some x := by simpa using hj
      have hl : j < cs.length := (List.getElem?_eq_some_iff.1 hj').1
      have e1 : (Chunk.f ⟨true, n, [(0, n, .agg ⟨cs⟩)]⟩ j) = x := by
        show cellOf [(0, n, .agg ⟨cs⟩)] j = x
        rw [cellOf_cons, if_pos (by omega), Nat.sub_zero]
        show cs.getD j undef = x
        rw [List.getD_eq_getElem?_getD, hj']; rfl
      rw [e1]
      exact Den1.plain (hcs x (List.mem_of_getElem? hj')))
    refine ⟨_, rfl, ρ', ha, hH, ?_⟩
    have hF : Fil (modH h₂ [(K, ⟨true, n, [(0, n, .agg ⟨cs⟩)]⟩)]) K := ⟨_, by
      show (h₂.set K _)[K]? = _
      rw [List.getElem?_set_self (List.getElem?_eq_some_iff.1 h2).1]⟩
    intro r hr'
    have := hr' K hF
    simp only [den, den2, den1, den0, denA, this, hρ, Nat.zero_add]
/-- The start of a walk that keeps all old memory. -/
theorem calls_old {f : FuncId} {fn : Func} {c : Code} {vs : List Value} {V : Value} (W : World) (hG : TysOK P G) (hm : P.follows .mixedOrders = true) (hf : P.funcs[f]? = some fn) (hb : fn.body = some c) (hW : 0 < W.heap.size) (hp : vs.all plain2 = true) (hV : plain3 V = true)
    (hwp : initK vs fn.ntmps fun t => wpC P G 1 c (bodyQ P G fn fun v st => N (v = V ∧ st.h[0]? = some (some (oldC W)))) ⟨t, [some (oldC W)]⟩) : Calls P f ⟨vs⟩ W fun e w' => e = .returned V ∧ Below W.heap.size W w' := by
  let X : Ctx := ⟨W, fun a => a.block < W.heap.size, 1, fun _ => (0, 0)⟩
  have one : ∀ (k : Nat) (d : Chunk), [some (oldC W)][k]? = some (some d) → k = 0 ∧ d = oldC W := fun k d hk => by
    cases k with
    | zero => exact ⟨rfl, by simpa using hk.symm⟩
    | succ k => simp at hk
  have H : HOK X (fun _ => (0, 0)) [some (oldC W)] W := by
    refine ⟨Evo.refl _ _, fun i hi => ⟨⟨_, by
        have hi : i < 1 := hi
        obtain rfl : i = 0 := by omega
        rfl⟩, rfl⟩, fun k d hk => hW, fun k d hk j hj => ?_, fun k d hk ho j hj => ?_, fun k d l e hk ho hl hne => ?_, fun i b => i = 0 ∧ b < W.heap.size, fun k d hk => ?_, fun k d b hk hS => ?_, fun k d b l e hk hS hl hne => ?_⟩
    · obtain ⟨rfl, rfl⟩ := one k d hk; exact absurd hj (Nat.not_lt_zero j)
    · obtain ⟨rfl, rfl⟩ := one k d hk; exact absurd hj (Nat.not_lt_zero j)
    · exact absurd ((one k d hk).1.trans (one l e hl).1.symm) hne
    · obtain ⟨rfl, rfl⟩ := one k d hk
      exact ⟨hW, fun b => ⟨fun h => h.2, fun h => ⟨rfl, h⟩⟩, Nat.le_refl _, fun _ _ => rfl⟩
    · obtain ⟨rfl, rfl⟩ := one k d hk
      exact ⟨.inl rfl, hS.2, .inr ⟨hS.2, fun _ => hS.2⟩⟩
    · exact absurd ((one l e hl).1.trans (one k d hk).1.symm) hne
  have hd : ∀ {vs : List Value}, vs.all plain2 = true → All2 (Den (Fil [some (oldC W)]) (fun _ => (0, 0))) vs vs := by
    intro vs
    induction vs with
    | nil => exact fun _ => trivial
    | cons v r ih =>
      intro hp
      simp only [List.all_cons, Bool.and_eq_true] at hp
      exact ⟨Den.plain hp.1, ih hp.2⟩
  refine (calls_sx (args := ⟨vs⟩) (X := X) hG hm hf hb H (hd hp) hwp).mono ?_
  rintro e w' ⟨ρ', v, st, x, rfl, H', hdx, hq⟩
  obtain ⟨rfl, hF⟩ := hq.out
  obtain ⟨S, E⟩ := H'.ext
  have M : OldOK W (ρ' 0) (S 0) w' := E.inv 0 _ hF
  exact ⟨by rw [← hdx.self, den_plain3 hV], H'.evo.os, H'.evo.tape, H'.evo.output, H'.evo.size, fun b hb => M.old b hb⟩
/-- A callee whose own walk keeps old memory, as a contract. -/
theorem call_old {g : FuncId} {fn : Func} {c : Code} {vs : List Value} {V : Value} {h : List (Option Chunk)} (i : Nat) (W : World) (hi : h[i]? = some (some (oldC W))) (hG : TysOK P G) (hm : P.follows .mixedOrders = true) (hf : P.funcs[g]? = some fn) (hb : fn.body = some c) (hW : 0 < W.heap.size) (hp : vs.all plain2 = true) (hV : plain3 V = true) (hr : ∀ xs w, (callFunc g xs).run P w = .ok (.enter g xs) w)
    (hwp : ∀ w, Kept W w → initK vs fn.ntmps fun t => wpC P G 1 c (bodyQ P G fn fun v st => N (v = V ∧ st.h[0]? = some (some (oldC w)))) ⟨t, [some (oldC w)]⟩) : CallOK P g vs h V [] [i] :=
  call_oldP i W hi hp hV hr fun w hk => calls_old w hG hm hf hb (Nat.lt_of_lt_of_le hW hk.1) hp hV (hwp w hk)
end
end Go.Proofs.YtbepibdjlajppaaDoor.Sx
