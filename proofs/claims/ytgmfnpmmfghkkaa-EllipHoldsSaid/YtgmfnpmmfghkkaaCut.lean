/-
  A function's text in parts: a part is walked by itself, in all its cases, and what the next part needs is told once.
-/
import Derived.Test.YtgmfnpmmfghkkaaArg
set_option linter.unusedVariables false
set_option linter.unusedSimpArgs false
namespace Go.Proofs.Ytgmfnpmmfghkkaa.Sx
open Go Go.RowKit

section
variable {P : Program} {G : Tys}
def Runs (P : Program) (n0 : Nat) (c : Code) (Q : Exit → St → Prop) (st : St) : Prop := ∀ X : Ctx, X.n0 = n0 → ∀ ρ a w, Rel X ρ st a w → c.wp P (Lift X Q) a w
theorem Runs.eval {n0 : Nat} {c : Code} {Q : Exit → St → Prop} {st : St} (hG : TysOK P G) (hm : P.follows .mixedOrders = true) (h : wpC P G n0 c Q st) : Runs P n0 c Q st := fun X hX ρ a w R => by
  subst hX; exact wpC_out hG hm X c Q st h ρ a w R
theorem Runs.mono {n0 : Nat} {c : Code} {Q Q' : Exit → St → Prop} {st : St} (h : Runs P n0 c Q st) (hq : ∀ e s, Q e s → Q' e s) : Runs P n0 c Q' st := fun X hX ρ a w R =>
  wp_mono (h X hX ρ a w R) fun e a' w' ⟨ρ', s, R', hs⟩ => ⟨ρ', s, R', hq e s hs⟩
theorem Runs.seq {n0 : Nat} {A B : Code} {Q : Exit → St → Prop} {st : St} (h : Runs P n0 A (thenQ (fun s => Runs P n0 B Q s) Q) st) : Runs P n0 (.seq A B) Q st := fun X hX ρ a w R => by
  refine wp_seq (wp_mono (h X hX ρ a w R) ?_)
  rintro e a' w' ⟨ρ', s, R', hq⟩
  cases e with
  | normal => exact hq X hX ρ' a' w' R'
  | _ => exact ⟨ρ', s, R', hq⟩
theorem Runs.weak {n0 : Nat} {c : Code} {Q : Exit → St → Prop} {st s : St} (hw : Wk n0 st s) (h : Runs P n0 c Q s) : Runs P n0 c Q st := fun X hX ρ a w R => by
  subst hX; exact h X rfl ρ a w (hw.rel R)
/-- The first part is walked; the second is told from where it ends. -/
theorem Runs.step {n0 : Nat} {A B : Code} {Q : Exit → St → Prop} {st : St} (hG : TysOK P G) (hm : P.follows .mixedOrders = true) (h : wpC P G n0 A (thenQ (fun s => N (Runs P n0 B Q s)) Q) st) : Runs P n0 (.seq A B) Q st := by
  refine Runs.seq ((Runs.eval hG hm h).mono fun e s hs => ?_)
  cases e <;> first | exact N.out hs | exact hs
/-- The first part is walked in all its cases; the second begins with what is the same in them. -/
theorem Runs.cut {n0 : Nat} {A B : Code} {Q : Exit → St → Prop} {t : List (Option Value)} {h : List (Option Chunk)} (hG : TysOK P G) (hm : P.follows .mixedOrders = true) (sets : List (Nat × Value)) (hs : List (Nat × Chunk))
    (h1 : updK (maskC A) sets t 0 fun t' => setM h hs fun h' => wpC P G n0 A (thenQ (fun s => N (wkK n0 s ⟨t', h'⟩ (N True))) Q) ⟨t, h⟩)
    (h2 : updK (maskC A) sets t 0 fun t' => setM h hs fun h' => N (Runs P n0 B Q ⟨t', h'⟩)) : Runs P n0 (.seq A B) Q ⟨t, h⟩ := by
  have h1 := setM_iff.1 (updK_iff.1 h1)
  have h2 := N.out (setM_iff.1 (updK_iff.1 h2))
  refine Runs.seq ((Runs.eval hG hm h1).mono fun e s hs => ?_)
  cases e <;> first | exact Runs.weak (wk_out (N.out hs)).1 h2 | exact hs

theorem N.wk {n0 : Nat} {s s' : St} {A : Prop} (h : wkK n0 s s' A) : N (wkK n0 s s' A) := N.mk h
theorem N.runs {n0 : Nat} {c : Code} {Q : Exit → St → Prop} {st : St} (h : Runs P n0 c Q st) : N (Runs P n0 c Q st) := N.mk h
/-- A function of plain values, in parts: its contract. -/
theorem calls_parts {f : FuncId} {fn : Func} {c : Code} {vs : List Value} {V : Value} (w : World) (hG : TysOK P G) (hm : P.follows .mixedOrders = true) (hf : P.funcs[f]? = some fn) (hb : fn.body = some c) (hp : vs.all plain2 = true) (hV : plain3 V = true)
    (hwp : initK vs fn.ntmps fun t => N (Runs P 0 c (bodyQ P G fn fun v _ => N (v = V)) ⟨t, []⟩)) : Calls P f ⟨vs⟩ w fun e w' => e = .returned V ∧ Below w.heap.size w w' := by
  have hwp := N.out (initK_out hwp)
  let X : Ctx := ⟨w, fun _ => False, 0, fun _ => (0, 0)⟩
  have H : HOK X (fun _ => (0, 0)) [] w := ⟨Evo.refl _ _, fun i hi => absurd hi (by simp [X]), fun i c hi => by simp at hi, fun i c hi => by simp at hi, fun i c hi => by simp at hi, fun i c j d hi => by simp at hi⟩
  refine calls_of_wp hf hb ?_
  have R0 : Rel X (fun _ => (0, 0)) ⟨initT vs fn.ntmps, []⟩ { tmps := ⟨vs⟩ ++ Array.replicate (fn.ntmps - (⟨vs⟩ : Array Value).size) undef, defers := [] } w := by
    refine ⟨rfl, ?_, fun i v hi => ?_, H⟩
    · simp [initT_len]
    · have hv := initT_get vs fn.ntmps i v hi
      obtain ⟨y, hy, hd⟩ := all2_get (den_all (F := Fil []) (ρ := fun _ => (0, 0)) hp) i v hv
      refine ⟨y, ?_, hd⟩
      have hi' : i < (⟨vs⟩ : Array Value).size := by have := (List.getElem?_eq_some_iff.1 hy).1; simpa using this
      rw [Array.getElem?_append_left hi']
      simpa using hy
  refine wp_mono (hwp X rfl _ _ w R0) ?_
  have fin : ∀ (s : St) (v : Value) (ρ' : Nat → Nat × Nat) (w' : World) (x : Value), HOK X ρ' s.h w' → Den (Fil s.h) ρ' v x → N (v = V) → (Ending.returned x = .returned V ∧ Below w.heap.size w w') := fun s v ρ' w' x H' hd hv => by
    have hv := hv.out
    subst hv
    refine ⟨?_, H'.evo.below⟩
    rw [← hd.self, den_plain3 hV]
  rintro e a' w' ⟨ρ', s, R', hq⟩
  cases e with
  | normal =>
    obtain ⟨v, hk, hr⟩ := ret_out hG hq
    obtain ⟨x, hx, hd⟩ := hr X ρ' a' w' R'
    exact ⟨R'.defers, x, hx, fin s v ρ' w' x R'.heap hd hk⟩
  | ret =>
    obtain ⟨v, hk, hr⟩ := ret_out hG hq
    obtain ⟨x, hx, hd⟩ := hr X ρ' a' w' R'
    exact ⟨R'.defers, x, hx, fin s v ρ' w' x R'.heap hd hk⟩
  | _ => exact hq.elim
end
end Go.Proofs.Ytgmfnpmmfghkkaa.Sx
