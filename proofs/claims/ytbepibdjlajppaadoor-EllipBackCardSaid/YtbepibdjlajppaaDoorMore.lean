
/-
  min, max of two numbers; a loop of a few rounds, unrolled.
-/
import Derived.Test.YtbepibdjlajppaaDoorTy
import Derived.KernelRfl
set_option linter.unusedVariables false
set_option linter.unusedSimpArgs false
namespace Go.Proofs.YtbepibdjlajppaaDoor
open Go Go.RowKit Sx

theorem N.min2 {ts : Array TypeId} {t : TypeId} {k : IntKind} {x y : Int} {K : Value → Prop} (h : K (.int k (min x y))) : N (BuiltN Tryd.prog .min ts t [.int k x, .int k y] K) := by
  refine N.mk ⟨.int k (min x y), ⟨rfl, rfl, fun cs w => ?_⟩, h⟩
  have e : (if y < x then y else x) = min x y := by split <;> omega
  show (do pure (Next.value (← Builtin.min_ ts t #[.int k x, .int k y])) : Sem _).run Tryd.prog w = _
  rw [Sem.run_bind, run_min_int2, e]; rfl
theorem N.max2 {ts : Array TypeId} {t : TypeId} {k : IntKind} {x y : Int} {K : Value → Prop} (h : K (.int k (max x y))) : N (BuiltN Tryd.prog .max ts t [.int k x, .int k y] K) := by
  refine N.mk ⟨.int k (max x y), ⟨rfl, rfl, fun cs w => ?_⟩, h⟩
  have e : (if y > x then y else x) = max x y := by split <;> omega
  show (do pure (Next.value (← Builtin.max_ ts t #[.int k x, .int k y])) : Sem _).run Tryd.prog w = _
  rw [Sem.run_bind, run_max_int2, e]; rfl
/-- A loop of a few rounds, unrolled. -/
noncomputable def Roll (A : CodeT) (Q : Exit → St → Prop) (k : Nat) : St → Prop := Nat.rec (motive := fun _ => St → Prop) (fun _ => False) (fun _ W st => A (thenQ W Q) st) k
theorem N.roll {P : Program} {G : Tys} {n0 : Nat} {c : Code} {A : (Exit → St → Prop) → St → Prop} {Q : Exit → St → Prop} {st : St} (k : Nat) (h : Roll A Q k st) : N (LoopN P G n0 c A Q st) :=
  N.mk ⟨(k : Nat) × {s : St // Roll A Q k s}, fun x => x.2.1, fun _ => True, fun x => x.1, fun x s => ∃ j, x.1 = j + 1 ∧ Roll A Q j s, fun x s hx => by
    obtain ⟨j, hj, hr⟩ := hx
    refine ⟨⟨j, s, hr⟩, trivial, ?_, by show j < x.1; omega⟩
    exact (Wk.refl _ _).g, ⟨⟨k, st, h⟩, trivial, (Wk.refl _ _).g⟩, fun x _ => by
    obtain ⟨k, s, hs⟩ := x
    cases k with
    | zero => exact hs.elim
    | succ j =>
      have : (fun s' => ∃ i, j + 1 = i + 1 ∧ Roll A Q i s') = Roll A Q j := by
        funext s'
        refine propext ⟨fun ⟨i, hi, hr⟩ => ?_, fun hr => ⟨j, rfl, hr⟩⟩
        have : j = i := by simpa using hi
        subst this; exact hr
      show A (thenQ (fun s' => ∃ i, j + 1 = i + 1 ∧ Roll A Q i s') Q) s
      rw [this]; exact hs⟩
theorem Tryd.own : ownKnob Tryd.prog.godebug = none := by kernel_rfl
theorem Tryd.laidOut : laidOutB Tryd.prog = true := by kernel_rfl
theorem u64mod (x : Int) (m : Int) (h0 : 0 < m) (h1 : m ≤ 9223372036854775807) : 0 ≤ IntKind.i64.wrap ((IntKind.u64.wrap x).tmod m) ∧ IntKind.i64.wrap ((IntKind.u64.wrap x).tmod m) < m := by
  have e : 0 ≤ IntKind.u64.wrap x := by rw [IntKind.wrap_u64]; omega
  rw [Int.tmod_eq_emod_of_nonneg e]
  have a := Int.emod_nonneg (IntKind.u64.wrap x) (by omega : m ≠ 0)
  have b := Int.emod_lt_of_pos (IntKind.u64.wrap x) h0
  rw [IntKind.wrap_i64, show (IntKind.u64.wrap x % m + 9223372036854775808) % 18446744073709551616 - 9223372036854775808 = IntKind.u64.wrap x % m from by omega]
  exact ⟨a, b⟩
theorem tmodR (x m : Int) (hm : 0 < m) : -m < x.tmod m ∧ x.tmod m < m := by
  rcases Int.le_total 0 x with h | h
  · rw [Int.tmod_eq_emod_of_nonneg h]
    have a := Int.emod_nonneg x (by omega : m ≠ 0)
    have b := Int.emod_lt_of_pos x hm
    omega
  · have : x.tmod m = -((-x).tmod m) := by rw [Int.neg_tmod]; omega
    rw [this, Int.tmod_eq_emod_of_nonneg (by omega)]
    have a := Int.emod_nonneg (-x) (by omega : m ≠ 0)
    have b := Int.emod_lt_of_pos (-x) hm
    omega
end Go.Proofs.YtbepibdjlajppaaDoor
