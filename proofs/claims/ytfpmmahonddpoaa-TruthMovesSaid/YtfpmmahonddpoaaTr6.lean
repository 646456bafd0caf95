/-
  The walks of truth: Config, Step.
-/
import Derived.Test.YtfpmmahonddpoaaTr5
set_option linter.unusedVariables false
set_option linter.unusedSimpArgs false
namespace Go.Proofs.Ytfpmmahonddpoaa
open Go Go.RowKit Sx

/-- A config as the laws make it. -/
def cfgF (a0 a1 a2 a3 a8 a9 : Int) (k : Nat) : Int := match k with
  | 0 => a0 | 1 => a1 | 2 => a2 | 3 => a3 | 4 => 1 | 5 => 10 | 6 => 50 | 7 => 30 | 8 => a8 | 9 => a9 | _ => 1000000000000
def um (x m : Int) : Int := x % 18446744073709551616 % m
theorem umE (x m : Int) (h0 : 0 < m) (h1 : m ≤ 64) : IntKind.i64.wrap ((IntKind.u64.wrap x).tmod m) = um x m ∧ IntKind.i64.wrap (1 + IntKind.i64.wrap ((IntKind.u64.wrap x).tmod m)) = 1 + um x m := by
  have e : IntKind.u64.wrap x = x % 18446744073709551616 := IntKind.wrap_u64 x
  have a := Int.emod_nonneg (x % 18446744073709551616) (show m ≠ 0 by omega)
  have b := Int.emod_lt_of_pos (x % 18446744073709551616) h0
  have k : IntKind.i64.wrap ((IntKind.u64.wrap x).tmod m) = um x m := by
    rw [e, Int.tmod_eq_emod_of_nonneg (by omega), i64s _ (by omega) (by omega)]; rfl
  refine ⟨k, ?_⟩
  rw [k, i64s _ (by unfold um; omega) (by unfold um; omega)]
theorem um_in (x m : Int) (h : 0 < m) : 0 ≤ um x m ∧ um x m < m := ⟨Int.emod_nonneg _ (by omega), Int.emod_lt_of_pos _ h⟩
set_option maxRecDepth 100000 in
theorem config_x (x0 x1 x2 x3 x4 x5 : Int)  (w : World) : Calls Try.prog 8 #[.int .i64 x0, .int .i64 x1, .int .i64 x2, .int .i64 x3, .int .i64 x4, .int .i64 x5] w fun e w' => e = .returned (cfgV (cfgF (1 + um x0 8) (1 + um x1 6) (um x2 40) (um x3 10) (1 + um x4 6) (1 + um x5 8))) ∧ Below w.heap.size w w' := by
  refine calls_pure (G := tys) w tysOK mixed Try.func8 (by rfl) (by first | rfl | (simp only [List.all_cons, List.all_nil, plain_wz, plain_lim, plain_wi]; rfl)) (by first | exact plain3_wz _ | exact plain3_wi _ _ _ | rfl | (simp only [plain3, List.all_cons, List.all_nil, plain_wz, plain_lim, plain_wi]; rfl)) ?_
  repeat' (refine N.go ?_; first | with_reducible refine N.obl (by decide) ?_ | with_reducible refine N.obl (flat_wi _ _ _) ?_ | with_reducible refine N.obl (flat_lim _ _) ?_ | with_reducible refine N.eq ?_ | with_reducible refine N.obl rfl ?_ | with_reducible refine N.obl ⟨by kernel_rfl, by kernel_rfl⟩ ?_ | with_reducible refine N.forkT ?_ | with_reducible refine N.forkF ?_)
  rw [(umE x0 8 (by omega) (by omega)).2, (umE x1 6 (by omega) (by omega)).2, (umE x2 40 (by omega) (by omega)).1, (umE x3 10 (by omega) (by omega)).1, (umE x4 6 (by omega) (by omega)).2, (umE x5 8 (by omega) (by omega)).2]
  rfl
theorem cConfig (x0 x1 x2 x3 x4 x5 : Int) (h : List (Option Chunk)) : CallOK Try.prog 8 [.int .i64 x0, .int .i64 x1, .int .i64 x2, .int .i64 x3, .int .i64 x4, .int .i64 x5] h (cfgV (cfgF (1 + um x0 8) (1 + um x1 6) (um x2 40) (um x3 10) (1 + um x4 6) (1 + um x5 8))) [] [] :=
  call_pure rfl rfl (Try.call8 _) (config_x x0 x1 x2 x3 x4 x5)
theorem re1_int {ix : List (Nat × Nat)} {k : IntKind} {a b : Int} (h : a = b) : Re1 ix (.int k a) (.int k b) := by subst h; exact .plain rfl
set_option maxRecDepth 100000 in
set_option maxHeartbeats 2000000 in
theorem cStep (c : Nat → Int) (n cap i j k : Nat) (P : Nat → Int) (M : Nat → Bool) (tm st : Int) (o2 o3 : Bool) (h : List (Option Chunk)) (hi : h[i]? = some (some (wcc true c n cap j k tm st))) (hj : h[j]? = some (some (ptP o2 n P))) (hk : h[k]? = some (some (mvP o3 n M))) (hij : i ≠ j) (hik : i ≠ k) (ht : 0 ≤ tm ∧ tm ≤ 1000000) (hst : 0 ≤ st ∧ st ≤ 16777215) :
    CallOK Try.prog 17 [.pointer (some ⟨i, 0, some 0⟩)] h (.int .i64 (tm * 16777216 + min (st + 1) 16777215)) [(i, wcc true c n cap j k tm (min (st + 1) 16777215))] [j, k] := by
  have e1 : IntKind.i64.wrap (st + 1) = st + 1 := i64s _ (by omega) (by omega)
  have e2 : IntKind.i64.wrap (tm * 16777216) = tm * 16777216 := i64s _ (by omega) (by omega)
  have e3 : IntKind.i64.wrap (tm * 16777216 + min (st + 1) 16777215) = tm * 16777216 + min (st + 1) 16777215 := i64s _ (by omega) (by omega)
  refine call_sub (G := tys) [⟨i, _, wcc true c n cap 1 2 tm st, wcc true c n cap j k tm (min (st + 1) 16777215)⟩, ⟨j, _, ptP false n P, ⟨false, 0, []⟩⟩, ⟨k, _, mvP false n M, ⟨false, 0, []⟩⟩] [] [.pointer (some ⟨0, 0, some 0⟩)] tysOK mixed Try.func17 (by rfl) (Try.call17) ⟨hi, hj, hk, trivial⟩ ⟨⟨fun h => ⟨rfl, Nat.le_refl _⟩, Nat.le_refl _, wcc_re rfl rfl⟩, ⟨fun h => (by cases h), Nat.le_refl _, ptP_re⟩, ⟨fun h => (by cases h), Nat.le_refl _, mvP_re⟩, trivial⟩ (by simp [Apart, hij, hik]) trivial ⟨.ptr rfl, trivial⟩ ?_
  repeat' (refine N.go ?_; first | with_reducible refine N.obl (by decide) ?_ | with_reducible refine N.obl (flat_wi _ _ _) ?_ | with_reducible refine N.obl (flat_lim _ _) ?_ | with_reducible refine N.eq ?_ | with_reducible refine N.obl rfl ?_ | with_reducible refine N.obl ⟨by kernel_rfl, by kernel_rfl⟩ ?_ | with_reducible refine N.forkT ?_ | with_reducible refine N.forkF ?_ | with_reducible refine N.min2 ?_ | refine N.obl (re_eq (int_eq (by rw [e1, e2, e3])) rfl) ?_ | refine N.obl ⟨⟨_, rfl, id, Nat.le_refl _, lt15 (by first | exact Re1.plain rfl | exact Re1.slice rfl | exact re1_int (by rw [e1])) (by first | exact Re1.plain rfl | exact Re1.slice rfl | exact re1_int (by rw [e1])) (by first | exact Re1.plain rfl | exact Re1.slice rfl | exact re1_int (by rw [e1])) (by first | exact Re1.plain rfl | exact Re1.slice rfl | exact re1_int (by rw [e1])) (by first | exact Re1.plain rfl | exact Re1.slice rfl | exact re1_int (by rw [e1])) (by first | exact Re1.plain rfl | exact Re1.slice rfl | exact re1_int (by rw [e1])) (by first | exact Re1.plain rfl | exact Re1.slice rfl | exact re1_int (by rw [e1])) (by first | exact Re1.plain rfl | exact Re1.slice rfl | exact re1_int (by rw [e1])) (by first | exact Re1.plain rfl | exact Re1.slice rfl | exact re1_int (by rw [e1])) (by first | exact Re1.plain rfl | exact Re1.slice rfl | exact re1_int (by rw [e1])) (by first | exact Re1.plain rfl | exact Re1.slice rfl | exact re1_int (by rw [e1])) (by first | exact Re1.plain rfl | exact Re1.slice rfl | exact re1_int (by rw [e1])) (by first | exact Re1.plain rfl | exact Re1.slice rfl | exact re1_int (by rw [e1])) (by first | exact Re1.plain rfl | exact Re1.slice rfl | exact re1_int (by rw [e1])) (by first | exact Re1.plain rfl | exact Re1.slice rfl | exact re1_int (by rw [e1]))⟩, trivial⟩ ?_ | refine N.obl trivial ?_ | exact N.true)
end Go.Proofs.Ytfpmmahonddpoaa
