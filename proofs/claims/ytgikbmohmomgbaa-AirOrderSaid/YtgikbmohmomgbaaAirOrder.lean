
/-
  The statement AirOrder: for every input the law returns true.
-/
import Derived.Test.YtgikbmohmomgbaaAirOrdN0
import Derived.Test.YtgikbmohmomgbaaAirOrdN1
import Derived.Test.YtgikbmohmomgbaaAirOrdN2
import Derived.Test.YtgikbmohmomgbaaAirOrdY
import Derived.Test.YtgikbmohmomgbaaRows
set_option linter.unusedVariables false
set_option linter.unusedSimpArgs false
namespace Go.Proofs.Ytgikbmohmomgbaa.airOrder
open Go Go.ChangeShapes Go.WideShapes Go.ChangeAt Go.RowKit Sx

set_option maxRecDepth 100000 in
set_option maxHeartbeats 2000000 in
theorem walkNil (x1 x2 bb : Int) (W : World) : Calls Try.prog 3 #[.slice none 0 0, .int .i64 x1, .int .i64 x2, .int .u8 bb] W fun e w' => e = .returned (.bool true) ∧ Below W.heap.size W w' := by
  refine calls_pure (G := tys) W tysOK mixed Try.func3 (by rfl) (by rfl) (by rfl) ?_
  repeat' (refine N.go ?_; first | with_reducible refine N.obl (by decide) ?_ | with_reducible refine N.obl (flat_wi _ _ _) ?_ | with_reducible refine N.obl (flat_lim _ _) ?_ | with_reducible refine N.eq ?_ | with_reducible refine N.obl rfl ?_ | with_reducible refine N.obl ⟨by kernel_rfl, by kernel_rfl⟩ ?_ | with_reducible refine N.alt ?_ | with_reducible refine N.forkT ?_ | with_reducible refine N.forkF ?_ | refine N.forkNo (by decide) ?_ | refine N.forkYes (by decide) ?_ | refine N.forkNo (beq_false_of_ne (by omega)) ?_ | refine N.forkYes (by rw [decide_eq_true_eq]; omega) ?_ | refine N.forkNo (by rw [decide_eq_false_iff_not]; omega) ?_ | with_reducible refine N.call (cAwake23 _) ?_ | fail_if_success skip)
  all_goals rfl
set_option maxRecDepth 100000 in
set_option maxHeartbeats 2000000 in
theorem walkOut (b0 o0 n cap : Nat) (x1 x2 bb : Int) (W : World) (hn : n = 0 ∨ 50 < n) : Calls Try.prog 3 #[.slice (some ⟨b0, o0, none⟩) n cap, .int .i64 x1, .int .i64 x2, .int .u8 bb] W fun e w' => e = .returned (.bool true) ∧ Below W.heap.size W w' := by
  refine calls_pure (G := tys) W tysOK mixed Try.func3 (by rfl) (by rfl) (by rfl) ?_
  rcases hn with hn | hn
  · subst hn
    repeat' (refine N.go ?_; first | with_reducible refine N.obl (by decide) ?_ | with_reducible refine N.obl (flat_wi _ _ _) ?_ | with_reducible refine N.obl (flat_lim _ _) ?_ | with_reducible refine N.eq ?_ | with_reducible refine N.obl rfl ?_ | with_reducible refine N.obl ⟨by kernel_rfl, by kernel_rfl⟩ ?_ | with_reducible refine N.alt ?_ | with_reducible refine N.forkT ?_ | with_reducible refine N.forkF ?_ | refine N.forkNo (by decide) ?_ | refine N.forkYes (by decide) ?_ | refine N.forkNo (beq_false_of_ne (by omega)) ?_ | refine N.forkYes (by rw [decide_eq_true_eq]; omega) ?_ | refine N.forkNo (by rw [decide_eq_false_iff_not]; omega) ?_ | with_reducible refine N.call (cAwake23 _) ?_ | fail_if_success skip)
    all_goals rfl
  · repeat' (refine N.go ?_; first | with_reducible refine N.obl (by decide) ?_ | with_reducible refine N.obl (flat_wi _ _ _) ?_ | with_reducible refine N.obl (flat_lim _ _) ?_ | with_reducible refine N.eq ?_ | with_reducible refine N.obl rfl ?_ | with_reducible refine N.obl ⟨by kernel_rfl, by kernel_rfl⟩ ?_ | with_reducible refine N.alt ?_ | with_reducible refine N.forkT ?_ | with_reducible refine N.forkF ?_ | refine N.forkNo (by decide) ?_ | refine N.forkYes (by decide) ?_ | refine N.forkNo (beq_false_of_ne (by omega)) ?_ | refine N.forkYes (by rw [decide_eq_true_eq]; omega) ?_ | refine N.forkNo (by rw [decide_eq_false_iff_not]; omega) ?_ | with_reducible refine N.call (cAwake23 _) ?_ | fail_if_success skip)
    all_goals rfl
theorem walk (b0 o0 n cap : Nat) (U : Nat → Option Sl) (B : Nat → List Int) (x1 x2 bb : Int) (W : World) (hW : b0 < W.heap.size) (hU : ∀ i, i < n → W.cell? ⟨b0, o0 + i, none⟩ = some (uR (U i)) ∧ Src W [] (U i) (B i)) :
    Calls Try.prog 3 #[.slice (some ⟨b0, o0, none⟩) n cap, .int .i64 x1, .int .i64 x2, .int .u8 bb] W fun e w' => e = .returned (.bool true) ∧ Below W.heap.size W w' := by
  by_cases hn : n = 0 ∨ 50 < n
  · exact walkOut b0 o0 n cap x1 x2 bb W hn
  · obtain ⟨a, ha, hea⟩ : ∃ a : Nat, a < n ∧ IntKind.i64.wrap ((IntKind.u64.wrap x1).tmod (IntKind.u64.wrap (n : Int))) = (a : Int) := by
      have e : IntKind.u64.wrap (n : Int) = n := by rw [IntKind.wrap_u64]; omega
      rw [e]
      have := u64mod x1 n (by omega) (by omega)
      exact ⟨(IntKind.i64.wrap ((IntKind.u64.wrap x1).tmod n)).toNat, by omega, by omega⟩
    by_cases k0 : x2 < 0
    · exact walkN0 b0 o0 n cap U B x1 x2 bb W hW (by omega) (by omega) hU a ha hea k0
    · by_cases k1 : ((B a).length : Int) ≤ x2
      · exact walkN1 b0 o0 n cap U B x1 x2 bb W hW (by omega) (by omega) hU a ha hea k0 k1
      · by_cases k2 : bb = 0
        · exact walkN2 b0 o0 n cap U B x1 x2 bb W hW (by omega) (by omega) hU a ha hea k0 k1 k2
        · exact walkY b0 o0 n cap U B x1 x2 bb W hW (by omega) (by omega) hU a ha hea (by omega) (by omega) k2
set_option maxRecDepth 100000 in
theorem lifted (os : Os) (started : os.Started) (H : Type) (enc : TypeId × Value → H) :
    ReturnsInHanded {} Try.checked os 3 .any (Rows.airOrderSpec.pre6 enc Try.prog Try.f3 Rows.airOrderRow.domain false) (Rows.airOrderSpec.post enc Try.prog Try.f3 false true false false) := by
  refine law_lifted (C := Try.checked) (tb := 4) Try.own started (by kernel_rfl) Try.func3 Try.laidOut (by kernel_rfl) rfl Try.underlying4 rfl
    (fun ds hds => by match ds, hds with | [_, _, _, _], _ => rfl)
    (ChangeSpec.witness6 (enc := enc) (C := Try.checked) false ⟨#[], #[.slice none 0 0, .int .i64 0, .int .i64 0, .int .u8 0], []⟩ 8 (by kernel_rfl) (by kernel_rfl) (by kernel_rfl) (by kernel_rfl)) ?_
  intro W base args ds p hval0 hA0 hsz0
  have hval : ∀ (j : Nat) t v, Try.f3.params[j]? = some t → args[j]? = some v → Value.okWide Try.prog W .any base t v := hval0
  have hA : DataW.TrodAll enc Try.prog W 0 (fun _ => true) true Try.f3.params.toList args.toList ds p := hA0
  have hsz : (DataW.weightsEach Try.prog Try.f3.params.toList ds).all (· ≤ reachBytes) = true := hsz0
  rw [Try.params3] at hA hval hsz
  obtain ⟨v0, vs0, d0, ds0, p0, q0, hargs, rfl, rfl, h0, r0⟩ := trodAll_cons hA
  obtain ⟨v1, vs1, d1, ds1, p1, q1, rfl, rfl, rfl, h1, r1⟩ := trodAll_cons r0
  obtain ⟨v2, vs2, d2, ds2, p2, q2, rfl, rfl, rfl, h2, r2⟩ := trodAll_cons r1
  obtain ⟨v3, vs3, d3, ds3, p3, q3, rfl, rfl, rfl, h3, r3⟩ := trodAll_cons r2
  obtain ⟨rfl, rfl, rfl⟩ := trodAll_nil r3
  obtain rfl : args = #[v0, v1, v2, v3] := by cases args; simp_all
  obtain ⟨a1, rfl, rfl, rfl, w1⟩ := open_int Try.underlying3 (hval 1 _ v1 rfl rfl) h1
  obtain ⟨a2, rfl, rfl, rfl, w2⟩ := open_int Try.underlying3 (hval 2 _ v2 rfl rfl) h2
  obtain ⟨a3, rfl, rfl, rfl, w3⟩ := open_int Try.underlying5 (hval 3 _ v3 rfl rfl) h3
  rcases open_bytess (hval 0 _ v0 rfl rfl) h0 with rfl | ⟨b, o, n, cap, U, B, rfl, hm, hb, hU⟩
  · exact walkNil a1 a2 a3 W
  exact walk b o n cap U B a1 a2 a3 W hb hU

theorem proved : Rows.AirOrderSaid :=
  OpenClaim.holds_of_wide 3 Try.f3 rfl rfl rfl rfl rfl rfl rfl ⟨rfl, rfl, rfl, rfl, rfl⟩ rfl rfl rfl rfl rfl (by kernel_rfl) Try.func3 (by kernel_rfl)
    (of_decide_eq_true (by kernel_rfl)) (by unfold Func.isWrapper; rw [if_neg (by decide +kernel)]; exact ⟨rfl, rfl⟩)
    (fun os started H enc _ => lifted os started H enc)
#print axioms proved
end Go.Proofs.Ytgikbmohmomgbaa.airOrder
