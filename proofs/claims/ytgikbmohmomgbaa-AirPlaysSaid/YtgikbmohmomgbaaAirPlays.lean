
/-
  The statement AirPlays: for every input the law returns true.
-/
import Derived.Test.YtgikbmohmomgbaaAirPlC
import Derived.Test.YtgikbmohmomgbaaRows
set_option linter.unusedVariables false
set_option linter.unusedSimpArgs false
namespace Go.Proofs.Ytgikbmohmomgbaa.airPlays
open Go Go.ChangeShapes Go.WideShapes Go.ChangeAt Go.RowKit Sx

set_option maxRecDepth 100000 in
set_option maxHeartbeats 2000000 in
theorem walkNil (k : Int) (W : World) : Calls Try.prog 4 #[.slice none 0 0, .int .i64 k] W fun e w' => e = .returned (.bool true) ∧ Below W.heap.size W w' := by
  refine calls_pure (G := tys) W tysOK mixed Try.func4 (by rfl) (by rfl) (by rfl) ?_
  repeat' (refine N.go ?_; first | with_reducible refine N.obl (by decide) ?_ | with_reducible refine N.obl (flat_wi _ _ _) ?_ | with_reducible refine N.obl (flat_lim _ _) ?_ | with_reducible refine N.eq ?_ | with_reducible refine N.obl rfl ?_ | with_reducible refine N.obl ⟨by kernel_rfl, by kernel_rfl⟩ ?_ | with_reducible refine N.alt ?_ | with_reducible refine N.forkT ?_ | with_reducible refine N.forkF ?_ | refine N.forkNo (by decide) ?_ | refine N.forkYes (by decide) ?_ | refine N.forkYes (by rw [decide_eq_true_eq]; omega) ?_ | refine N.forkNo (by rw [decide_eq_false_iff_not]; omega) ?_ | refine N.call (cNewM 0 _ (by rfl)) ?_ | fail_if_success skip)
  refine N.go ?_
  refine N.loopR (α := Unit) (fun q => True) (fun q => 0) (fun q => [(25, .int .i64 0)]) (fun q => []) () [(0, 0), (4, 4)] trivial ?_ ?_
  · repeat' (refine N.go ?_; first | with_reducible refine N.obl (by decide) ?_ | with_reducible refine N.obl (flat_wi _ _ _) ?_ | with_reducible refine N.obl (flat_lim _ _) ?_ | with_reducible refine N.eq ?_ | with_reducible refine N.obl rfl ?_ | with_reducible refine N.obl ⟨by kernel_rfl, by kernel_rfl⟩ ?_ | with_reducible refine N.alt ?_ | with_reducible refine N.forkT ?_ | with_reducible refine N.forkF ?_ | exact N.true | refine N.obl (memC_ren rfl) ?_ | refine N.obl (airP_ren rfl) ?_ | refine N.obl refC_ren ?_ | refine N.obl (refC_ren0 rfl (Nat.le_refl _) rfl) ?_ | refine N.obl (.plain (by rfl)) ?_ | refine N.obl (.one .quo) ?_ | refine N.obl (.one (.ptr rfl)) ?_ | refine N.obl (.one (.slice rfl)) ?_ | refine N.obl (ChunkReLe.same (agg_plain (by rfl) (by rfl))) ?_ | fail_if_success skip)
  rintro q -
  repeat' (refine N.go ?_; first | with_reducible refine N.obl (by decide) ?_ | with_reducible refine N.obl (flat_wi _ _ _) ?_ | with_reducible refine N.obl (flat_lim _ _) ?_ | with_reducible refine N.eq ?_ | with_reducible refine N.obl rfl ?_ | with_reducible refine N.obl ⟨by kernel_rfl, by kernel_rfl⟩ ?_ | with_reducible refine N.alt ?_ | with_reducible refine N.forkT ?_ | with_reducible refine N.forkF ?_ | refine N.forkNo (by decide) ?_ | refine N.forkYes (by decide) ?_ | refine N.forkYes (by rw [decide_eq_true_eq]; omega) ?_ | refine N.forkNo (by rw [decide_eq_false_iff_not]; omega) ?_ | refine N.forkYes (decide_eq_true (by show _ ≤ _; omega)) ?_ | refine N.forkNo (decide_eq_false (by show ¬ _ ≤ _; omega)) ?_ | refine N.forkYes (decide_eq_true (by show _ < _; omega)) ?_ | refine N.forkNo (decide_eq_false (by show ¬ _ < _; omega)) ?_ | with_reducible refine N.call (cAwake23 _) ?_ | fail_if_success skip)
  all_goals rfl
set_option maxRecDepth 100000 in
theorem lifted (os : Os) (started : os.Started) (H : Type) (enc : TypeId × Value → H) :
    ReturnsInHanded {} Try.checked os 4 .any (Rows.airPlaysSpec.pre6 enc Try.prog Try.f4 Rows.airPlaysRow.domain false) (Rows.airPlaysSpec.post enc Try.prog Try.f4 false true false false) := by
  refine law_lifted (C := Try.checked) (tb := 4) Try.own started (by kernel_rfl) Try.func4 Try.laidOut (by kernel_rfl) rfl Try.underlying4 rfl
    (fun ds hds => by match ds, hds with | [_, _], _ => rfl)
    (ChangeSpec.witness6 (enc := enc) (C := Try.checked) false ⟨#[], #[.slice none 0 0, .int .i64 0], []⟩ 8 (by kernel_rfl) (by kernel_rfl) (by kernel_rfl) (by kernel_rfl)) ?_
  intro W base args ds p hval0 hA0 hsz0
  have hval : ∀ (j : Nat) t v, Try.f4.params[j]? = some t → args[j]? = some v → Value.okWide Try.prog W .any base t v := hval0
  have hA : DataW.TrodAll enc Try.prog W 0 (fun _ => true) true Try.f4.params.toList args.toList ds p := hA0
  have hsz : (DataW.weightsEach Try.prog Try.f4.params.toList ds).all (· ≤ reachBytes) = true := hsz0
  rw [Try.params4] at hA hval hsz
  obtain ⟨v0, vs0, d0, ds0, p0, q0, hargs, rfl, rfl, h0, r0⟩ := trodAll_cons hA
  obtain ⟨v1, vs1, d1, ds1, p1, q1, rfl, rfl, rfl, h1, r1⟩ := trodAll_cons r0
  obtain ⟨rfl, rfl, rfl⟩ := trodAll_nil r1
  obtain rfl : args = #[v0, v1] := by cases args; simp_all
  obtain ⟨a1, rfl, rfl, rfl, w1⟩ := open_int Try.underlying3 (hval 1 _ v1 rfl rfl) h1
  rcases open_clsM (hval 0 _ v0 rfl rfl) h0 with rfl | ⟨b, o, n, cap, C, B, rfl, hm, hb, hC⟩
  · exact walkNil a1 W
  exact walk b o n cap C B a1 W hb hC hm

theorem proved : Rows.AirPlaysSaid :=
  OpenClaim.holds_of_wide 4 Try.f4 rfl rfl rfl rfl rfl rfl rfl ⟨rfl, rfl, rfl, rfl, rfl⟩ rfl rfl rfl rfl rfl (by kernel_rfl) Try.func4 (by kernel_rfl)
    (of_decide_eq_true (by kernel_rfl)) (by unfold Func.isWrapper; rw [if_neg (by decide +kernel)]; exact ⟨rfl, rfl⟩)
    (fun os started H enc _ => lifted os started H enc)
#print axioms proved
end Go.Proofs.Ytgikbmohmomgbaa.airPlays
