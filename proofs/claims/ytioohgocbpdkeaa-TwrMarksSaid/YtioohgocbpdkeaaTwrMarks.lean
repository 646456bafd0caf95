/-
  The statement TwrMarks: for every input the law returns true.
-/
import Derived.Test.YtioohgocbpdkeaaSesY
set_option linter.unusedVariables false
set_option linter.unusedSimpArgs false
namespace Go.Proofs.Ytioohgocbpdkeaa.twrMarks
open Go Go.ChangeShapes Go.WideShapes Go.ChangeAt Go.RowKit Sx

set_option maxRecDepth 100000 in
set_option maxHeartbeats 4000000 in
theorem walk (a m o : Int) (w : World) :
    Calls Try.prog 11 #[.int .i64 a, .int .i64 m, .int .i64 o] w fun o w' => o = .returned (.bool true) ∧ Below w.heap.size w w' := by
  have ha := u64mod a 1099511627776 (by decide) (by decide)
  refine calls_pure (G := tys) w tysOK mixed Try.func11 (by rfl) (by rfl) (by rfl) ?_
  repeat' (refine N.go ?_; first | with_reducible refine N.obl (by decide) ?_ | with_reducible refine N.obl (flat_wi _ _ _) ?_ | with_reducible refine N.obl (flat_lim _ _) ?_ | with_reducible refine N.eq ?_ | with_reducible refine N.obl rfl ?_ | with_reducible refine N.obl ⟨by kernel_rfl, by kernel_rfl⟩ ?_ | with_reducible refine N.forkT ?_ | with_reducible refine N.forkF ?_)
  refine N.go ?_
  generalize IntKind.i64.wrap ((IntKind.u64.wrap a).tmod 1099511627776) = a1 at ha ⊢
  refine N.fork (fun hb => ?_) (fun hb => ?_)
  · repeat' (refine N.go ?_; first | with_reducible refine N.obl (by decide) ?_ | with_reducible refine N.obl (flat_wi _ _ _) ?_ | with_reducible refine N.obl (flat_lim _ _) ?_ | with_reducible refine N.eq ?_ | with_reducible refine N.obl rfl ?_ | with_reducible refine N.obl ⟨by kernel_rfl, by kernel_rfl⟩ ?_ | with_reducible refine N.forkT ?_ | with_reducible refine N.forkF ?_ | with_reducible refine N.call (cAwake15 _) ?_)
    all_goals rfl
  · rw [beq_eq_false_iff_ne] at hb
    repeat' (refine N.go ?_; first | with_reducible refine N.obl (by decide) ?_ | with_reducible refine N.obl (flat_wi _ _ _) ?_ | with_reducible refine N.obl (flat_lim _ _) ?_ | with_reducible refine N.eq ?_ | with_reducible refine N.obl rfl ?_ | with_reducible refine N.obl ⟨by kernel_rfl, by kernel_rfl⟩ ?_ | with_reducible refine N.forkT ?_ | with_reducible refine N.forkF ?_ | refine N.call (cNew 0 _ (by rfl)) ?_ | refine N.call (cNew 1 _ (by rfl)) ?_ | refine N.call (cNew 2 _ (by rfl)) ?_ | refine N.call (cNew 3 _ (by rfl)) ?_ | with_reducible refine N.call (cAwake15 _) ?_ | refine N.call (sPollY _ _ _ _ _ _ _ _ _ _ _ _ _ _ (by rfl) (by (try simp only [IntKind.wrap_i64]); omega)) ?_ | refine N.call (sGotPollY _ _ _ _ _ _ _ _ _ _ _ _ _ _ (by rfl) (by (try simp only [IntKind.wrap_i64]); omega)) ?_ | refine N.call (sGotRespY _ _ _ _ _ _ _ _ _ _ _ _ _ _ (by rfl) (by (try unfold ansP); (try unfold endP); (repeat rw [IntKind.wrap_i64]); omega)) ?_ | refine N.call (sGotRespN _ _ _ _ _ _ _ _ _ _ _ _ _ _ (by rfl) (by (try unfold ansP); (try unfold endP); (repeat rw [IntKind.wrap_i64]); omega)) ?_ | refine N.call (sFinalY _ _ _ _ _ _ _ _ _ _ _ _ _ (by rfl) (by (try unfold ansP); (try unfold endP); (repeat rw [IntKind.wrap_i64]); omega)) ?_ | refine N.call (sFinalN _ _ _ _ _ _ _ _ _ _ _ _ _ (by rfl) (by (try unfold ansP); (try unfold endP); (repeat rw [IntKind.wrap_i64]); omega)) ?_ | refine N.call (sRespY _ _ _ _ _ _ _ _ _ _ _ _ _ _ (by rfl) (by (try unfold ansP); (try unfold endP); (repeat rw [IntKind.wrap_i64]); omega)) ?_ | refine N.call (sRespN _ _ _ _ _ _ _ _ _ _ _ _ _ _ (by rfl) (by (try unfold ansP); (try unfold endP); (repeat rw [IntKind.wrap_i64]); omega)) ?_ | refine N.call (sGotFinalY _ _ _ _ _ _ _ _ _ _ _ _ _ _ _ _ (by rfl) (by (try unfold ansP); (try unfold endP); (repeat rw [IntKind.wrap_i64]); omega)) ?_ | refine N.call (sGotFinalN _ _ _ _ _ _ _ _ _ _ _ _ _ _ _ _ (by rfl) (by (try unfold ansP); (try unfold endP); (repeat rw [IntKind.wrap_i64]); omega)) ?_ | with_reducible refine N.bin _ (eq_timing _ _ _ _ _ _ _ _ _ _) ?_ | refine N.forkNo (by decide) ?_ | refine N.forkYes (by decide) ?_ | refine N.forkYes (by simp only [bne_iff_ne, beq_iff_eq, bne_eq_false_iff_eq, beq_eq_false_iff_ne, decide_eq_true_eq, decide_eq_false_iff_not, Bool.and_eq_true, ne_eq, true_and, and_true, eq_self, IntKind.wrap_i64]; omega) ?_ | refine N.forkNo (by simp only [bne_iff_ne, beq_iff_eq, bne_eq_false_iff_eq, beq_eq_false_iff_ne, decide_eq_true_eq, decide_eq_false_iff_not, Bool.and_eq_true, ne_eq, true_and, and_true, eq_self, IntKind.wrap_i64]; omega) ?_ | fail_if_success skip)
    all_goals rfl
set_option maxRecDepth 100000 in
theorem lifted (os : Os) (started : os.Started) (H : Type) (enc : TypeId × Value → H) :
    ReturnsInHanded {} Try.checked os 11 .any (Rows.twrMarksSpec.pre6 enc Try.prog Try.f11 Rows.twrMarksRow.domain false) (Rows.twrMarksSpec.post enc Try.prog Try.f11 false true false false) := by
  refine law_lifted (C := Try.checked) (tb := 4) Try.own started (by kernel_rfl) Try.func11 Try.laidOut (by kernel_rfl) rfl Try.underlying4 rfl
    (fun ds hds => by match ds, hds with | [_, _, _], _ => rfl)
    (ChangeSpec.witness6 (enc := enc) (C := Try.checked) false ⟨#[], #[.int .i64 0, .int .i64 0, .int .i64 0], []⟩ 8 (by kernel_rfl) (by kernel_rfl) (by kernel_rfl) (by kernel_rfl)) ?_
  intro W base args ds p hval0 hA0 hsz0
  have hval : ∀ (j : Nat) t v, Try.f11.params[j]? = some t → args[j]? = some v → Value.okWide Try.prog W .any base t v := hval0
  have hA : DataW.TrodAll enc Try.prog W 0 (fun _ => true) true Try.f11.params.toList args.toList ds p := hA0
  have hsz : (DataW.weightsEach Try.prog Try.f11.params.toList ds).all (· ≤ reachBytes) = true := hsz0
  rw [Try.params11] at hA hval hsz
  obtain ⟨v0, vs0, d0, ds0, p0, q0, hargs, rfl, rfl, h0, r0⟩ := trodAll_cons hA
  obtain ⟨v1, vs1, d1, ds1, p1, q1, rfl, rfl, rfl, h1, r1⟩ := trodAll_cons r0
  obtain ⟨v2, vs2, d2, ds2, p2, q2, rfl, rfl, rfl, h2, r2⟩ := trodAll_cons r1
  obtain ⟨rfl, rfl, rfl⟩ := trodAll_nil r2
  obtain rfl : args = #[v0, v1, v2] := by cases args; simp_all
  obtain ⟨a0, rfl, rfl, rfl, w0⟩ := open_int Try.underlying2 (hval 0 _ v0 rfl rfl) h0
  obtain ⟨a1, rfl, rfl, rfl, w1⟩ := open_int Try.underlying2 (hval 1 _ v1 rfl rfl) h1
  obtain ⟨a2, rfl, rfl, rfl, w2⟩ := open_int Try.underlying2 (hval 2 _ v2 rfl rfl) h2
  exact walk a0 a1 a2 W

theorem proved : Rows.TwrMarksSaid :=
  OpenClaim.holds_of_wide 11 Try.f11 rfl rfl rfl rfl rfl rfl rfl ⟨rfl, rfl, rfl, rfl, rfl⟩ rfl rfl rfl rfl rfl (by kernel_rfl) Try.func11 (by kernel_rfl)
    (of_decide_eq_true (by kernel_rfl)) (by unfold Func.isWrapper; rw [if_neg (by decide +kernel)]; exact ⟨rfl, rfl⟩)
    (fun os started H enc _ => lifted os started H enc)
#print axioms proved
end Go.Proofs.Ytioohgocbpdkeaa.twrMarks
