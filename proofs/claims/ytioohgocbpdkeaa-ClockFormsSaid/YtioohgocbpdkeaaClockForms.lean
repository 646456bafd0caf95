/-
  The statement ClockForms: for every input the law returns true.
-/
import Derived.Test.YtioohgocbpdkeaaRf
set_option linter.unusedVariables false
set_option linter.unusedSimpArgs false
namespace Go.Proofs.Ytioohgocbpdkeaa.clockForms
open Go Go.ChangeShapes Go.WideShapes Go.ChangeAt Go.RowKit Sx

theorem cFineT (a b c : Int) (h : List (Option Chunk)) : CallOK Try.prog 16 [.int .i64 a, .int .i64 b, .int .i64 c] h (.tuple #[.int .i64 (if fineOK a b c then fineN a b c else 0), .int .i64 (if fineOK a b c then 0 else 1)]) [] [] := cFine a b c h
theorem cFine9T (a b c : Int) (h : List (Option Chunk)) : CallOK Try.prog 17 [.int .i64 a, .int .i64 b, .int .i64 c] h (.tuple #[.int .i64 (if fineOK a b c then fineN a b c else 0), .int .i64 (if fineOK a b c then 0 else 1)]) [] [] := cFine9 a b c h
theorem cSpanT (a b : Int) (h : List (Option Chunk)) : CallOK Try.prog 15 [.int .i64 a, .int .i64 b] h (.tuple #[.int .i64 (if spanOK a b then spLo a b else 0), .int .i64 (if spanOK a b then spHi a b else 0), .int .i64 (if spanOK a b then 0 else 1)]) [] [] := cSpan a b h
theorem cSpan9T (a b : Int) (h : List (Option Chunk)) : CallOK Try.prog 18 [.int .i64 a, .int .i64 b] h (.tuple #[.int .i64 (if spanOK a b then spLo a b else 0), .int .i64 (if spanOK a b then spHi a b else 0), .int .i64 (if spanOK a b then 0 else 1)]) [] [] := cSpan9 a b h
set_option maxRecDepth 100000 in
set_option maxHeartbeats 2000000 in
theorem walk (a0 a1 a2 a3 a4 a5 : Int) (w : World) : Calls Try.prog 5 #[.int .i64 a0, .int .i64 a1, .int .i64 a2, .int .i64 a3, .int .i64 a4, .int .i64 a5] w fun e w' => e = .returned (.bool true) ∧ Below w.heap.size w w' := by
  refine calls_pure (G := tys) w tysOK mixed Try.func5 (by rfl) (by rfl) (by rfl) ?_
  repeat' (refine N.go ?_; first | with_reducible refine N.obl (by decide) ?_ | with_reducible refine N.obl (flat_wi _ _ _) ?_ | with_reducible refine N.obl (flat_lim _ _) ?_ | with_reducible refine N.eq ?_ | with_reducible refine N.obl rfl ?_ | with_reducible refine N.obl ⟨by kernel_rfl, by kernel_rfl⟩ ?_ | with_reducible refine N.forkT ?_ | with_reducible refine N.forkF ?_ | with_reducible refine N.call (cFineT _ _ _ _) ?_ | with_reducible refine N.call (cFine9T _ _ _ _) ?_ | with_reducible refine N.call (cSpanT _ _ _) ?_ | with_reducible refine N.call (cSpan9T _ _ _) ?_ | with_reducible refine N.call (cLocal _ _ _) ?_ | with_reducible refine N.call (cLocal9 _ _ _) ?_ | with_reducible refine N.call (cAwake14 _) ?_ | refine N.forkYes (beq_self_eq_true _) ?_ | fail_if_success skip)
  all_goals rfl
set_option maxRecDepth 100000 in
theorem lifted (os : Os) (started : os.Started) (H : Type) (enc : TypeId × Value → H) :
    ReturnsInHanded {} Try.checked os 5 .any (Rows.clockFormsSpec.pre6 enc Try.prog Try.f5 Rows.clockFormsRow.domain false) (Rows.clockFormsSpec.post enc Try.prog Try.f5 false true false false) := by
  refine law_lifted (C := Try.checked) (tb := 4) Try.own started (by kernel_rfl) Try.func5 Try.laidOut (by kernel_rfl) rfl Try.underlying4 rfl
    (fun ds hds => by match ds, hds with | [_, _, _, _, _, _], _ => rfl)
    (ChangeSpec.witness6 (enc := enc) (C := Try.checked) false ⟨#[], #[.int .i64 0, .int .i64 0, .int .i64 0, .int .i64 0, .int .i64 0, .int .i64 0], []⟩ 8 (by kernel_rfl) (by kernel_rfl) (by kernel_rfl) (by kernel_rfl)) ?_
  intro W base args ds p hval0 hA0 hsz0
  have hval : ∀ (j : Nat) t v, Try.f5.params[j]? = some t → args[j]? = some v → Value.okWide Try.prog W .any base t v := hval0
  have hA : DataW.TrodAll enc Try.prog W 0 (fun _ => true) true Try.f5.params.toList args.toList ds p := hA0
  have hsz : (DataW.weightsEach Try.prog Try.f5.params.toList ds).all (· ≤ reachBytes) = true := hsz0
  rw [Try.params5] at hA hval hsz
  obtain ⟨v0, vs0, d0, ds0, p0, q0, hargs, rfl, rfl, h0, r0⟩ := trodAll_cons hA
  obtain ⟨v1, vs1, d1, ds1, p1, q1, rfl, rfl, rfl, h1, r1⟩ := trodAll_cons r0
  obtain ⟨v2, vs2, d2, ds2, p2, q2, rfl, rfl, rfl, h2, r2⟩ := trodAll_cons r1
  obtain ⟨v3, vs3, d3, ds3, p3, q3, rfl, rfl, rfl, h3, r3⟩ := trodAll_cons r2
  obtain ⟨v4, vs4, d4, ds4, p4, q4, rfl, rfl, rfl, h4, r4⟩ := trodAll_cons r3
  obtain ⟨v5, vs5, d5, ds5, p5, q5, rfl, rfl, rfl, h5, r5⟩ := trodAll_cons r4
  obtain ⟨rfl, rfl, rfl⟩ := trodAll_nil r5
  obtain rfl : args = #[v0, v1, v2, v3, v4, v5] := by cases args; simp_all
  obtain ⟨a0, rfl, rfl, rfl, w0⟩ := open_int Try.underlying2 (hval 0 _ v0 rfl rfl) h0
  obtain ⟨a1, rfl, rfl, rfl, w1⟩ := open_int Try.underlying2 (hval 1 _ v1 rfl rfl) h1
  obtain ⟨a2, rfl, rfl, rfl, w2⟩ := open_int Try.underlying2 (hval 2 _ v2 rfl rfl) h2
  obtain ⟨a3, rfl, rfl, rfl, w3⟩ := open_int Try.underlying2 (hval 3 _ v3 rfl rfl) h3
  obtain ⟨a4, rfl, rfl, rfl, w4⟩ := open_int Try.underlying2 (hval 4 _ v4 rfl rfl) h4
  obtain ⟨a5, rfl, rfl, rfl, w5⟩ := open_int Try.underlying2 (hval 5 _ v5 rfl rfl) h5
  exact walk a0 a1 a2 a3 a4 a5 W

theorem proved : Rows.ClockFormsSaid :=
  OpenClaim.holds_of_wide 5 Try.f5 rfl rfl rfl rfl rfl rfl rfl ⟨rfl, rfl, rfl, rfl, rfl⟩ rfl rfl rfl rfl rfl (by kernel_rfl) Try.func5 (by kernel_rfl)
    (of_decide_eq_true (by kernel_rfl)) (by unfold Func.isWrapper; rw [if_neg (by decide +kernel)]; exact ⟨rfl, rfl⟩)
    (fun os started H enc _ => lifted os started H enc)
#print axioms proved
end Go.Proofs.Ytioohgocbpdkeaa.clockForms
