/-
  The statement ClockRises: for every input the law returns true.
-/
import Derived.Test.YtioohgocbpdkeaaClkAwake
set_option linter.unusedVariables false
set_option linter.unusedSimpArgs false
namespace Go.Proofs.Ytioohgocbpdkeaa.clockRises
open Go Go.ChangeShapes Go.WideShapes Go.ChangeAt Go.RowKit Sx

theorem rises (s o p q : Int) (hs : -1000 < s ∧ s < 1000) (ho : -1000 < o ∧ o < 1000) (hp : 0 ≤ p) (hpq : p ≤ q) (hq : q < 1000000) :
    locN s p ≤ locN s q ∧ locN s q - locN s p ≤ q - p ∧ locN s q - locN o q ≤ max s (-s) + max o (-o) ∧ locN o q - locN s q ≤ max s (-s) + max o (-o) ∧ 0 ≤ locN s p ∧ locN s q ≤ 1000000 ∧ 0 ≤ locN o q ∧ locN o q ≤ 1000000 ∧ 0 ≤ locN s q := by
  unfold locN; omega
set_option maxRecDepth 100000 in
set_option maxHeartbeats 1000000 in
theorem walk (x y s t : Int) (w : World) :
    Calls Try.prog 3 #[.int .i64 x, .int .i64 y, .int .i64 s, .int .i64 t] w fun e w' => e = .returned (.bool true) ∧ Below w.heap.size w w' := by
  have hx := tmodR x 1000 (by decide)
  have hy := tmodR y 1000 (by decide)
  have hs := u64mod s 1000000 (by decide) (by decide)
  have ht := u64mod t 1000000 (by decide) (by decide)
  refine calls_pure (G := tys) w tysOK mixed Try.func3 (by rfl) (by rfl) (by rfl) ?_
  repeat' (refine N.go ?_; first | with_reducible refine N.obl (by decide) ?_ | with_reducible refine N.obl (flat_wi _ _ _) ?_ | with_reducible refine N.obl (flat_lim _ _) ?_ | with_reducible refine N.eq ?_ | with_reducible refine N.obl rfl ?_ | with_reducible refine N.obl ⟨by kernel_rfl, by kernel_rfl⟩ ?_ | with_reducible refine N.forkT ?_ | with_reducible refine N.forkF ?_)
  refine N.go ?_
  generalize IntKind.i64.wrap ((IntKind.u64.wrap s).tmod 1000000) = p at hs ⊢
  generalize IntKind.i64.wrap ((IntKind.u64.wrap t).tmod 1000000) = q at ht ⊢
  generalize x.tmod 1000 = a at hx ⊢
  generalize y.tmod 1000 = b at hy ⊢
  refine N.fork (fun hb => ?_) (fun hb => ?_)
  · have R := rises a b q p hx hy (by omega) (by simp at hb; omega) (by omega)
    repeat' (refine N.go ?_; first | with_reducible refine N.obl (by decide) ?_ | with_reducible refine N.obl (flat_wi _ _ _) ?_ | with_reducible refine N.obl (flat_lim _ _) ?_ | with_reducible refine N.eq ?_ | with_reducible refine N.obl rfl ?_ | with_reducible refine N.obl ⟨by kernel_rfl, by kernel_rfl⟩ ?_ | with_reducible refine N.forkT ?_ | with_reducible refine N.forkF ?_ | with_reducible refine N.call (cLocal _ _ _) ?_ | with_reducible refine N.call (cAwake14 _) ?_ | with_reducible refine N.min2 ?_ | with_reducible refine N.max2 ?_ | refine N.forkNo (by decide) ?_ | refine N.forkYes (by decide) ?_ | refine N.forkYes (by rw [decide_eq_true_eq]; (try simp only [IntKind.wrap_i64]); omega) ?_)
    all_goals rfl
  · have R := rises a b p q hx hy (by omega) (by simp at hb; omega) (by omega)
    repeat' (refine N.go ?_; first | with_reducible refine N.obl (by decide) ?_ | with_reducible refine N.obl (flat_wi _ _ _) ?_ | with_reducible refine N.obl (flat_lim _ _) ?_ | with_reducible refine N.eq ?_ | with_reducible refine N.obl rfl ?_ | with_reducible refine N.obl ⟨by kernel_rfl, by kernel_rfl⟩ ?_ | with_reducible refine N.forkT ?_ | with_reducible refine N.forkF ?_ | with_reducible refine N.call (cLocal _ _ _) ?_ | with_reducible refine N.call (cAwake14 _) ?_ | with_reducible refine N.min2 ?_ | with_reducible refine N.max2 ?_ | refine N.forkNo (by decide) ?_ | refine N.forkYes (by decide) ?_ | refine N.forkYes (by rw [decide_eq_true_eq]; (try simp only [IntKind.wrap_i64]); omega) ?_)
    all_goals rfl
set_option maxRecDepth 100000 in
theorem lifted (os : Os) (started : os.Started) (H : Type) (enc : TypeId × Value → H) :
    ReturnsInHanded {} Try.checked os 3 .any (Rows.clockRisesSpec.pre6 enc Try.prog Try.f3 Rows.clockRisesRow.domain false) (Rows.clockRisesSpec.post enc Try.prog Try.f3 false true false false) := by
  refine law_lifted (C := Try.checked) (tb := 4) Try.own started (by kernel_rfl) Try.func3 Try.laidOut (by kernel_rfl) rfl Try.underlying4 rfl
    (fun ds hds => by match ds, hds with | [_, _, _, _], _ => rfl)
    (ChangeSpec.witness6 (enc := enc) (C := Try.checked) false ⟨#[], #[.int .i64 0, .int .i64 0, .int .i64 0, .int .i64 0], []⟩ 8 (by kernel_rfl) (by kernel_rfl) (by kernel_rfl) (by kernel_rfl)) ?_
  intro W base args ds p hval0 hA0 hsz0
  have hval : ∀ (j : Nat) t v, Try.f3.params[j]? = some t → args[j]? = some v → Value.okWide Try.prog W .any base t v := hval0
  have hA : DataW.TrodAll enc Try.prog W 0 (fun _ => true) true Try.f3.params.toList args.toList ds p := hA0
  have hsz : (DataW.weightsEach Try.prog Try.f3.params.toList ds).all (· ≤ reachBytes) = true := hsz0
  rw [Try.params3] at hA hval hsz
  obtain ⟨v0, vs0, d0, ds0, p0, q0, hargs, rfl, rfl, h0, r0⟩ := trodAll_cons hA
  obtain ⟨v1, vs1, d1, ds1, p1, q1, rfl, rfl, rfl, h1, r1⟩ := trodAll_cons r0
  obtain ⟨v2, vs2, d2, ds2, p2, q2, rfl, rfl, rfl, h2, r2⟩ := trodAll_cons r1
  obtain ⟨v3, vs3, d3, ds3, p3, q3, rfl, rfl, rfl, h3, r3⟩ := trodAll_cons r2
  obtain ⟨rfl, rfl, rfl⟩ := trodAll_nil r3
  obtain rfl : args = #[v0, v1, v2, v3] := by cases args; simp_all
  obtain ⟨a0, rfl, rfl, rfl, w0⟩ := open_int Try.underlying2 (hval 0 _ v0 rfl rfl) h0
  obtain ⟨a1, rfl, rfl, rfl, w1⟩ := open_int Try.underlying2 (hval 1 _ v1 rfl rfl) h1
  obtain ⟨a2, rfl, rfl, rfl, w2⟩ := open_int Try.underlying2 (hval 2 _ v2 rfl rfl) h2
  obtain ⟨a3, rfl, rfl, rfl, w3⟩ := open_int Try.underlying2 (hval 3 _ v3 rfl rfl) h3
  exact walk a0 a1 a2 a3 W

theorem proved : Rows.ClockRisesSaid :=
  OpenClaim.holds_of_wide 3 Try.f3 rfl rfl rfl rfl rfl rfl rfl ⟨rfl, rfl, rfl, rfl, rfl⟩ rfl rfl rfl rfl rfl (by kernel_rfl) Try.func3 (by kernel_rfl)
    (of_decide_eq_true (by kernel_rfl)) (by unfold Func.isWrapper; rw [if_neg (by decide +kernel)]; exact ⟨rfl, rfl⟩)
    (fun os started H enc _ => lifted os started H enc)
#print axioms proved
end Go.Proofs.Ytioohgocbpdkeaa.clockRises
