/-
  The statement ClockSpans: for every input the law returns true.
-/
import Derived.Test.YtioohgocbpdkeaaClkAwake
set_option linter.unusedVariables false
set_option linter.unusedSimpArgs false
namespace Go.Proofs.Ytioohgocbpdkeaa.clockSpans
open Go Go.ChangeShapes Go.WideShapes Go.ChangeAt Go.RowKit Sx

theorem spans (dr m o g d : Int) (hm : 0 ≤ m ∧ m ≤ 1000) (hdr : -m ≤ dr ∧ dr ≤ m) (hg : 0 ≤ g ∧ g < 35184372088832) (hd : 0 ≤ d ∧ d < 35184372088832) :
    ((0 ≤ fineN dr o (g + d) - fineN dr o g ∧ fineN dr o (g + d) - fineN dr o g ≤ 70368744177664) ∧ (o ≤ fineN dr o g ∧ fineN dr o g ≤ o + 70368744177664 ∧ fineN dr o (g + d) ≤ o + 140737488355328)) ∧ spLo (fineN dr o (g + d) - fineN dr o g) m ≤ d ∧ d ≤ spHi (fineN dr o (g + d) - fineN dr o g) m := by
  unfold fineN spLo spHi
  have a1 := Int.ediv_mul_le (g * (1000000 + dr)) (by decide : (1000000 : Int) ≠ 0)
  have a2 := Int.lt_ediv_add_one_mul_self (g * (1000000 + dr)) (by decide : (0 : Int) < 1000000)
  have b1 := Int.ediv_mul_le ((g + d) * (1000000 + dr)) (by decide : (1000000 : Int) ≠ 0)
  have b2 := Int.lt_ediv_add_one_mul_self ((g + d) * (1000000 + dr)) (by decide : (0 : Int) < 1000000)
  have c0 : 0 ≤ d * (1000000 + dr) := Int.mul_nonneg (by omega) (by omega)
  have c1 : 0 ≤ g * (1000000 + dr) := Int.mul_nonneg (by omega) (by omega)
  have c2 : d * (1000000 + dr) ≤ 35184372088832 * 1001000 := Int.mul_le_mul (by omega) (by omega) (by omega) (by omega)
  have c3 : g * (1000000 + dr) ≤ 35184372088832 * 1001000 := Int.mul_le_mul (by omega) (by omega) (by omega) (by omega)
  have c4 : d * (1000000 + dr) ≤ d * (1000000 + m) := Int.mul_le_mul_of_nonneg_left (by omega) hd.1
  have c5 : d * (1000000 - m) ≤ d * (1000000 + dr) := Int.mul_le_mul_of_nonneg_left (by omega) hd.1
  have e : (g + d) * (1000000 + dr) = g * (1000000 + dr) + d * (1000000 + dr) := Int.add_mul _ _ _
  rw [e] at b1 b2 ⊢
  generalize g * (1000000 + dr) / 1000000 = A at *
  generalize (g * (1000000 + dr) + d * (1000000 + dr)) / 1000000 = B at *
  have hlo : (max 0 (B + o - (A + o) - 1)) * 1000000 ≤ d * (1000000 + m) := by omega
  have hhi : -((B + o - (A + o) + 1) * 1000000) ≤ -d * (1000000 - m) := by rw [Int.neg_mul]; omega
  refine ⟨⟨⟨by omega, by omega⟩, by omega, by omega, by omega⟩, (quot_le d (Int.mul_nonneg (by omega) (by omega)) (by omega) hlo).2, ?_⟩
  have := Int.ediv_le_of_le_mul (by omega : 0 < 1000000 - m) hhi
  omega
theorem cFine2 (a b c c' : Int) (h : List (Option Chunk)) (hc : c' = c) (ho : fineOK a b c) : CallOK Try.prog 16 [.int .i64 a, .int .i64 b, .int .i64 c'] h (.tuple #[.int .i64 (fineN a b c), .int .i64 0]) [] [] := by
  subst hc; exact cFine1 a b c' h ho
theorem cSpan2 (a a' b : Int) (h : List (Option Chunk)) (hc : a' = a) (ho : spanOK a b) : CallOK Try.prog 15 [.int .i64 a', .int .i64 b] h (.tuple #[.int .i64 (spLo a b), .int .i64 (spHi a b), .int .i64 0]) [] [] := by
  subst hc; exact cSpan1 a' b h ho
theorem u64modv (x k : Int) (h0 : 0 ≤ k) (h1 : k ≤ 1000) : -k ≤ IntKind.i64.wrap (IntKind.i64.wrap ((IntKind.u64.wrap x).tmod (IntKind.u64.wrap (IntKind.i64.wrap (IntKind.i64.wrap (2 * k) + 1)))) - k) ∧ IntKind.i64.wrap (IntKind.i64.wrap ((IntKind.u64.wrap x).tmod (IntKind.u64.wrap (IntKind.i64.wrap (IntKind.i64.wrap (2 * k) + 1)))) - k) ≤ k := by
  rw [wsmall (2 * k) (by omega) (by omega), wsmall (2 * k + 1) (by omega) (by omega), show IntKind.u64.wrap (2 * k + 1) = 2 * k + 1 from by rw [IntKind.wrap_u64]; omega]
  have := u64mod x (2 * k + 1) (by omega) (by omega)
  generalize IntKind.i64.wrap ((IntKind.u64.wrap x).tmod (2 * k + 1)) = q at *
  rw [wsmall _ (by omega) (by omega)]; omega
set_option maxRecDepth 100000 in
set_option maxHeartbeats 1000000 in
theorem walk (dr m o g d : Int) (w : World) :
    Calls Try.prog 6 #[.int .i64 dr, .int .i64 m, .int .i64 o, .int .i64 g, .int .i64 d] w fun o w' => o = .returned (.bool true) ∧ Below w.heap.size w w' := by
  have hm := u64mod m 1001 (by decide) (by decide)
  have ho := u64mod o 1099511627776 (by decide) (by decide)
  have hg := u64mod g 35184372088832 (by decide) (by decide)
  have hd := u64mod d 35184372088832 (by decide) (by decide)
  refine calls_pure (G := tys) w tysOK mixed Try.func6 (by rfl) (by rfl) (by rfl) ?_
  repeat' (refine N.go ?_; first | with_reducible refine N.obl (by decide) ?_ | with_reducible refine N.obl (flat_wi _ _ _) ?_ | with_reducible refine N.obl (flat_lim _ _) ?_ | with_reducible refine N.eq ?_ | with_reducible refine N.obl rfl ?_ | with_reducible refine N.obl ⟨by kernel_rfl, by kernel_rfl⟩ ?_ | with_reducible refine N.forkT ?_ | with_reducible refine N.forkF ?_)
  refine N.go ?_
  generalize IntKind.i64.wrap ((IntKind.u64.wrap m).tmod 1001) = m1 at hm ⊢
  have hdr := u64modv dr m1 (by omega) (by omega)
  repeat' (refine N.go ?_; first | with_reducible refine N.obl (by decide) ?_ | with_reducible refine N.obl (flat_wi _ _ _) ?_ | with_reducible refine N.obl (flat_lim _ _) ?_ | with_reducible refine N.eq ?_ | with_reducible refine N.obl rfl ?_ | with_reducible refine N.obl ⟨by kernel_rfl, by kernel_rfl⟩ ?_ | with_reducible refine N.forkT ?_ | with_reducible refine N.forkF ?_ | refine N.obl (by simp only [IntKind.wrap_i64, IntKind.wrap_u64]; omega) ?_)
  refine N.go ?_
  generalize IntKind.i64.wrap (IntKind.i64.wrap ((IntKind.u64.wrap dr).tmod (IntKind.u64.wrap (IntKind.i64.wrap (IntKind.i64.wrap (2 * m1) + 1)))) - m1) = dr1 at hdr ⊢
  generalize IntKind.i64.wrap ((IntKind.u64.wrap o).tmod 1099511627776) = o1 at ho ⊢
  generalize IntKind.i64.wrap ((IntKind.u64.wrap g).tmod 35184372088832) = g1 at hg ⊢
  generalize IntKind.i64.wrap ((IntKind.u64.wrap d).tmod 35184372088832) = d1 at hd ⊢
  have R := spans dr1 m1 o1 g1 d1 (by omega) hdr hg hd
  repeat' (refine N.go ?_; first | with_reducible refine N.obl (by decide) ?_ | with_reducible refine N.obl (flat_wi _ _ _) ?_ | with_reducible refine N.obl (flat_lim _ _) ?_ | with_reducible refine N.eq ?_ | with_reducible refine N.obl rfl ?_ | with_reducible refine N.obl ⟨by kernel_rfl, by kernel_rfl⟩ ?_ | with_reducible refine N.forkT ?_ | with_reducible refine N.forkF ?_ | with_reducible refine N.call (cFine2 _ _ g1 _ _ rfl (ok3 (by omega) (by omega) (by omega) (by omega) (by omega) (by omega))) ?_ | with_reducible refine N.call (cFine2 _ _ (g1 + d1) _ _ (wsmall _ (by omega) (by omega)) (ok3 (by omega) (by omega) (by omega) (by omega) (by omega) (by omega))) ?_ | with_reducible refine N.call (cSpan2 (fineN dr1 o1 (g1 + d1) - fineN dr1 o1 g1) _ _ _ (wsmall _ (by omega) (by omega)) (ok2 (by omega) (by omega) (by omega) (by omega))) ?_ | with_reducible refine N.call (cAwake14 _) ?_ | refine N.forkNo (by decide) ?_ | refine N.forkYes (by decide) ?_ | refine N.forkNo (by rw [decide_eq_false_iff_not]; (try simp only [IntKind.wrap_i64]); omega) ?_ | refine N.forkYes (by rw [decide_eq_true_eq]; (try simp only [IntKind.wrap_i64]); omega) ?_)
  all_goals rfl
set_option maxRecDepth 100000 in
theorem lifted (os : Os) (started : os.Started) (H : Type) (enc : TypeId × Value → H) :
    ReturnsInHanded {} Try.checked os 6 .any (Rows.clockSpansSpec.pre6 enc Try.prog Try.f6 Rows.clockSpansRow.domain false) (Rows.clockSpansSpec.post enc Try.prog Try.f6 false true false false) := by
  refine law_lifted (C := Try.checked) (tb := 4) Try.own started (by kernel_rfl) Try.func6 Try.laidOut (by kernel_rfl) rfl Try.underlying4 rfl
    (fun ds hds => by match ds, hds with | [_, _, _, _, _], _ => rfl)
    (ChangeSpec.witness6 (enc := enc) (C := Try.checked) false ⟨#[], #[.int .i64 0, .int .i64 0, .int .i64 0, .int .i64 0, .int .i64 0], []⟩ 8 (by kernel_rfl) (by kernel_rfl) (by kernel_rfl) (by kernel_rfl)) ?_
  intro W base args ds p hval0 hA0 hsz0
  have hval : ∀ (j : Nat) t v, Try.f6.params[j]? = some t → args[j]? = some v → Value.okWide Try.prog W .any base t v := hval0
  have hA : DataW.TrodAll enc Try.prog W 0 (fun _ => true) true Try.f6.params.toList args.toList ds p := hA0
  have hsz : (DataW.weightsEach Try.prog Try.f6.params.toList ds).all (· ≤ reachBytes) = true := hsz0
  rw [Try.params6] at hA hval hsz
  obtain ⟨v0, vs0, d0, ds0, p0, q0, hargs, rfl, rfl, h0, r0⟩ := trodAll_cons hA
  obtain ⟨v1, vs1, d1, ds1, p1, q1, rfl, rfl, rfl, h1, r1⟩ := trodAll_cons r0
  obtain ⟨v2, vs2, d2, ds2, p2, q2, rfl, rfl, rfl, h2, r2⟩ := trodAll_cons r1
  obtain ⟨v3, vs3, d3, ds3, p3, q3, rfl, rfl, rfl, h3, r3⟩ := trodAll_cons r2
  obtain ⟨v4, vs4, d4, ds4, p4, q4, rfl, rfl, rfl, h4, r4⟩ := trodAll_cons r3
  obtain ⟨rfl, rfl, rfl⟩ := trodAll_nil r4
  obtain rfl : args = #[v0, v1, v2, v3, v4] := by cases args; simp_all
  obtain ⟨a0, rfl, rfl, rfl, w0⟩ := open_int Try.underlying2 (hval 0 _ v0 rfl rfl) h0
  obtain ⟨a1, rfl, rfl, rfl, w1⟩ := open_int Try.underlying2 (hval 1 _ v1 rfl rfl) h1
  obtain ⟨a2, rfl, rfl, rfl, w2⟩ := open_int Try.underlying2 (hval 2 _ v2 rfl rfl) h2
  obtain ⟨a3, rfl, rfl, rfl, w3⟩ := open_int Try.underlying2 (hval 3 _ v3 rfl rfl) h3
  obtain ⟨a4, rfl, rfl, rfl, w4⟩ := open_int Try.underlying2 (hval 4 _ v4 rfl rfl) h4
  exact walk a0 a1 a2 a3 a4 W

theorem proved : Rows.ClockSpansSaid :=
  OpenClaim.holds_of_wide 6 Try.f6 rfl rfl rfl rfl rfl rfl rfl ⟨rfl, rfl, rfl, rfl, rfl⟩ rfl rfl rfl rfl rfl (by kernel_rfl) Try.func6 (by kernel_rfl)
    (of_decide_eq_true (by kernel_rfl)) (by unfold Func.isWrapper; rw [if_neg (by decide +kernel)]; exact ⟨rfl, rfl⟩)
    (fun os started H enc _ => lifted os started H enc)
#print axioms proved
end Go.Proofs.Ytioohgocbpdkeaa.clockSpans
