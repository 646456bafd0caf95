/-
  The statement ClockWider: for every input the law returns true.
-/
import Derived.Test.YtioohgocbpdkeaaClkAwake
set_option linter.unusedVariables false
set_option linter.unusedSimpArgs false
namespace Go.Proofs.Ytioohgocbpdkeaa.clockWider
open Go Go.ChangeShapes Go.WideShapes Go.ChangeAt Go.RowKit Sx

theorem lo_x (d x y : Int) (hx : 0 ≤ x) (hxy : x ≤ y) : spLo d y ≤ spLo d x := by
  unfold spLo
  refine Int.le_ediv_of_mul_le (by omega) ?_
  have h0 : 0 ≤ max 0 (d - 1) * 1000000 / (1000000 + y) := Int.ediv_nonneg (Int.mul_nonneg (by omega) (by omega)) (by omega)
  have h1 := Int.mul_le_mul_of_nonneg_left (by omega : 1000000 + x ≤ 1000000 + y) h0
  exact Int.le_trans h1 (Int.ediv_mul_le _ (by omega))
theorem hi_x (d x y : Int) (hd : 0 ≤ d) (hxy : x ≤ y) (hy : y ≤ 1000) : spHi d x ≤ spHi d y := by
  unfold spHi
  refine Int.neg_le_neg ?_
  refine Int.le_ediv_of_mul_le (by omega) ?_
  have h0 : -((d + 1) * 1000000) / (1000000 - y) ≤ 0 := by
    have := Int.ediv_le_ediv (by omega : 0 < 1000000 - y) (by omega : -((d + 1) * 1000000) ≤ 0)
    rwa [Int.zero_ediv] at this
  have h2 := Int.ediv_mul_le (-((d + 1) * 1000000)) (by omega : 1000000 - y ≠ 0)
  generalize -((d + 1) * 1000000) / (1000000 - y) = q at *
  have h1 : q * (1000000 - x) ≤ q * (1000000 - y) := by
    have := Int.mul_le_mul_of_nonneg_left (by omega : 1000000 - y ≤ 1000000 - x) (by omega : 0 ≤ -q)
    rw [Int.neg_mul, Int.neg_mul] at this
    omega
  exact Int.le_trans h1 h2
theorem lo_d (d e x : Int) (hx : 0 ≤ x) (h : d ≤ e) : spLo d x ≤ spLo e x := by
  unfold spLo
  exact Int.ediv_le_ediv (by omega) (by omega)
theorem hi_d (d e x : Int) (hx : x ≤ 1000) (h : d ≤ e) : spHi d x ≤ spHi e x := by
  unfold spHi
  exact Int.neg_le_neg (Int.ediv_le_ediv (by omega) (by omega))
theorem lo_le (d x : Int) (hd : 0 ≤ d) (hx : 0 ≤ x) : spLo d x ≤ d := by
  unfold spLo
  refine (quot_le d (Int.mul_nonneg (by omega) (by omega)) (by omega) ?_).2
  have := Int.mul_nonneg hd hx
  rw [Int.mul_add]; omega
theorem le_hi (d x : Int) (hd : 0 ≤ d) (hx : 0 ≤ x) (hx1 : x ≤ 1000) : d ≤ spHi d x := by
  unfold spHi
  have : -((d + 1) * 1000000) / (1000000 - x) ≤ -d := by
    refine Int.ediv_le_of_le_mul (by omega) ?_
    have := Int.mul_nonneg hd hx
    rw [Int.neg_mul, Int.mul_sub]; omega
  omega
theorem wider (d e x y : Int) (hd : 0 ≤ d) (hde : d ≤ e) (he : e < 1099511627776) (hx : 0 ≤ x) (hxy : x ≤ y) (hy : y < 1001) :
    spLo d y ≤ spLo d x ∧ spHi d x ≤ spHi d y ∧ spLo d x ≤ spLo e x ∧ spHi d x ≤ spHi e x ∧ spLo d x ≤ d ∧ d ≤ spHi d x :=
  ⟨lo_x d x y hx hxy, hi_x d x y hd hxy (by omega), lo_d d e x hx hde, hi_d d e x (by omega) hde, lo_le d x hd hx, le_hi d x hd hx (by omega)⟩
set_option maxRecDepth 100000 in
set_option maxHeartbeats 1000000 in
theorem walk (d e x y : Int) (w : World) :
    Calls Try.prog 4 #[.int .i64 d, .int .i64 e, .int .i64 x, .int .i64 y] w fun o w' => o = .returned (.bool true) ∧ Below w.heap.size w w' := by
  have hd := u64mod d 1099511627776 (by decide) (by decide)
  have he := u64mod e 1099511627776 (by decide) (by decide)
  have hx := u64mod x 1001 (by decide) (by decide)
  have hy := u64mod y 1001 (by decide) (by decide)
  refine calls_pure (G := tys) w tysOK mixed Try.func4 (by rfl) (by rfl) (by rfl) ?_
  repeat' (refine N.go ?_; first | with_reducible refine N.obl (by decide) ?_ | with_reducible refine N.obl (flat_wi _ _ _) ?_ | with_reducible refine N.obl (flat_lim _ _) ?_ | with_reducible refine N.eq ?_ | with_reducible refine N.obl rfl ?_ | with_reducible refine N.obl ⟨by kernel_rfl, by kernel_rfl⟩ ?_ | with_reducible refine N.forkT ?_ | with_reducible refine N.forkF ?_)
  refine N.go ?_
  generalize IntKind.i64.wrap ((IntKind.u64.wrap d).tmod 1099511627776) = d1 at hd ⊢
  generalize IntKind.i64.wrap ((IntKind.u64.wrap e).tmod 1099511627776) = e1 at he ⊢
  generalize IntKind.i64.wrap ((IntKind.u64.wrap x).tmod 1001) = x1 at hx ⊢
  generalize IntKind.i64.wrap ((IntKind.u64.wrap y).tmod 1001) = y1 at hy ⊢
  refine N.fork (fun hb => ?_) (fun hb => ?_)
  · simp only [decide_eq_true_eq, decide_eq_false_iff_not] at hb
    have hb1 := hb
    repeat' (refine N.go ?_; first | with_reducible refine N.obl (by decide) ?_ | with_reducible refine N.obl (flat_wi _ _ _) ?_ | with_reducible refine N.obl (flat_lim _ _) ?_ | with_reducible refine N.eq ?_ | with_reducible refine N.obl rfl ?_ | with_reducible refine N.obl ⟨by kernel_rfl, by kernel_rfl⟩ ?_ | with_reducible refine N.forkT ?_ | with_reducible refine N.forkF ?_)
    refine N.go ?_
    refine N.fork (fun hc => ?_) (fun hc => ?_)
    · simp only [decide_eq_true_eq, decide_eq_false_iff_not] at hc
      have R := wider e1 d1 y1 x1 (by omega) (by omega) (by omega) (by omega) (by omega) (by omega)
      repeat' (refine N.go ?_; first | with_reducible refine N.obl (by decide) ?_ | with_reducible refine N.obl (flat_wi _ _ _) ?_ | with_reducible refine N.obl (flat_lim _ _) ?_ | with_reducible refine N.eq ?_ | with_reducible refine N.obl rfl ?_ | with_reducible refine N.obl ⟨by kernel_rfl, by kernel_rfl⟩ ?_ | with_reducible refine N.forkT ?_ | with_reducible refine N.forkF ?_ | with_reducible refine N.call (cSpan1 _ _ _ (ok2 (by omega) (by omega) (by omega) (by omega))) ?_ | with_reducible refine N.call (cAwake14 _) ?_ | refine N.forkNo (by decide) ?_ | refine N.forkYes (by decide) ?_ | refine N.forkYes (by rw [decide_eq_true_eq]; (try simp only [IntKind.wrap_i64]); omega) ?_)
      all_goals rfl
    · simp only [decide_eq_true_eq, decide_eq_false_iff_not] at hc
      have R := wider e1 d1 x1 y1 (by omega) (by omega) (by omega) (by omega) (by omega) (by omega)
      repeat' (refine N.go ?_; first | with_reducible refine N.obl (by decide) ?_ | with_reducible refine N.obl (flat_wi _ _ _) ?_ | with_reducible refine N.obl (flat_lim _ _) ?_ | with_reducible refine N.eq ?_ | with_reducible refine N.obl rfl ?_ | with_reducible refine N.obl ⟨by kernel_rfl, by kernel_rfl⟩ ?_ | with_reducible refine N.forkT ?_ | with_reducible refine N.forkF ?_ | with_reducible refine N.call (cSpan1 _ _ _ (ok2 (by omega) (by omega) (by omega) (by omega))) ?_ | with_reducible refine N.call (cAwake14 _) ?_ | refine N.forkNo (by decide) ?_ | refine N.forkYes (by decide) ?_ | refine N.forkYes (by rw [decide_eq_true_eq]; (try simp only [IntKind.wrap_i64]); omega) ?_)
      all_goals rfl
  · simp only [decide_eq_true_eq, decide_eq_false_iff_not] at hb
    have hb1 := hb
    repeat' (refine N.go ?_; first | with_reducible refine N.obl (by decide) ?_ | with_reducible refine N.obl (flat_wi _ _ _) ?_ | with_reducible refine N.obl (flat_lim _ _) ?_ | with_reducible refine N.eq ?_ | with_reducible refine N.obl rfl ?_ | with_reducible refine N.obl ⟨by kernel_rfl, by kernel_rfl⟩ ?_ | with_reducible refine N.forkT ?_ | with_reducible refine N.forkF ?_)
    refine N.go ?_
    refine N.fork (fun hc => ?_) (fun hc => ?_)
    · simp only [decide_eq_true_eq, decide_eq_false_iff_not] at hc
      have R := wider d1 e1 y1 x1 (by omega) (by omega) (by omega) (by omega) (by omega) (by omega)
      repeat' (refine N.go ?_; first | with_reducible refine N.obl (by decide) ?_ | with_reducible refine N.obl (flat_wi _ _ _) ?_ | with_reducible refine N.obl (flat_lim _ _) ?_ | with_reducible refine N.eq ?_ | with_reducible refine N.obl rfl ?_ | with_reducible refine N.obl ⟨by kernel_rfl, by kernel_rfl⟩ ?_ | with_reducible refine N.forkT ?_ | with_reducible refine N.forkF ?_ | with_reducible refine N.call (cSpan1 _ _ _ (ok2 (by omega) (by omega) (by omega) (by omega))) ?_ | with_reducible refine N.call (cAwake14 _) ?_ | refine N.forkNo (by decide) ?_ | refine N.forkYes (by decide) ?_ | refine N.forkYes (by rw [decide_eq_true_eq]; (try simp only [IntKind.wrap_i64]); omega) ?_)
      all_goals rfl
    · simp only [decide_eq_true_eq, decide_eq_false_iff_not] at hc
      have R := wider d1 e1 x1 y1 (by omega) (by omega) (by omega) (by omega) (by omega) (by omega)
      repeat' (refine N.go ?_; first | with_reducible refine N.obl (by decide) ?_ | with_reducible refine N.obl (flat_wi _ _ _) ?_ | with_reducible refine N.obl (flat_lim _ _) ?_ | with_reducible refine N.eq ?_ | with_reducible refine N.obl rfl ?_ | with_reducible refine N.obl ⟨by kernel_rfl, by kernel_rfl⟩ ?_ | with_reducible refine N.forkT ?_ | with_reducible refine N.forkF ?_ | with_reducible refine N.call (cSpan1 _ _ _ (ok2 (by omega) (by omega) (by omega) (by omega))) ?_ | with_reducible refine N.call (cAwake14 _) ?_ | refine N.forkNo (by decide) ?_ | refine N.forkYes (by decide) ?_ | refine N.forkYes (by rw [decide_eq_true_eq]; (try simp only [IntKind.wrap_i64]); omega) ?_)
      all_goals rfl
set_option maxRecDepth 100000 in
theorem lifted (os : Os) (started : os.Started) (H : Type) (enc : TypeId × Value → H) :
    ReturnsInHanded {} Try.checked os 4 .any (Rows.clockWiderSpec.pre6 enc Try.prog Try.f4 Rows.clockWiderRow.domain false) (Rows.clockWiderSpec.post enc Try.prog Try.f4 false true false false) := by
  refine law_lifted (C := Try.checked) (tb := 4) Try.own started (by kernel_rfl) Try.func4 Try.laidOut (by kernel_rfl) rfl Try.underlying4 rfl
    (fun ds hds => by match ds, hds with | [_, _, _, _], _ => rfl)
    (ChangeSpec.witness6 (enc := enc) (C := Try.checked) false ⟨#[], #[.int .i64 0, .int .i64 0, .int .i64 0, .int .i64 0], []⟩ 8 (by kernel_rfl) (by kernel_rfl) (by kernel_rfl) (by kernel_rfl)) ?_
  intro W base args ds p hval0 hA0 hsz0
  have hval : ∀ (j : Nat) t v, Try.f4.params[j]? = some t → args[j]? = some v → Value.okWide Try.prog W .any base t v := hval0
  have hA : DataW.TrodAll enc Try.prog W 0 (fun _ => true) true Try.f4.params.toList args.toList ds p := hA0
  have hsz : (DataW.weightsEach Try.prog Try.f4.params.toList ds).all (· ≤ reachBytes) = true := hsz0
  rw [Try.params4] at hA hval hsz
  obtain ⟨v0, vs0, d0, ds0, p0, q0, hargs, rfl, rfl, h0, r0⟩ := trodAll_cons hA
  obtain ⟨v1, vs1, d1, ds1, p1, q1, rfl, rfl, rfl, h1, r1⟩ := trodAll_cons r0
  obtain ⟨v2, vs2, d2, ds2, p2, q2, rfl, rfl, rfl, h2, r2⟩ := trodAll_cons r1
  obtain ⟨v3, vs3, d3, ds3, p3, q3, rfl, rfl, rfl, h3, r3⟩ := trodAll_cons r2
  obtain ⟨rfl, rfl, rfl⟩ := trodAll_nil r3
  obtain rfl : args = #[v0, v1, v2, v3] := by cases args; simp_all
  obtain ⟨a0, rfl, rfl, rfl, w0⟩ := open_int Try.underlying2 (hval 0 _ v0 rfl rfl) h0
  obtain ⟨a1, rfl, rfl, rfl, w1⟩ := open_int Try.underlying2 (hval 1 _ v1 rfl rfl) h1
  obtain ⟨a2, rfl, rfl, rfl, w2⟩ := open_int Try.underlying2 (hval 2 _ v2 rfl rfl) h2
  obtain ⟨a3, rfl, rfl, rfl, w3⟩ := open_int Try.underlying2 (hval 3 _ v3 rfl rfl) h3
  exact walk a0 a1 a2 a3 W

theorem proved : Rows.ClockWiderSaid :=
  OpenClaim.holds_of_wide 4 Try.f4 rfl rfl rfl rfl rfl rfl rfl ⟨rfl, rfl, rfl, rfl, rfl⟩ rfl rfl rfl rfl rfl (by kernel_rfl) Try.func4 (by kernel_rfl)
    (of_decide_eq_true (by kernel_rfl)) (by unfold Func.isWrapper; rw [if_neg (by decide +kernel)]; exact ⟨rfl, rfl⟩)
    (fun os started H enc _ => lifted os started H enc)
#print axioms proved
end Go.Proofs.Ytioohgocbpdkeaa.clockWider
