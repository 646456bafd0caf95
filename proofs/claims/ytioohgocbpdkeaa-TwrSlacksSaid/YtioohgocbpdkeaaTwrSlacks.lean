/-
  The statement TwrSlacks: for every input the law returns true.
-/
import Derived.Test.YtioohgocbpdkeaaTwr
set_option linter.unusedVariables false
set_option linter.unusedSimpArgs false
namespace Go.Proofs.Ytioohgocbpdkeaa.twrSlacks
open Go Go.ChangeShapes Go.WideShapes Go.ChangeAt Go.RowKit Sx

set_option maxRecDepth 100000 in
theorem open_timing {H : Type} {enc : TypeId × Value → H} {W : World} {r : Reach} {base : Nat} {v : Value} {d : DataW H} {p : List MemPlace}
    (hv : Value.okWide Try.prog W r base 34 v) (h : DataW.Trod enc Try.prog W 0 (fun _ => true) true 34 v d p) :
    ∃ x y z u : Int, v = .agg #[.int .i64 x, .int .i64 y, .int .i64 z, .int .i64 u] := by
  obtain ⟨cs, rfl, hs⟩ := okWide_struct Try.underlying34 hv
  have hs2 : cs.size = 4 := hs.trans (by kernel_rfl)
  obtain ⟨l⟩ := cs
  match l, hs2 with
  | [c0, c1, c2, c3], _ =>
    obtain ⟨fuel, hf⟩ := h
    have hf' : DataW.trod enc Try.prog W 0 (fun _ => true) true fuel 34 [c0, c1, c2, c3] = some (d, p) := hf
    have i64 := @Try.underlying2
    obtain ⟨k0, w0⟩ := leaf_int (d := 3) (l := 2) (j := 0) (u := c0) (by kernel_rfl) i64 rfl hf'
    obtain ⟨k1, w1⟩ := leaf_int (d := 3) (l := 2) (j := 1) (u := c1) (by kernel_rfl) i64 rfl hf'
    obtain ⟨k2, w2⟩ := leaf_int (d := 3) (l := 2) (j := 2) (u := c2) (by kernel_rfl) i64 rfl hf'
    obtain ⟨k3, w3⟩ := leaf_int (d := 3) (l := 2) (j := 3) (u := c3) (by kernel_rfl) i64 rfl hf'
    exact ⟨_, _, _, _, by rw [k0, k1, k2, k3]⟩
theorem cRange0 (ra db da rb dr sl dr' sl' : Int) (h : List (Option Chunk)) (h1 : dr' = dr) (h2 : sl' = sl) (ho : rgE ra db da rb dr sl = 0) : CallOK Try.prog 20 [.agg #[.int .i64 ra, .int .i64 db, .int .i64 da, .int .i64 rb], .int .i64 dr', .int .i64 sl'] h (.tuple #[.int .i64 (rgLo ra db da rb dr sl), .int .i64 (rgHi ra db da rb dr sl), .int .i64 0]) [] [] := by
  subst h1; subst h2
  have := cRange ra db da rb dr' sl' h
  unfold rgV at this
  rwa [if_pos ho, if_pos ho, ho] at this
theorem cRangeN (ra db da rb dr sl dr' sl' : Int) (h : List (Option Chunk)) (h1 : dr' = dr) (h2 : sl' = sl) (ho : rgE ra db da rb dr sl ≠ 0) : CallOK Try.prog 20 [.agg #[.int .i64 ra, .int .i64 db, .int .i64 da, .int .i64 rb], .int .i64 dr', .int .i64 sl'] h (.tuple #[.int .i64 0, .int .i64 0, .int .i64 (rgE ra db da rb dr sl)]) [] [] := by
  subst h1; subst h2
  have := cRange ra db da rb dr' sl' h
  unfold rgV at this
  rwa [if_neg ho, if_neg ho] at this
theorem lo_x (d x y : Int) (hx : 0 ≤ x) (hxy : x ≤ y) : spLo d y ≤ spLo d x := by
  unfold spLo
  refine Int.le_ediv_of_mul_le (by omega) ?_
  have h0 : 0 ≤ max 0 (d - 1) * 1000000 / (1000000 + y) := Int.ediv_nonneg (Int.mul_nonneg (by omega) (by omega)) (by omega)
  have h1 := Int.mul_le_mul_of_nonneg_left (by omega : 1000000 + x ≤ 1000000 + y) h0
  exact Int.le_trans h1 (Int.ediv_mul_le _ (by omega))
theorem hi_x (d x y : Int) (hd : 0 ≤ d) (hxy : x ≤ y) (hy : y ≤ 1000) : spHi d x ≤ spHi d y := by
  unfold spHi
  refine Int.neg_le_neg ?_
  refine Int.le_ediv_of_mul_le (by omega) ?_
  have h0 : -((d + 1) * 1000000) / (1000000 - y) ≤ 0 := by
    have := Int.ediv_le_ediv (by omega : 0 < 1000000 - y) (by omega : -((d + 1) * 1000000) ≤ 0)
    rwa [Int.zero_ediv] at this
  have h2 := Int.ediv_mul_le (-((d + 1) * 1000000)) (by omega : 1000000 - y ≠ 0)
  generalize -((d + 1) * 1000000) / (1000000 - y) = q at *
  have h1 : q * (1000000 - x) ≤ q * (1000000 - y) := by
    have := Int.mul_le_mul_of_nonneg_left (by omega : 1000000 - y ≤ 1000000 - x) (by omega : 0 ≤ -q)
    rw [Int.neg_mul, Int.neg_mul] at this
    omega
  exact Int.le_trans h1 h2
theorem slacks (ra db da rb dr m sl w : Int) (h1 : 0 ≤ dr) (h2 : dr ≤ m) (h3 : m ≤ 1000) (h4 : 0 ≤ sl) (h5 : sl ≤ w) (h6 : w ≤ 4194304) :
    (rgE ra db da rb dr sl ≠ 0 → rgE ra db da rb m w = 0 → rgE ra db da rb dr sl = 3) ∧ (rgE ra db da rb dr sl = 0 → rgE ra db da rb m w = 0 →
      rgLo ra db da rb m w ≤ rgLo ra db da rb dr sl ∧ rgHi ra db da rb dr sl ≤ rgHi ra db da rb m w ∧ 0 ≤ rgLo ra db da rb dr sl ∧ rgLo ra db da rb dr sl ≤ rgHi ra db da rb dr sl ∧ rgHi ra db da rb m w ≤ 4194304) := by
  by_cases ho : rgOK ra db da rb dr sl
  · have ho2 : rgOK ra db da rb m w := ⟨⟨by omega, h6⟩, ⟨ho.2.1.1, by omega, h3⟩, ⟨ho.2.2.1.1, by omega, h3⟩, ⟨ho.2.2.2.1.1, by omega, h3⟩, ⟨ho.2.2.2.2.1, by omega, h3⟩⟩
    have a1 := lo_x ra dr m h1 h2
    have a2 := lo_x db dr m h1 h2
    have a3 := lo_x da dr m h1 h2
    have a4 := lo_x rb dr m h1 h2
    have b1 := hi_x ra dr m ho.2.1.1.1 h2 h3
    have b2 := hi_x db dr m ho.2.2.1.1.1 h2 h3
    have b3 := hi_x da dr m ho.2.2.2.2.1.1 h2 h3
    have b4 := hi_x rb dr m ho.2.2.2.1.1.1 h2 h3
    have c1 : rgLo ra db da rb m w ≤ rgLo ra db da rb dr sl := by unfold rgLo; omega
    have c2 : rgHi ra db da rb dr sl ≤ rgHi ra db da rb m w := by unfold rgHi; omega
    have c3 : 0 ≤ rgLo ra db da rb dr sl := by unfold rgLo; omega
    unfold rgE
    rw [if_pos ho, if_pos ho2]
    clear a1 a2 a3 a4 b1 b2 b3 b4 ho ho2
    generalize rgLo ra db da rb m w = p at *
    generalize rgLo ra db da rb dr sl = q at *
    generalize rgHi ra db da rb m w = r at *
    generalize rgHi ra db da rb dr sl = s at *
    constructor
    · intro x y
      split at x <;> split at y <;> simp_all <;> omega
    · intro x y
      split at x <;> split at y <;> simp_all <;> omega
  · have ho2 : ¬ rgOK ra db da rb m w := fun h => ho ⟨⟨h4, by omega⟩, ⟨h.2.1.1, h1, by omega⟩, ⟨h.2.2.1.1, h1, by omega⟩, ⟨h.2.2.2.1.1, h1, by omega⟩, ⟨h.2.2.2.2.1, h1, by omega⟩⟩
    unfold rgE
    rw [if_neg ho, if_neg ho2]
    exact ⟨fun _ h => absurd h (by decide), fun h => absurd h (by decide)⟩
set_option maxRecDepth 100000 in
set_option maxHeartbeats 1000000 in
theorem walk (ra db da rb d m s v : Int) (w : World) :
    Calls Try.prog 8 #[.agg #[.int .i64 ra, .int .i64 db, .int .i64 da, .int .i64 rb], .int .i64 d, .int .i64 m, .int .i64 s, .int .i64 v] w fun o w' => o = .returned (.bool true) ∧ Below w.heap.size w w' := by
  have hd := u64mod d 500 (by decide) (by decide)
  have hm := u64mod m 500 (by decide) (by decide)
  have hs := u64mod s 1000 (by decide) (by decide)
  have hv := u64mod v 1000 (by decide) (by decide)
  refine calls_pure (G := tys) w tysOK mixed Try.func8 (by rfl) (by rfl) (by rfl) ?_
  repeat' (refine N.go ?_; first | with_reducible refine N.obl (by decide) ?_ | with_reducible refine N.obl (flat_wi _ _ _) ?_ | with_reducible refine N.obl (flat_lim _ _) ?_ | with_reducible refine N.eq ?_ | with_reducible refine N.obl rfl ?_ | with_reducible refine N.obl ⟨by kernel_rfl, by kernel_rfl⟩ ?_ | with_reducible refine N.forkT ?_ | with_reducible refine N.forkF ?_)
  refine N.go ?_
  generalize IntKind.i64.wrap ((IntKind.u64.wrap d).tmod 500) = d1 at hd ⊢
  generalize IntKind.i64.wrap ((IntKind.u64.wrap m).tmod 500) = m1 at hm ⊢
  generalize IntKind.i64.wrap ((IntKind.u64.wrap s).tmod 1000) = s1 at hs ⊢
  generalize IntKind.i64.wrap ((IntKind.u64.wrap v).tmod 1000) = v1 at hv ⊢
  have R := slacks ra db da rb d1 (d1 + m1) s1 (s1 + v1) (by omega) (by omega) (by omega) (by omega) (by omega) (by omega)
  have e1 := wsmall (d1 + m1) (by omega) (by omega)
  have e2 := wsmall (s1 + v1) (by omega) (by omega)
  by_cases h1 : rgE ra db da rb d1 s1 = 0
  · by_cases h2 : rgE ra db da rb (d1 + m1) (s1 + v1) = 0
    · have R2 := R.2 h1 h2
      repeat' (refine N.go ?_; first | with_reducible refine N.obl (by decide) ?_ | with_reducible refine N.obl (flat_wi _ _ _) ?_ | with_reducible refine N.obl (flat_lim _ _) ?_ | with_reducible refine N.eq ?_ | with_reducible refine N.obl rfl ?_ | with_reducible refine N.obl ⟨by kernel_rfl, by kernel_rfl⟩ ?_ | with_reducible refine N.forkT ?_ | with_reducible refine N.forkF ?_ | with_reducible refine N.call (cRange0 _ _ _ _ d1 s1 _ _ _ rfl rfl h1) ?_ | with_reducible refine N.call (cRangeN _ _ _ _ d1 s1 _ _ _ rfl rfl h1) ?_ | with_reducible refine N.call (cRange0 _ _ _ _ (d1 + m1) (s1 + v1) _ _ _ e1 e2 h2) ?_ | with_reducible refine N.call (cRangeN _ _ _ _ (d1 + m1) (s1 + v1) _ _ _ e1 e2 h2) ?_ | with_reducible refine N.call (cAwake15 _) ?_ | refine N.forkNo (by decide) ?_ | refine N.forkYes (by decide) ?_ | refine N.forkYes (by rw [bne_iff_ne]; assumption) ?_ | refine N.forkNo (by rw [beq_eq_false_iff_ne]; assumption) ?_ | refine N.forkYes (by rw [beq_iff_eq]; assumption) ?_ | refine N.forkYes (by rw [decide_eq_true_eq]; (try simp only [IntKind.wrap_i64]); omega) ?_)
      all_goals rfl
    · repeat' (refine N.go ?_; first | with_reducible refine N.obl (by decide) ?_ | with_reducible refine N.obl (flat_wi _ _ _) ?_ | with_reducible refine N.obl (flat_lim _ _) ?_ | with_reducible refine N.eq ?_ | with_reducible refine N.obl rfl ?_ | with_reducible refine N.obl ⟨by kernel_rfl, by kernel_rfl⟩ ?_ | with_reducible refine N.forkT ?_ | with_reducible refine N.forkF ?_ | with_reducible refine N.call (cRange0 _ _ _ _ d1 s1 _ _ _ rfl rfl h1) ?_ | with_reducible refine N.call (cRangeN _ _ _ _ d1 s1 _ _ _ rfl rfl h1) ?_ | with_reducible refine N.call (cRange0 _ _ _ _ (d1 + m1) (s1 + v1) _ _ _ e1 e2 h2) ?_ | with_reducible refine N.call (cRangeN _ _ _ _ (d1 + m1) (s1 + v1) _ _ _ e1 e2 h2) ?_ | with_reducible refine N.call (cAwake15 _) ?_ | refine N.forkNo (by decide) ?_ | refine N.forkYes (by decide) ?_ | refine N.forkYes (by rw [bne_iff_ne]; assumption) ?_ | refine N.forkNo (by rw [beq_eq_false_iff_ne]; assumption) ?_ | refine N.forkYes (by rw [beq_iff_eq]; assumption) ?_ | refine N.forkYes (by rw [decide_eq_true_eq]; (try simp only [IntKind.wrap_i64]); omega) ?_)
      all_goals rfl
  · by_cases h2 : rgE ra db da rb (d1 + m1) (s1 + v1) = 0
    · have R2 := R.1 h1 h2
      repeat' (refine N.go ?_; first | with_reducible refine N.obl (by decide) ?_ | with_reducible refine N.obl (flat_wi _ _ _) ?_ | with_reducible refine N.obl (flat_lim _ _) ?_ | with_reducible refine N.eq ?_ | with_reducible refine N.obl rfl ?_ | with_reducible refine N.obl ⟨by kernel_rfl, by kernel_rfl⟩ ?_ | with_reducible refine N.forkT ?_ | with_reducible refine N.forkF ?_ | with_reducible refine N.call (cRange0 _ _ _ _ d1 s1 _ _ _ rfl rfl h1) ?_ | with_reducible refine N.call (cRangeN _ _ _ _ d1 s1 _ _ _ rfl rfl h1) ?_ | with_reducible refine N.call (cRange0 _ _ _ _ (d1 + m1) (s1 + v1) _ _ _ e1 e2 h2) ?_ | with_reducible refine N.call (cRangeN _ _ _ _ (d1 + m1) (s1 + v1) _ _ _ e1 e2 h2) ?_ | with_reducible refine N.call (cAwake15 _) ?_ | refine N.forkNo (by decide) ?_ | refine N.forkYes (by decide) ?_ | refine N.forkYes (by rw [bne_iff_ne]; assumption) ?_ | refine N.forkNo (by rw [beq_eq_false_iff_ne]; assumption) ?_ | refine N.forkYes (by rw [beq_iff_eq]; assumption) ?_ | refine N.forkYes (by rw [decide_eq_true_eq]; (try simp only [IntKind.wrap_i64]); omega) ?_)
      all_goals rfl
    · repeat' (refine N.go ?_; first | with_reducible refine N.obl (by decide) ?_ | with_reducible refine N.obl (flat_wi _ _ _) ?_ | with_reducible refine N.obl (flat_lim _ _) ?_ | with_reducible refine N.eq ?_ | with_reducible refine N.obl rfl ?_ | with_reducible refine N.obl ⟨by kernel_rfl, by kernel_rfl⟩ ?_ | with_reducible refine N.forkT ?_ | with_reducible refine N.forkF ?_ | with_reducible refine N.call (cRange0 _ _ _ _ d1 s1 _ _ _ rfl rfl h1) ?_ | with_reducible refine N.call (cRangeN _ _ _ _ d1 s1 _ _ _ rfl rfl h1) ?_ | with_reducible refine N.call (cRange0 _ _ _ _ (d1 + m1) (s1 + v1) _ _ _ e1 e2 h2) ?_ | with_reducible refine N.call (cRangeN _ _ _ _ (d1 + m1) (s1 + v1) _ _ _ e1 e2 h2) ?_ | with_reducible refine N.call (cAwake15 _) ?_ | refine N.forkNo (by decide) ?_ | refine N.forkYes (by decide) ?_ | refine N.forkYes (by rw [bne_iff_ne]; assumption) ?_ | refine N.forkNo (by rw [beq_eq_false_iff_ne]; assumption) ?_ | refine N.forkYes (by rw [beq_iff_eq]; assumption) ?_ | refine N.forkYes (by rw [decide_eq_true_eq]; (try simp only [IntKind.wrap_i64]); omega) ?_)
      all_goals rfl
set_option maxRecDepth 100000 in
theorem lifted (os : Os) (started : os.Started) (H : Type) (enc : TypeId × Value → H) :
    ReturnsInHanded {} Try.checked os 8 .any (Rows.twrSlacksSpec.pre6 enc Try.prog Try.f8 Rows.twrSlacksRow.domain false) (Rows.twrSlacksSpec.post enc Try.prog Try.f8 false true false false) := by
  refine law_lifted (C := Try.checked) (tb := 4) Try.own started (by kernel_rfl) Try.func8 Try.laidOut (by kernel_rfl) rfl Try.underlying4 rfl
    (fun ds hds => by match ds, hds with | [_, _, _, _, _], _ => rfl)
    (ChangeSpec.witness6 (enc := enc) (C := Try.checked) false ⟨#[], #[.agg #[.int .i64 0, .int .i64 0, .int .i64 0, .int .i64 0], .int .i64 0, .int .i64 0, .int .i64 0, .int .i64 0], []⟩ 8 (by kernel_rfl) (by kernel_rfl) (by kernel_rfl) (by kernel_rfl)) ?_
  intro W base args ds p hval0 hA0 hsz0
  have hval : ∀ (j : Nat) t v, Try.f8.params[j]? = some t → args[j]? = some v → Value.okWide Try.prog W .any base t v := hval0
  have hA : DataW.TrodAll enc Try.prog W 0 (fun _ => true) true Try.f8.params.toList args.toList ds p := hA0
  have hsz : (DataW.weightsEach Try.prog Try.f8.params.toList ds).all (· ≤ reachBytes) = true := hsz0
  rw [Try.params8] at hA hval hsz
  obtain ⟨v0, vs0, d0, ds0, p0, q0, hargs, rfl, rfl, h0, r0⟩ := trodAll_cons hA
  obtain ⟨v1, vs1, d1, ds1, p1, q1, rfl, rfl, rfl, h1, r1⟩ := trodAll_cons r0
  obtain ⟨v2, vs2, d2, ds2, p2, q2, rfl, rfl, rfl, h2, r2⟩ := trodAll_cons r1
  obtain ⟨v3, vs3, d3, ds3, p3, q3, rfl, rfl, rfl, h3, r3⟩ := trodAll_cons r2
  obtain ⟨v4, vs4, d4, ds4, p4, q4, rfl, rfl, rfl, h4, r4⟩ := trodAll_cons r3
  obtain ⟨rfl, rfl, rfl⟩ := trodAll_nil r4
  obtain rfl : args = #[v0, v1, v2, v3, v4] := by cases args; simp_all
  obtain ⟨x0, y0, z0, u0, rfl⟩ := open_timing (hval 0 _ v0 rfl rfl) h0
  obtain ⟨a1, rfl, rfl, rfl, w1⟩ := open_int Try.underlying2 (hval 1 _ v1 rfl rfl) h1
  obtain ⟨a2, rfl, rfl, rfl, w2⟩ := open_int Try.underlying2 (hval 2 _ v2 rfl rfl) h2
  obtain ⟨a3, rfl, rfl, rfl, w3⟩ := open_int Try.underlying2 (hval 3 _ v3 rfl rfl) h3
  obtain ⟨a4, rfl, rfl, rfl, w4⟩ := open_int Try.underlying2 (hval 4 _ v4 rfl rfl) h4
  exact walk x0 y0 z0 u0 a1 a2 a3 a4 W

theorem proved : Rows.TwrSlacksSaid :=
  OpenClaim.holds_of_wide 8 Try.f8 rfl rfl rfl rfl rfl rfl rfl ⟨rfl, rfl, rfl, rfl, rfl⟩ rfl rfl rfl rfl rfl (by kernel_rfl) Try.func8 (by kernel_rfl)
    (of_decide_eq_true (by kernel_rfl)) (by unfold Func.isWrapper; rw [if_neg (by decide +kernel)]; exact ⟨rfl, rfl⟩)
    (fun os started H enc _ => lifted os started H enc)
#print axioms proved
end Go.Proofs.Ytioohgocbpdkeaa.twrSlacks
