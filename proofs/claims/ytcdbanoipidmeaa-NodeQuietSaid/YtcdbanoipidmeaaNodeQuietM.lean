import Derived.Test.YtcdbanoipidmeaaRows
import Derived.Test.YtcdbanoipidmeaaM5

/-
  The statement NodeQuiet: for every input the law returns true.
-/
set_option linter.unusedVariables false
set_option linter.unusedSimpArgs false
namespace Go.Proofs.Ytcdbanoipidmeaa.nodeQuiet
open Go Go.ChangeShapes Go.WideShapes Go.ChangeAt Go.RowKit Sx

set_option maxRecDepth 100000 in
theorem open_e {H : Type} {enc : TypeId × Value → H} {W : World} {r : Reach} {base : Nat} {v : Value} {d : DataW H} {p : List MemPlace}
    (hv : Value.okWide Try.prog W r base 27 v) (h : DataW.Trod enc Try.prog W 0 (fun _ => true) true 27 v d p) :
    ∃ x0 x1 x2 x3 x4 : Int, v = .agg #[.int .i64 x0, .int .i64 x1, .int .i64 x2, .int .i64 x3, .int .i64 x4] := by
  obtain ⟨cs, rfl, hs⟩ := okWide_struct Try.underlying27 hv
  have hs2 : cs.size = 5 := hs.trans (by kernel_rfl)
  obtain ⟨l⟩ := cs
  match l, hs2 with
  | [c0, c1, c2, c3, c4], _ =>
    obtain ⟨fuel, hf⟩ := h
    have hf' : DataW.trod enc Try.prog W 0 (fun _ => true) true fuel 27 [c0, c1, c2, c3, c4] = some (d, p) := hf
    obtain ⟨k0, w0⟩ := leaf_int (d := 3) (l := 2) (j := 0) (u := c0) (by kernel_rfl) (@Try.underlying2) rfl hf'
    obtain ⟨k1, w1⟩ := leaf_int (d := 3) (l := 2) (j := 1) (u := c1) (by kernel_rfl) (@Try.underlying2) rfl hf'
    obtain ⟨k2, w2⟩ := leaf_int (d := 3) (l := 2) (j := 2) (u := c2) (by kernel_rfl) (@Try.underlying2) rfl hf'
    obtain ⟨k3, w3⟩ := leaf_int (d := 3) (l := 2) (j := 3) (u := c3) (by kernel_rfl) (@Try.underlying2) rfl hf'
    obtain ⟨k4, w4⟩ := leaf_int (d := 3) (l := 2) (j := 4) (u := c4) (by kernel_rfl) (@Try.underlying2) rfl hf'
    exact ⟨_, _, _, _, _, by rw [k0, k1, k2, k3, k4]⟩
theorem z_ell2 (a b c d e : Int) : (!(a == 0 && (b == 0 && (c == 0 && (d == 0 && e == 0))))) = decide (¬ (a = 0 ∧ b = 0 ∧ c = 0 ∧ d = 0 ∧ e = 0)) := z_ell a b c d e
/-- A node as it is after some ticks. -/
structure QS where
  i : Nat
  k : Nat
  l : Int
abbrev qN (C : Nat → Int) (v : Bool) (x y a b d : Int) (q : QS) : NSt := {nsNew C 4 9 v x y a b d with seq := q.k, bl := q.l, tx := q.k * C 8}
def qOK (e : Int) (m : Nat) (q : QS) : Prop := q.i ≤ m ∧ (q.i : Int) ≤ q.k * e ∧ q.k * e < q.i + e ∧ q.k ≤ q.i
theorem q_due {e : Int} {m : Nat} {q : QS} (h : qOK e m q) (he : 1 ≤ e) (hd : ¬ (q.i : Int) < q.k * e) : (q.i : Int) = q.k * e ∧ (q.i : Int) % e = 0 := by
  obtain ⟨h1, h2, h3, h4⟩ := h
  have h5 : (q.i : Int) = q.k * e := by omega
  exact ⟨h5, by rw [h5]; exact Int.mul_emod_left _ _⟩
theorem q_not {e : Int} {m : Nat} {q : QS} (h : qOK e m q) (he : 1 ≤ e) (hd : (q.i : Int) < q.k * e) : (q.i : Int) % e ≠ 0 := fun h0 => by
  obtain ⟨h1, h2, h3, h4⟩ := h
  obtain ⟨z, hz⟩ := Int.dvd_of_emod_eq_zero h0
  have hz2 : (q.i : Int) = z * e := by rw [hz, Int.mul_comm]
  rw [hz2] at hd
  have k1 : z < q.k := Int.lt_of_mul_lt_mul_right hd (by omega)
  have k2 : ((q.k : Int)) * e < (z + 1) * e := by rw [Int.add_mul]; omega
  have k3 : (q.k : Int) < z + 1 := Int.lt_of_mul_lt_mul_right k2 (by omega)
  omega
theorem q_stay {e : Int} {m : Nat} {q : QS} (h : qOK e m q) (he : 1 ≤ e) (hi : q.i < m) (hd : (q.i : Int) < q.k * e) (l : Int) : qOK e m ⟨q.i + 1, q.k, l⟩ := by
  obtain ⟨h1, h2, h3, h4⟩ := h
  exact ⟨hi, by show ((q.i + 1 : Nat) : Int) ≤ q.k * e; omega, by show q.k * e < ((q.i + 1 : Nat) : Int) + e; omega, by show q.k ≤ q.i + 1; omega⟩
theorem q_next {e : Int} {m : Nat} {q : QS} (h : qOK e m q) (he : 1 ≤ e) (hi : q.i < m) (hd : ¬ (q.i : Int) < q.k * e) (l : Int) : qOK e m ⟨q.i + 1, q.k + 1, l⟩ := by
  obtain ⟨h5, _⟩ := q_due h he hd
  obtain ⟨h1, h2, h3, h4⟩ := h
  have e1 : ((q.k + 1 : Nat) : Int) * e = q.k * e + e := by rw [Int.natCast_succ, Int.add_mul, Int.one_mul]
  exact ⟨hi, by show ((q.i + 1 : Nat) : Int) ≤ ((q.k + 1 : Nat) : Int) * e; omega, by show ((q.k + 1 : Nat) : Int) * e < ((q.i + 1 : Nat) : Int) + e; omega, by show q.k + 1 ≤ q.i + 1; omega⟩
theorem q_st (C : Nat → Int) (v : Bool) (x y a b d : Int) (q : QS) (i : Nat) (l : Int) (hz : (q.i : Int) = q.k * C 8) (hte : 1 ≤ C 8 ∧ C 8 ≤ 1000000) : ({qN C v x y a b d q with bl := l, seq := (q.k : Int) + 1, tx := (q.i : Int) + max 1 (min (C 8) 1000000)} : NSt) = qN C v x y a b d ⟨i, q.k + 1, l⟩ := by
  have e1 : ((q.k + 1 : Nat) : Int) = q.k + 1 := rfl
  have e2 : (q.i : Int) + max 1 (min (C 8) 1000000) = ((q.k : Int) + 1) * C 8 := by rw [Int.add_mul, Int.one_mul, hz]; omega
  simp only [qN, nsNew, e1, e2]
theorem nd_ren {ix : List (Nat × Nat)} {s s' : NSt} (h : s = s') : ChunkReLe ix (ndP s) (ndP s') := by
  subst h
  exact ⟨id, Nat.le_refl _, fun j hj => absurd hj (Nat.not_lt_zero j)⟩
set_option maxRecDepth 100000 in
set_option maxHeartbeats 2000000 in
theorem walkN (ev n : Int) (x y a b d : Int) (v : Bool) (fx fy fa fb fd : Int) (W : World)
    (hnew : ∀ (K : Nat) (h : List (Option Chunk)), h[K]? = some none → CallOK Try.prog 5 [cfV (cf6 3 5 9 2 ev 7), .int .i64 4, .int .i64 9, elV x y a b d] h (.pointer (some ⟨K, 0, some 0⟩)) [(K, ndP (nsNew (cf6 3 5 9 2 ev 7) 4 9 v fx fy fa fb fd))] []) :
    Calls Try.prog 3 #[.int .i64 ev, elV x y a b d, .int .i64 n] W fun e w' => e = .returned (.bool true) ∧ Below W.heap.size W w' := by
  obtain ⟨m, hm, he⟩ : ∃ m : Nat, m < 60 ∧ IntKind.i64.wrap ((IntKind.u64.wrap n).tmod 60) = (m : Int) := by
    have := md_b n 60 (by decide) (by decide)
    exact ⟨(md n 60).toNat, by omega, by have e : IntKind.i64.wrap ((IntKind.u64.wrap n).tmod 60) = md n 60 := rfl; rw [e]; omega⟩
  refine calls_pure (G := tys) W tysOK mixed Try.func3 (by rfl) (by rfl) (by rfl) ?_
  repeat' (refine N.go ?_; first | with_reducible refine N.obl (by decide) ?_ | with_reducible refine N.obl (flat_wi _ _ _) ?_ | with_reducible refine N.obl (flat_lim _ _) ?_ | with_reducible refine N.eq ?_ | with_reducible refine N.obl rfl ?_ | with_reducible refine N.obl ⟨by kernel_rfl, by kernel_rfl⟩ ?_ | with_reducible refine N.alt ?_ | with_reducible refine N.forkT ?_ | with_reducible refine N.forkF ?_ | refine N.call (cConfig 3 5 9 2 ev 7 _) ?_ | fail_if_success skip)
  refine N.go ?_
  refine N.call (hnew 6 _ (by rfl)) ?_
  repeat' (refine N.go ?_; first | with_reducible refine N.obl (by decide) ?_ | with_reducible refine N.obl (flat_wi _ _ _) ?_ | with_reducible refine N.obl (flat_lim _ _) ?_ | with_reducible refine N.eq ?_ | with_reducible refine N.obl rfl ?_ | with_reducible refine N.obl ⟨by kernel_rfl, by kernel_rfl⟩ ?_ | with_reducible refine N.alt ?_ | with_reducible refine N.forkT ?_ | with_reducible refine N.forkF ?_ | refine N.call (cConfig 3 5 9 2 ev 7 _) ?_ | fail_if_success skip)
  refine N.go ?_
  refine N.call (cReport0 (nsNew (cf6 3 5 9 2 ev 7) 4 9 v fx fy fa fb fd) rfl 6 _ (by rfl)) ?_
  repeat' (refine N.go ?_; first | with_reducible refine N.obl (by decide) ?_ | with_reducible refine N.obl (flat_wi _ _ _) ?_ | with_reducible refine N.obl (flat_lim _ _) ?_ | with_reducible refine N.eq ?_ | with_reducible refine N.obl rfl ?_ | with_reducible refine N.obl ⟨by kernel_rfl, by kernel_rfl⟩ ?_ | with_reducible refine N.alt ?_ | with_reducible refine N.forkT ?_ | with_reducible refine N.forkF ?_ | refine N.call (cConfig 3 5 9 2 ev 7 _) ?_ | fail_if_success skip)
  refine N.go ?_
  rw [he]
  have hev : 1 ≤ 1 + md ev 6 ∧ 1 + md ev 6 ≤ 6 := by have := md_b ev 6 (by decide) (by decide); omega
  refine N.loopR (α := QS) (qOK (1 + md ev 6) m) (fun q => m - q.i) (fun q => [(42, .int .i64 (q.i : Int)), (10, .int .i64 (q.k : Int))]) (fun q => [(6, ndP (qN (cf6 3 5 9 2 ev 7) v fx fy fa fb fd q))]) ⟨0, 0, max 0 (min (cf6 3 5 9 2 ev 7 9) 1000)⟩ [(0, 0), (5, 5), (6, 6), (11, 11)] ⟨Nat.zero_le _, by show (0 : Int) ≤ 0 * (1 + md ev 6); omega, by show (0 : Int) * (1 + md ev 6) < 0 + (1 + md ev 6); omega, Nat.le_refl _⟩ ?_ ?_
  · repeat' (refine N.go ?_; first | with_reducible refine N.obl (by decide) ?_ | with_reducible refine N.obl (flat_wi _ _ _) ?_ | with_reducible refine N.obl (flat_lim _ _) ?_ | with_reducible refine N.eq ?_ | with_reducible refine N.obl rfl ?_ | with_reducible refine N.obl ⟨by kernel_rfl, by kernel_rfl⟩ ?_ | with_reducible refine N.alt ?_ | with_reducible refine N.forkT ?_ | with_reducible refine N.forkF ?_ | exact N.true | refine N.obl (nd_ren (by first | rfl | exact q_st (cf6 3 5 9 2 ev 7) _ fx fy fa fb fd q _ _ hz1 ⟨hev.1, by show 1 + md ev 6 ≤ 1000000; omega⟩ | exact (q_st (cf6 3 5 9 2 ev 7) _ fx fy fa fb fd q _ _ hz1 ⟨hev.1, by show 1 + md ev 6 ≤ 1000000; omega⟩).symm | (simp only [qN, Int.natCast_zero, Int.zero_mul]; first | done | fail))) ?_ | refine N.obl (.plain (by rfl)) ?_ | refine N.obl (.one (.ptr rfl)) ?_ | refine N.obl (.one (.slice rfl)) ?_ | refine N.obl (ChunkReLe.same (agg_plain (by rfl) (by rfl))) ?_ | fail_if_success skip)
  intro q hq
  have hq1 : q.i ≤ m := hq.1
  have hq4 : q.k ≤ q.i := hq.2.2.2
  have h0 : cf6 3 5 9 2 ev 7 8 ≠ 0 := by show 1 + md ev 6 ≠ 0; omega
  have htm : (q.i : Int).tmod (cf6 3 5 9 2 ev 7 8) = (q.i : Int) % (1 + md ev 6) := Int.tmod_eq_emod_of_nonneg (Int.natCast_nonneg _)
  refine N.go ?_
  refine N.fork (fun hb => ?_) (fun hb => ?_)
  · have hi : q.i < m := by have := of_decide_eq_true hb; omega
    by_cases hd : (q.i : Int) < q.k * (1 + md ev 6)
    · have hz := q_not hq hev.1 hd
      repeat' (refine N.go ?_; first | with_reducible refine N.obl (by decide) ?_ | with_reducible refine N.obl (flat_wi _ _ _) ?_ | with_reducible refine N.obl (flat_lim _ _) ?_ | with_reducible refine N.eq ?_ | with_reducible refine N.obl rfl ?_ | with_reducible refine N.obl ⟨by kernel_rfl, by kernel_rfl⟩ ?_ | with_reducible refine N.alt ?_ | with_reducible refine N.forkT ?_ | with_reducible refine N.forkF ?_ | refine N.call (cConfig 3 5 9 2 ev 7 _) ?_ | fail_if_success skip)
      refine N.go ?_
      refine N.call (cTickN (qN (cf6 3 5 9 2 ev 7) v fx fy fa fb fd q) rfl q.i q.i (by omega) hd 6 _ (by rfl)) ?_
      repeat' (refine N.go ?_; first | with_reducible refine N.obl (by decide) ?_ | with_reducible refine N.obl (flat_wi _ _ _) ?_ | with_reducible refine N.obl (flat_lim _ _) ?_ | with_reducible refine N.eq ?_ | with_reducible refine N.obl rfl ?_ | with_reducible refine N.obl ⟨by kernel_rfl, by kernel_rfl⟩ ?_ | with_reducible refine N.alt ?_ | with_reducible refine N.forkT ?_ | with_reducible refine N.forkF ?_ | refine N.roll 1 ?_ | refine N.obl h0 ?_ | refine N.forkNo (by rw [htm]; exact beq_false_of_ne hz) ?_ | refine N.forkYes (by rw [htm, hz]; rfl) ?_ | refine N.forkNo (by decide) ?_ | refine N.forkYes (by decide) ?_ | fail_if_success skip)
      refine N.go ?_
      refine N.nextR (⟨q.i + 1, q.k, max 0 (min (cf6 3 5 9 2 ev 7 9) 1000)⟩ : QS) [(0, 0), (5, 5), (6, 6), (11, 11)] ⟨q_stay hq hev.1 hi hd _, by show m - (q.i + 1) < m - q.i; omega⟩ ?_
      repeat' (refine N.go ?_; first | with_reducible refine N.obl (by decide) ?_ | with_reducible refine N.obl (flat_wi _ _ _) ?_ | with_reducible refine N.obl (flat_lim _ _) ?_ | with_reducible refine N.eq ?_ | with_reducible refine N.obl rfl ?_ | with_reducible refine N.obl ⟨by kernel_rfl, by kernel_rfl⟩ ?_ | with_reducible refine N.alt ?_ | with_reducible refine N.forkT ?_ | with_reducible refine N.forkF ?_ | refine N.obl (re_eq (int_eq (by rw [i64s _ (by omega) (by omega)]; rfl)) rfl) ?_ | exact N.true | refine N.obl (nd_ren (by first | rfl | exact q_st (cf6 3 5 9 2 ev 7) _ fx fy fa fb fd q _ _ hz1 ⟨hev.1, by show 1 + md ev 6 ≤ 1000000; omega⟩ | exact (q_st (cf6 3 5 9 2 ev 7) _ fx fy fa fb fd q _ _ hz1 ⟨hev.1, by show 1 + md ev 6 ≤ 1000000; omega⟩).symm | (simp only [qN, Int.natCast_zero, Int.zero_mul]; first | done | fail))) ?_ | refine N.obl (.plain (by rfl)) ?_ | refine N.obl (.one (.ptr rfl)) ?_ | refine N.obl (.one (.slice rfl)) ?_ | refine N.obl (ChunkReLe.same (agg_plain (by rfl) (by rfl))) ?_ | fail_if_success skip)
    · obtain ⟨hz1, hz⟩ := q_due hq hev.1 hd
      have hbn : 0 < (qN (cf6 3 5 9 2 ev 7) v fx fy fa fb fd q).bn ∧ (qN (cf6 3 5 9 2 ev 7) v fx fy fa fb fd q).bn < 1000 := by
        have e : cf6 3 5 9 2 ev 7 9 = 8 := by show 1 + md 7 8 = 8; decide
        show 0 < max 0 (min (cf6 3 5 9 2 ev 7 9) 1000) ∧ max 0 (min (cf6 3 5 9 2 ev 7 9) 1000) < 1000
        rw [e]; decide
      have hte : 0 ≤ (qN (cf6 3 5 9 2 ev 7) v fx fy fa fb fd q).te ∧ (qN (cf6 3 5 9 2 ev 7) v fx fy fa fb fd q).te ≤ 1000000 := by
        show 0 ≤ max 1 (min (1 + md ev 6) 1000000) ∧ max 1 (min (1 + md ev 6) 1000000) ≤ 1000000
        omega
      repeat' (refine N.go ?_; first | with_reducible refine N.obl (by decide) ?_ | with_reducible refine N.obl (flat_wi _ _ _) ?_ | with_reducible refine N.obl (flat_lim _ _) ?_ | with_reducible refine N.eq ?_ | with_reducible refine N.obl rfl ?_ | with_reducible refine N.obl ⟨by kernel_rfl, by kernel_rfl⟩ ?_ | with_reducible refine N.alt ?_ | with_reducible refine N.forkT ?_ | with_reducible refine N.forkF ?_ | refine N.call (cConfig 3 5 9 2 ev 7 _) ?_ | fail_if_success skip)
      refine N.go ?_
      cases hv : v with
      | true =>
        rw [hv] at hbn hte
        refine N.callAll (cTickE (qN (cf6 3 5 9 2 ev 7) true fx fy fa fb fd q) rfl rfl q.i q.i (by omega) hd hte hbn (by show 0 ≤ (q.k : Int) ∧ (q.k : Int) < 65535; omega) (by show (0 : Int) ≤ 9 ∧ (9 : Int) ≤ 65535; omega) 6 13 _ (by rfl) (by rfl)) fun v ms hR => ?_
        obtain ⟨κ, hκ, rfl, rfl⟩ := hR
        repeat' (refine N.go ?_; first | with_reducible refine N.obl (by decide) ?_ | with_reducible refine N.obl (flat_wi _ _ _) ?_ | with_reducible refine N.obl (flat_lim _ _) ?_ | with_reducible refine N.eq ?_ | with_reducible refine N.obl rfl ?_ | with_reducible refine N.obl ⟨by kernel_rfl, by kernel_rfl⟩ ?_ | with_reducible refine N.alt ?_ | with_reducible refine N.forkT ?_ | with_reducible refine N.forkF ?_ | refine N.roll 2 ?_ | refine N.idx 0 0 rfl (by decide) ?_ | refine N.forkNo (by simp; first | done | fail) ?_ | refine N.obl h0 ?_ | refine N.forkNo (by rw [htm]; exact beq_false_of_ne hz) ?_ | refine N.forkYes (by rw [htm, hz]; rfl) ?_ | refine N.forkNo (by decide) ?_ | refine N.forkYes (by decide) ?_ | fail_if_success skip)
        refine N.go ?_
        refine N.nextR (⟨q.i + 1, q.k + 1, max 0 (min (cf6 3 5 9 2 ev 7 9) 1000) - 1⟩ : QS) [(0, 0), (5, 5), (6, 6), (11, 11)] ⟨q_next hq hev.1 hi hd _, by show m - (q.i + 1) < m - q.i; omega⟩ ?_
        repeat' (refine N.go ?_; first | with_reducible refine N.obl (by decide) ?_ | with_reducible refine N.obl (flat_wi _ _ _) ?_ | with_reducible refine N.obl (flat_lim _ _) ?_ | with_reducible refine N.eq ?_ | with_reducible refine N.obl rfl ?_ | with_reducible refine N.obl ⟨by kernel_rfl, by kernel_rfl⟩ ?_ | with_reducible refine N.alt ?_ | with_reducible refine N.forkT ?_ | with_reducible refine N.forkF ?_ | refine N.obl (re_eq (int_eq (by rw [i64s _ (by omega) (by omega)]; rfl)) rfl) ?_ | exact N.true | refine N.obl (nd_ren (by first | rfl | exact q_st (cf6 3 5 9 2 ev 7) _ fx fy fa fb fd q _ _ hz1 ⟨hev.1, by show 1 + md ev 6 ≤ 1000000; omega⟩ | exact (q_st (cf6 3 5 9 2 ev 7) _ fx fy fa fb fd q _ _ hz1 ⟨hev.1, by show 1 + md ev 6 ≤ 1000000; omega⟩).symm | (simp only [qN, Int.natCast_zero, Int.zero_mul]; first | done | fail))) ?_ | refine N.obl (.plain (by rfl)) ?_ | refine N.obl (.one (.ptr rfl)) ?_ | refine N.obl (.one (.slice rfl)) ?_ | refine N.obl (ChunkReLe.same (agg_plain (by rfl) (by rfl))) ?_ | fail_if_success skip)
      | false =>
        rw [hv] at hbn hte
        refine N.callAll (cTickB (qN (cf6 3 5 9 2 ev 7) false fx fy fa fb fd q) rfl rfl q.i q.i (by omega) hd hte hbn (by show 0 ≤ (q.k : Int) ∧ (q.k : Int) < 65535; omega) (by show (0 : Int) ≤ 9 ∧ (9 : Int) ≤ 65535; omega) 6 13 _ (by rfl) (by rfl)) fun v ms hR => ?_
        obtain ⟨κ, hκ, rfl, rfl⟩ := hR
        repeat' (refine N.go ?_; first | with_reducible refine N.obl (by decide) ?_ | with_reducible refine N.obl (flat_wi _ _ _) ?_ | with_reducible refine N.obl (flat_lim _ _) ?_ | with_reducible refine N.eq ?_ | with_reducible refine N.obl rfl ?_ | with_reducible refine N.obl ⟨by kernel_rfl, by kernel_rfl⟩ ?_ | with_reducible refine N.alt ?_ | with_reducible refine N.forkT ?_ | with_reducible refine N.forkF ?_ | refine N.roll 2 ?_ | refine N.idx 0 0 rfl (by decide) ?_ | refine N.forkNo (by simp; first | done | fail) ?_ | refine N.obl h0 ?_ | refine N.forkNo (by rw [htm]; exact beq_false_of_ne hz) ?_ | refine N.forkYes (by rw [htm, hz]; rfl) ?_ | refine N.forkNo (by decide) ?_ | refine N.forkYes (by decide) ?_ | fail_if_success skip)
        refine N.go ?_
        refine N.nextR (⟨q.i + 1, q.k + 1, max 0 (min (cf6 3 5 9 2 ev 7 9) 1000) - 1⟩ : QS) [(0, 0), (5, 5), (6, 6), (11, 11)] ⟨q_next hq hev.1 hi hd _, by show m - (q.i + 1) < m - q.i; omega⟩ ?_
        repeat' (refine N.go ?_; first | with_reducible refine N.obl (by decide) ?_ | with_reducible refine N.obl (flat_wi _ _ _) ?_ | with_reducible refine N.obl (flat_lim _ _) ?_ | with_reducible refine N.eq ?_ | with_reducible refine N.obl rfl ?_ | with_reducible refine N.obl ⟨by kernel_rfl, by kernel_rfl⟩ ?_ | with_reducible refine N.alt ?_ | with_reducible refine N.forkT ?_ | with_reducible refine N.forkF ?_ | refine N.obl (re_eq (int_eq (by rw [i64s _ (by omega) (by omega)]; rfl)) rfl) ?_ | exact N.true | refine N.obl (nd_ren (by first | rfl | exact q_st (cf6 3 5 9 2 ev 7) _ fx fy fa fb fd q _ _ hz1 ⟨hev.1, by show 1 + md ev 6 ≤ 1000000; omega⟩ | exact (q_st (cf6 3 5 9 2 ev 7) _ fx fy fa fb fd q _ _ hz1 ⟨hev.1, by show 1 + md ev 6 ≤ 1000000; omega⟩).symm | (simp only [qN, Int.natCast_zero, Int.zero_mul]; first | done | fail))) ?_ | refine N.obl (.plain (by rfl)) ?_ | refine N.obl (.one (.ptr rfl)) ?_ | refine N.obl (.one (.slice rfl)) ?_ | refine N.obl (ChunkReLe.same (agg_plain (by rfl) (by rfl))) ?_ | fail_if_success skip)
  · have hi : q.i = m := by have := of_decide_eq_false hb; omega
    repeat' (refine N.go ?_; first | with_reducible refine N.obl (by decide) ?_ | with_reducible refine N.obl (flat_wi _ _ _) ?_ | with_reducible refine N.obl (flat_lim _ _) ?_ | with_reducible refine N.eq ?_ | with_reducible refine N.obl rfl ?_ | with_reducible refine N.obl ⟨by kernel_rfl, by kernel_rfl⟩ ?_ | with_reducible refine N.alt ?_ | with_reducible refine N.forkT ?_ | with_reducible refine N.forkF ?_ | refine N.call (cConfig 3 5 9 2 ev 7 _) ?_ | fail_if_success skip)
    refine N.go ?_
    refine N.call (cReport0 (qN (cf6 3 5 9 2 ev 7) v fx fy fa fb fd q) rfl 6 _ (by rfl)) ?_
    repeat' (refine N.go ?_; first | with_reducible refine N.obl (by decide) ?_ | with_reducible refine N.obl (flat_wi _ _ _) ?_ | with_reducible refine N.obl (flat_lim _ _) ?_ | with_reducible refine N.eq ?_ | with_reducible refine N.obl rfl ?_ | with_reducible refine N.obl ⟨by kernel_rfl, by kernel_rfl⟩ ?_ | with_reducible refine N.alt ?_ | with_reducible refine N.forkT ?_ | with_reducible refine N.forkF ?_ | refine N.call (cAwakeN _) ?_ | refine N.forkYes (by simp; first | done | fail) ?_ | refine N.bin _ (eq_ell _ _ _ _ _ _ _ _ _ _ _ _) ?_ | refine N.obl h0 ?_ | refine N.forkNo (by rw [htm]; exact beq_false_of_ne hz) ?_ | refine N.forkYes (by rw [htm, hz]; rfl) ?_ | refine N.forkNo (by decide) ?_ | refine N.forkYes (by decide) ?_ | fail_if_success skip)
    all_goals rfl
set_option maxRecDepth 100000 in
set_option maxHeartbeats 2000000 in
theorem walkF (ev n : Int) (x y a b d : Int) (W : World) (hz : ¬ (x = 0 ∧ y = 0 ∧ a = 0 ∧ b = 0 ∧ d = 0)) (hm : ¬ mayP x y a b d) :
    Calls Try.prog 3 #[.int .i64 ev, elV x y a b d, .int .i64 n] W fun e w' => e = .returned (.bool true) ∧ Below W.heap.size W w' := by
  refine calls_pure (G := tys) W tysOK mixed Try.func3 (by rfl) (by rfl) (by rfl) ?_
  repeat' (refine N.go ?_; first | with_reducible refine N.obl (by decide) ?_ | with_reducible refine N.obl (flat_wi _ _ _) ?_ | with_reducible refine N.obl (flat_lim _ _) ?_ | with_reducible refine N.eq ?_ | with_reducible refine N.obl rfl ?_ | with_reducible refine N.obl ⟨by kernel_rfl, by kernel_rfl⟩ ?_ | with_reducible refine N.alt ?_ | with_reducible refine N.forkT ?_ | with_reducible refine N.forkF ?_ | refine N.call (cConfig 3 5 9 2 ev 7 _) ?_ | refine N.call (cNdNewF _ (cf6_ok 3 5 9 2 ev 7) 4 9 (by decide) ⟨by decide, by decide⟩ x y a b d hz hm _) ?_ | refine N.call (cEMay _ _ _ _ _ _) ?_ | refine N.call (cAwakeN _) ?_ | refine N.bin _ (ne_ell _ _ _ _ _ _ _ _ _ _ _ _) ?_ | refine N.forkYes (by rw [z_ell, decide_eq_true_eq]; exact hz) ?_ | refine N.forkYes (by rw [decide_eq_false hm]; rfl) ?_ | refine N.forkYes (by decide) ?_ | fail_if_success skip)
  all_goals rfl
theorem walk (ev n : Int) (x y a b d : Int) (W : World) :
    Calls Try.prog 3 #[.int .i64 ev, elV x y a b d, .int .i64 n] W fun e w' => e = .returned (.bool true) ∧ Below W.heap.size W w' := by
  have hC := cf6_ok 3 5 9 2 ev 7
  have h9 : serOK 9 := ⟨by decide, by decide⟩
  by_cases hm : mayP x y a b d
  · by_cases ho : max 2 (cf6 3 5 9 2 ev 7 10) < a + d
    · exact walkN ev n x y a b d false 0 0 0 0 0 W fun K h hK => cNdNewO _ hC 4 9 (by decide) h9 x y a b d hm ho K h hK
    · exact walkN ev n x y a b d true x y a b d W fun K h hK => cNdNewY _ hC 4 9 (by decide) h9 x y a b d hm ho K h hK
  · by_cases hz : x = 0 ∧ y = 0 ∧ a = 0 ∧ b = 0 ∧ d = 0
    · obtain ⟨rfl, rfl, rfl, rfl, rfl⟩ := hz
      exact walkN ev n 0 0 0 0 0 false 0 0 0 0 0 W fun K h hK => cNdNewZ _ hC 4 9 (by decide) h9 K h hK
    · exact walkF ev n x y a b d W hz hm
set_option maxRecDepth 100000 in
theorem lifted (os : Os) (started : os.Started) (H : Type) (enc : TypeId × Value → H) :
    ReturnsInHanded {} Try.checked os 3 .any (Rows.nodeQuietSpec.pre6 enc Try.prog Try.f3 Rows.nodeQuietRow.domain false) (Rows.nodeQuietSpec.post enc Try.prog Try.f3 false true false false) := by
  refine law_lifted (C := Try.checked) (tb := 4) Try.own started (by kernel_rfl) Try.func3 Try.laidOut (by kernel_rfl) rfl Try.underlying4 rfl
    (fun ds hds => by match ds, hds with | [_, _, _], _ => rfl)
    (ChangeSpec.witness6 (enc := enc) (C := Try.checked) false ⟨#[], #[.int .i64 0, .agg #[.int .i64 0, .int .i64 0, .int .i64 0, .int .i64 0, .int .i64 0], .int .i64 0], []⟩ 8 (by kernel_rfl) (by kernel_rfl) (by kernel_rfl) (by kernel_rfl)) ?_
  intro W base args ds p hval0 hA0 hsz0
  have hval : ∀ (j : Nat) t v, Try.f3.params[j]? = some t → args[j]? = some v → Value.okWide Try.prog W .any base t v := hval0
  have hA : DataW.TrodAll enc Try.prog W 0 (fun _ => true) true Try.f3.params.toList args.toList ds p := hA0
  have hsz : (DataW.weightsEach Try.prog Try.f3.params.toList ds).all (· ≤ reachBytes) = true := hsz0
  rw [Try.params3] at hA hval hsz
  obtain ⟨v0, vs0, d0, ds0, p0, q0, hargs, rfl, rfl, h0, r0⟩ := trodAll_cons hA
  obtain ⟨v1, vs1, d1, ds1, p1, q1, rfl, rfl, rfl, h1, r1⟩ := trodAll_cons r0
  obtain ⟨v2, vs2, d2, ds2, p2, q2, rfl, rfl, rfl, h2, r2⟩ := trodAll_cons r1
  obtain ⟨rfl, rfl, rfl⟩ := trodAll_nil r2
  obtain rfl : args = #[v0, v1, v2] := by cases args; simp_all
  obtain ⟨a0, rfl, rfl, rfl, w0⟩ := open_int Try.underlying3 (hval 0 _ v0 rfl rfl) h0
  obtain ⟨f1_0, f1_1, f1_2, f1_3, f1_4, rfl⟩ := open_e (hval 1 _ v1 rfl rfl) h1
  obtain ⟨a2, rfl, rfl, rfl, w2⟩ := open_int Try.underlying3 (hval 2 _ v2 rfl rfl) h2
  exact walk a0 a2 f1_0 f1_1 f1_2 f1_3 f1_4 W

theorem proved : Rows.NodeQuietSaid :=
  OpenClaim.holds_of_wide 3 Try.f3 rfl rfl rfl rfl rfl rfl rfl ⟨rfl, rfl, rfl, rfl, rfl⟩ rfl rfl rfl rfl rfl (by kernel_rfl) Try.func3 (by kernel_rfl)
    (of_decide_eq_true (by kernel_rfl)) (by unfold Func.isWrapper; rw [if_neg (by decide +kernel)]; exact ⟨rfl, rfl⟩)
    (fun os started H enc _ => lifted os started H enc)
#print axioms proved
end Go.Proofs.Ytcdbanoipidmeaa.nodeQuiet
