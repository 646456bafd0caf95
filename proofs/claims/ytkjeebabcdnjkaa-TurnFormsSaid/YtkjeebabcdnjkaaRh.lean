/-
  The walks of the document's roots: Sqrt, Isqrt.
-/
import Derived.Test.YtkjeebabcdnjkaaRg
import Derived.Test.YtkjeebabcdnjkaaRen
import Derived.Test.YtkjeebabcdnjkaaRoot0
set_option linter.unusedVariables false
set_option linter.unusedSimpArgs false
namespace Go.Proofs.Ytkjeebabcdnjkaa
open Go Go.RowKit Sx

theorem bitn48 {a : Nat} (ha : a < 281474976710656) : bitn a ≤ 48 := by
  unfold bitn
  split
  · omega
  · rename_i h
    have h2 := (two_words (n := a) (by omega)).2
    have h0 : nl a ≠ 0 := fun e => h (nl_zero_iff.1 e)
    rcases (show nl a = 1 ∨ nl a = 2 by omega) with e | e
    · rw [e]
      have := bn_le 32 (lm a 0) (lm_lt a 0)
      show 32 * 0 + bn (lm a 0) ≤ 48
      omega
    · rw [e]
      have h3 : lm a 1 < 2 ^ 16 := by
        have h4 := up_word a 1
        have h5 : a < bw 2 := by rw [← e]; exact nl_self a
        rw [Nat.div_eq_of_lt h5, Nat.zero_mul, Nat.zero_add, bw_one] at h4
        omega
      have := bn_le 16 (lm a 1) h3
      show 32 * 1 + bn (lm a 1) ≤ 48
      omega
theorem cLeftE (n i K : Nat) (z : Int) (hz : z = (n : Int)) (o : Chunk) (h : List (Option Chunk)) (hi : h[i]? = some (some o)) (hin : IsNum o 1 1) (hn : n < 32) (h0 : h[K]? = some none) :
    CallOK Try.prog 37 [.slice (some ⟨i, 0, some 0⟩) 1 1, .int .i64 z] h (.slice (some ⟨K, 0, some 0⟩) (nl (2 ^ n)) 2) [(K, numC true 2 (2 ^ n))] [i] := by
  subst hz; exact cLeft n i K o h hi hin hn h0
theorem nl_wd {b : Nat} (h0 : 1 ≤ b) (h1 : b < 4294967296) : nl b = 1 := nl_eq (by rw [bw_one]; exact h1) (by rw [bw_zero]; exact h0)
theorem big_ren {ix : List (Nat × Nat)} {o a b : Bool} {k l c : Nat} (h : ixK ix k = some k) : ChunkReLe ix ⟨o, 3, [(0, 3, .agg #[.bool a, .bool b, .slice (some ⟨k, 0, some 0⟩) l c])]⟩ ⟨o, 3, [(0, 3, .agg #[.bool a, .bool b, .slice (some ⟨k, 0, some 0⟩) l c])]⟩ := ⟨id, Nat.le_refl _, fun j hj => by
  match j, hj with
  | 0, _ => exact Re1.plain rfl
  | 1, _ => exact Re1.plain rfl
  | 2, _ => exact Re1.slice h⟩
theorem num_ren {ix : List (Nat × Nat)} {o : Bool} {m m' v : Nat} (h : m ≤ m') : ChunkReLe ix (numC o m v) (numC o m' v) := ⟨id, h, fun j hj => by
  have hj : j < m := hj
  rw [seg_cell hj, seg_cell (Nat.lt_of_lt_of_le hj h)]; exact .plain rfl⟩
theorem re_slc {ix : List (Nat × Nat)} {i k l c c' : Nat} (h : ixK ix k = some i) (e : c = c') : Re ix (.slice (some ⟨i, 0, some 0⟩) l c) (.slice (some ⟨k, 0, some 0⟩) l c') := by subst e; exact .one (.slice h)
/-- Ahead of a loop some slots are forgotten. -/
theorem N.loopD {P : Program} {G : Tys} {n0 : Nat} {c : Code} {A : (Exit → St → Prop) → St → Prop} {Q : Exit → St → Prop} {t : List (Option Value)} {h : List (Option Chunk)} (mk : Nat) (hw : updK mk [] t 0 fun t' => wkK n0 ⟨t, h⟩ ⟨t', h⟩ (N True)) (k : updK mk [] t 0 fun t' => N (LoopN P G n0 c A Q ⟨t', h⟩)) : N (LoopN P G n0 c A Q ⟨t, h⟩) := by
  have h1 := (wk_out (updK_iff.1 hw)).1
  obtain ⟨α, mk', inv, μ, nx, p1, ⟨x, p2, p3⟩, p4⟩ := (updK_iff.1 k).out
  exact N.mk ⟨α, mk', inv, μ, nx, p1, ⟨x, p2, fun X ρ a w hn R => p3 X ρ a w hn (by subst hn; exact h1.rel R)⟩, p4⟩
structure SqS where
  X : Nat
  m : Nat
def sqOK (a : Nat) (q : SqS) : Prop := 1 ≤ q.X ∧ q.X ≤ 33554432 ∧ isq a ≤ q.X ∧ (q.m = 1 ∨ (q.m = 2 ∧ a < q.X * q.X))
set_option maxRecDepth 100000 in
set_option maxHeartbeats 2000000 in
theorem cRSqrt (a m i K : Nat) (o : Chunk) (h : List (Option Chunk)) (hi : h[i]? = some (some o)) (hin : IsNum o m a) (hl : nl a ≤ m) (hm : m ≤ 20) (ha : 1 ≤ a ∧ a < 281474976710656) (h0 : h[K]? = some none) :
    CallOK Try.prog 32 [.agg #[.bool false, .bool false, .slice (some ⟨i, 0, some 0⟩) (nl a) m]] h (.tuple #[.agg #[.bool false, .bool false, .slice (some ⟨K, 0, some 0⟩) (nl (isq a)) 1], .int .i64 0]) [(K, numC true 1 (isq a))] [i] := by
  have hna : nl a ≠ 0 := fun e => by have := nl_zero_iff.1 e; omega
  have hb48 := bitn48 ha.2
  have hn : IntKind.i64.wrap (IntKind.i64.wrap (((bitn a : Nat) : Int).tdiv 2) + 1) = ((bitn a / 2 + 1 : Nat) : Int) := by
    rw [Int.tdiv_eq_ediv_of_nonneg (by omega), i64n (_ / 2) (by omega) (by omega), i64n _ (by omega) (by omega)]; omega
  have hx0 : 2 ^ (bitn a / 2 + 1) ≤ 33554432 := Nat.pow_le_pow_right (n := 2) (by decide) (show bitn a / 2 + 1 ≤ 25 by omega)
  have hx1 : 1 ≤ 2 ^ (bitn a / 2 + 1) := Nat.pow_pos (by decide)
  have hx2 : a < 2 ^ (bitn a / 2 + 1) * 2 ^ (bitn a / 2 + 1) := by
    rw [← Nat.pow_add]
    exact Nat.lt_of_lt_of_le (bitn_self a) (Nat.pow_le_pow_right (by decide) (by omega))
  have hx3 : isq a ≤ 2 ^ (bitn a / 2 + 1) := Nat.le_of_lt (isq_below hx2)
  refine call_sub (G := tys) [⟨i, _, numC false m a, ⟨false, 0, []⟩⟩] [⟨K, 8, numC true 1 (isq a)⟩] [.agg #[.bool false, .bool false, .slice (some ⟨0, 0, some 0⟩) (nl a) m]] tysOK mixed Try.func32 (by rfl) (Try.call32) ⟨hi, trivial⟩ ⟨⟨fun h => (by cases h), Nat.le_of_eq hin.1.symm, num_re hin⟩, trivial⟩ (by simp [Apart]) ⟨⟨h0, rfl, by show 0 < 1; decide, by simp⟩, trivial⟩ ⟨.agg ⟨.plain rfl, .plain rfl, .slice rfl, trivial⟩, trivial⟩ ?_
  repeat' (refine N.go ?_; first | with_reducible refine N.obl (by decide) ?_ | with_reducible refine N.obl (flat_wi _ _ _) ?_ | with_reducible refine N.obl (flat_lim _ _) ?_ | with_reducible refine N.eq ?_ | with_reducible refine N.obl rfl ?_ | with_reducible refine N.obl ⟨by kernel_rfl, by kernel_rfl⟩ ?_ | with_reducible refine N.forkT ?_ | with_reducible refine N.forkF ?_ | refine N.call (cBits32 a m _ _ _ (by rfl) (isNum _ _ _) hl (by omega)) ?_ | refine N.call (cLeftE (bitn a / 2 + 1) _ 8 _ hn _ _ (by rfl) (isNum1 (by decide)) (by omega) (by rfl)) ?_ | refine N.forkNo (by rw [beq_eq_false_iff_ne]; omega) ?_ | refine N.forkNo (by decide) ?_ | refine N.forkYes (by decide) ?_ | fail_if_success skip)
  refine N.go ?_
  refine N.loopD 67108864 ?_ ?_
  · repeat (refine N.go ?_; first | exact N.true | with_reducible refine N.obl rfl ?_ | with_reducible refine N.obl (ChunkLe.refl _) ?_ | refine N.obl (int_i64 (by rw [IntWalk.i64_in _ (by omega)]; rfl)) ?_ |  fail_if_success skip)
  refine N.go ?_
  refine N.loopR (α := SqS) (sqOK a) (fun q => q.X) (fun q => [(4, .slice (some ⟨8, 0, some 0⟩) (nl q.X) q.m)]) (fun q => [(8, numC true q.m q.X)]) ⟨2 ^ (bitn a / 2 + 1), 2⟩ [(0, 0), (1, 1), (2, 2), (3, 3), (8, 8)] ⟨hx1, hx0, hx3, .inr ⟨rfl, hx2⟩⟩ ?_ ?_
  · repeat' (refine N.go ?_; first | exact N.true | refine N.obl (.plain (by rfl)) ?_ | refine N.obl (.one (.ptr rfl)) ?_ | refine N.obl (.one (.slice rfl)) ?_ | refine N.obl (.one (.agg ⟨.plain rfl, .plain rfl, .slice rfl, trivial⟩)) ?_ | refine N.obl (ChunkReLe.same (agg_plain (by rfl) (by rfl))) ?_ | refine N.obl (big_ren rfl) ?_ | refine N.obl (num_ren (Nat.le_refl _)) ?_ | refine N.obl (num_ren (Nat.le_of_eq nX.symm)) ?_ | refine N.obl (num_ren (Nat.le_of_eq nS.symm)) ?_ | fail_if_success skip)
  · intro q hq
    obtain ⟨X, mx⟩ := q
    obtain ⟨q1, q2, q3, q4⟩ := hq
    have q1 : 1 ≤ X := q1
    have q2 : X ≤ 33554432 := q2
    have q3 : isq a ≤ X := q3
    have q4 : mx = 1 ∨ (mx = 2 ∧ a < X * X) := q4
    have hmx : 1 ≤ mx ∧ mx ≤ 2 := by omega
    have nX : nl X = 1 := nl_wd q1 (by omega)
    have hg := newton_ge a X q1
    have he := newton_end a X q1 q3
    rcases Nat.lt_or_ge a X with hlt | hge
    · have hz : a / X = 0 := Nat.div_eq_of_lt hlt
      rw [hz, Nat.add_zero] at hg he
      have hy0 : 0 < isq a := isq_pos ha.1
      have nY : nl (X / 2) = 1 := nl_wd (by omega) (by omega)
      by_cases hc : X ≤ X / 2
      · omega
      · have hcm : cmpN (X / 2) X = -1 := by unfold cmpN; rw [if_pos (by omega)]
        repeat' (refine N.go ?_; first | with_reducible refine N.obl (by decide) ?_ | with_reducible refine N.obl (flat_wi _ _ _) ?_ | with_reducible refine N.obl (flat_lim _ _) ?_ | with_reducible refine N.eq ?_ | with_reducible refine N.obl rfl ?_ | with_reducible refine N.obl ⟨by kernel_rfl, by kernel_rfl⟩ ?_ | with_reducible refine N.forkT ?_ | with_reducible refine N.forkF ?_ | refine N.call (cQuoLt a X m mx _ _ _ _ _ (by rfl) (isNum _ _ _) (by rfl) (isNum _ _ _) hl (by omega) (by omega) (by omega) hlt) ?_ | refine N.call (cPlusX X mx _ 9 _ _ (by rfl) (isNum _ _ _) (by omega) (by omega) (by rfl)) ?_ | refine N.call (cRight X (nl X + 1) _ 13 _ _ (by rfl) (isNum _ _ _) (by omega) (by omega) (by omega) (by rfl)) ?_ | refine N.call (cCmp (X / 2) X (nl X) mx _ _ _ _ _ (by rfl) (isNum _ _ _) (by rfl) (isNum _ _ _) (by omega) (by omega) (by omega) (by omega)) ?_ | refine N.forkNo (by rw [hcm]; decide) ?_ | refine N.forkNo (by decide) ?_ | refine N.forkYes (by decide) ?_ | fail_if_success skip)
        refine N.go ?_
        refine N.nextR (α := SqS) ⟨X / 2, 1⟩ [(0, 0), (1, 1), (2, 2), (3, 3), (13, 8)] ⟨⟨by show 1 ≤ X / 2; omega, by show X / 2 ≤ 33554432; omega, hg, .inl rfl⟩, by show X / 2 < X; omega⟩ ?_
        repeat' (refine N.go ?_; first | exact N.true | refine N.obl (.plain (by rfl)) ?_ | refine N.obl (.one (.ptr rfl)) ?_ | refine N.obl (re_slc rfl (by first | exact nX.symm | exact nS.symm)) ?_ | refine N.obl (.one (.slice rfl)) ?_ | refine N.obl (.one (.agg ⟨.plain rfl, .plain rfl, .slice rfl, trivial⟩)) ?_ | refine N.obl (ChunkReLe.same (agg_plain (by rfl) (by rfl))) ?_ | refine N.obl (big_ren rfl) ?_ | refine N.obl (num_ren (Nat.le_refl _)) ?_ | refine N.obl (num_ren (Nat.le_of_eq nX.symm)) ?_ | refine N.obl (num_ren (Nat.le_of_eq nS.symm)) ?_ | fail_if_success skip)
    · have hq : a / X ≤ isq a + 2 := by
        have h1 := isq_lt a
        have h2 : a < (isq a + 3) * X := by
          refine Nat.lt_of_lt_of_le h1 ?_
          rcases Nat.eq_or_lt_of_le q3 with e | e
          · rw [← e]
            generalize isq a = r at *
            have e3 : (r + 1) * (r + 1) = r * r + r + r + 1 := by rw [Nat.add_mul, Nat.mul_add]; omega
            have e4 : (r + 3) * r = r * r + 3 * r := Nat.add_mul _ _ _
            omega
          · exact Nat.mul_le_mul (by omega) (by omega)
        have := (Nat.div_lt_iff_lt_mul (by omega : 0 < X)).2 h2
        omega
      have hS : X + a / X < 4294967296 := by omega
      have hq1 : 1 ≤ a / X := Nat.div_pos hge (by omega)
      have nQ : nl (a / X) = 1 := nl_wd hq1 (by omega)
      have nS : nl (X + a / X) = 1 := nl_wd (by omega) hS
      have hy0 : 0 < isq a := isq_pos ha.1
      have nY : nl ((X + a / X) / 2) = 1 := nl_wd (by omega) (by omega)
      by_cases hc : X ≤ (X + a / X) / 2
      · have hX := he hc
        have hm1 : mx = 1 := by
          rcases q4 with e | ⟨_, e⟩
          · exact e
          · exfalso
            have := (Nat.div_lt_iff_lt_mul (by omega : 0 < X)).2 e
            omega
        subst hm1
        have hcm : (0 : Int) ≤ cmpN ((X + a / X) / 2) X := by unfold cmpN; rw [if_neg (by omega)]; split <;> decide
        repeat' (refine N.go ?_; first | with_reducible refine N.obl (by decide) ?_ | with_reducible refine N.obl (flat_wi _ _ _) ?_ | with_reducible refine N.obl (flat_lim _ _) ?_ | with_reducible refine N.eq ?_ | with_reducible refine N.obl rfl ?_ | with_reducible refine N.obl ⟨by kernel_rfl, by kernel_rfl⟩ ?_ | with_reducible refine N.forkT ?_ | with_reducible refine N.forkF ?_ | refine N.call (cQuo a X m 1 _ _ 12 13 _ _ _ (by rfl) (isNum _ _ _) (by rfl) (isNum _ _ _) hl (by omega) nX (by omega) hge (by rfl) (by rfl) (by decide)) ?_ | refine N.call (cPlus X (a / X) 1 (nl a) _ _ 14 _ _ _ (by rfl) (isNum _ _ _) (by rfl) (isNum _ _ _) (by omega) (by omega) (by omega) ⟨by omega, by omega⟩ (by rfl)) ?_ | refine N.call (cRight (X + a / X) (nl X + 1) _ 18 _ _ (by rfl) (isNum _ _ _) (by omega) (by omega) (by omega) (by rfl)) ?_ | refine N.call (cCmp ((X + a / X) / 2) X (nl (X + a / X)) 1 _ _ _ _ _ (by rfl) (isNum _ _ _) (by rfl) (isNum _ _ _) (by omega) (by omega) (by omega) (by omega)) ?_ | refine N.forkYes (by rw [decide_eq_true_eq]; omega) ?_ | refine N.call (cMade32 X 1 (nl X) _ false false rfl _ _ (by rfl) (isNum _ _ _) (by omega) (by omega) (nl_self _)) ?_ | refine N.obl (by rw [hX]; exact .tuple ⟨.agg ⟨.plain (by rfl), .plain rfl, .slice (by rfl), trivial⟩, .plain rfl, trivial⟩) ?_ | refine N.obl ⟨⟨by show 1 ≤ 8; decide, post_num (by rfl) rfl (by rw [hX]; exact isNum _ _ _)⟩, trivial⟩ ?_ | refine N.forkNo (by decide) ?_ | refine N.forkYes (by decide) ?_ | refine N.obl trivial ?_ | exact N.true | fail_if_success skip)
      · have hcm : cmpN ((X + a / X) / 2) X = -1 := by unfold cmpN; rw [if_pos (by omega)]
        repeat' (refine N.go ?_; first | with_reducible refine N.obl (by decide) ?_ | with_reducible refine N.obl (flat_wi _ _ _) ?_ | with_reducible refine N.obl (flat_lim _ _) ?_ | with_reducible refine N.eq ?_ | with_reducible refine N.obl rfl ?_ | with_reducible refine N.obl ⟨by kernel_rfl, by kernel_rfl⟩ ?_ | with_reducible refine N.forkT ?_ | with_reducible refine N.forkF ?_ | refine N.call (cQuo a X m mx _ _ 12 13 _ _ _ (by rfl) (isNum _ _ _) (by rfl) (isNum _ _ _) hl (by omega) nX (by omega) hge (by rfl) (by rfl) (by decide)) ?_ | refine N.call (cPlus X (a / X) mx (nl a) _ _ 14 _ _ _ (by rfl) (isNum _ _ _) (by rfl) (isNum _ _ _) (by omega) (by omega) (by omega) ⟨by omega, by omega⟩ (by rfl)) ?_ | refine N.call (cRight (X + a / X) (nl X + 1) _ 18 _ _ (by rfl) (isNum _ _ _) (by omega) (by omega) (by omega) (by rfl)) ?_ | refine N.call (cCmp ((X + a / X) / 2) X (nl (X + a / X)) mx _ _ _ _ _ (by rfl) (isNum _ _ _) (by rfl) (isNum _ _ _) (by omega) (by omega) (by omega) (by omega)) ?_ | refine N.forkNo (by rw [hcm]; decide) ?_ | refine N.forkNo (by decide) ?_ | refine N.forkYes (by decide) ?_ | fail_if_success skip)
        refine N.go ?_
        refine N.nextR (α := SqS) ⟨(X + a / X) / 2, 1⟩ [(0, 0), (1, 1), (2, 2), (3, 3), (18, 8)] ⟨⟨by show 1 ≤ (X + a / X) / 2; omega, by show (X + a / X) / 2 ≤ 33554432; omega, hg, .inl rfl⟩, by show (X + a / X) / 2 < X; omega⟩ ?_
        repeat' (refine N.go ?_; first | exact N.true | refine N.obl (.plain (by rfl)) ?_ | refine N.obl (.one (.ptr rfl)) ?_ | refine N.obl (re_slc rfl (by first | exact nX.symm | exact nS.symm)) ?_ | refine N.obl (.one (.slice rfl)) ?_ | refine N.obl (.one (.agg ⟨.plain rfl, .plain rfl, .slice rfl, trivial⟩)) ?_ | refine N.obl (ChunkReLe.same (agg_plain (by rfl) (by rfl))) ?_ | refine N.obl (big_ren rfl) ?_ | refine N.obl (num_ren (Nat.le_refl _)) ?_ | refine N.obl (num_ren (Nat.le_of_eq nX.symm)) ?_ | refine N.obl (num_ren (Nat.le_of_eq nS.symm)) ?_ | fail_if_success skip)
set_option maxRecDepth 100000 in
set_option maxHeartbeats 2000000 in
theorem isqrt_x (n : Nat) (hn : 1 ≤ n ∧ n < 281474976710656) (w : World) : Calls Try.prog 28 #[.int .i64 (n : Int)] w fun e w' => e = .returned (.int .i64 ((isq n : Nat) : Int)) ∧ Below w.heap.size w w' := by
  have h1 : isq n < 16777217 := isq_below (by omega)
  have h2 := (two_words (n := n) (by omega)).2
  have h3 : nl (isq n) = 1 := nl_wd (isq_pos hn.1) (by omega)
  refine calls_pure (G := tys) w tysOK mixed Try.func28 (by rfl) (by rfl) (by rfl) ?_
  repeat' (refine N.go ?_; first | with_reducible refine N.obl (by decide) ?_ | with_reducible refine N.obl (flat_wi _ _ _) ?_ | with_reducible refine N.obl (flat_lim _ _) ?_ | with_reducible refine N.eq ?_ | with_reducible refine N.obl rfl ?_ | with_reducible refine N.obl ⟨by kernel_rfl, by kernel_rfl⟩ ?_ | with_reducible refine N.forkT ?_ | with_reducible refine N.forkF ?_ | refine N.call (cROf n 0 _ (by rfl) (by omega)) ?_ | refine N.call (cRSqrt n 2 _ 4 _ _ (by rfl) (isNum _ _ _) h2 (by omega) hn (by rfl)) ?_ | refine N.call (cRI64 (isq n) 1 _ _ _ (by rfl) (isNum _ _ _) (by omega) (by omega) (by omega)) ?_ | refine N.forkNo (by decide) ?_ | refine N.forkYes (by decide) ?_ | refine N.forkYes (by rw [decide_eq_true_eq]; omega) ?_ | refine N.forkNo (by rw [decide_eq_false_iff_not]; omega) ?_ | fail_if_success skip)
  all_goals rfl
set_option maxRecDepth 100000 in
theorem isqrt0_x (w : World) : Calls Try.prog 28 #[.int .i64 ((0 : Nat) : Int)] w fun e w' => e = .returned (.int .i64 ((isq 0 : Nat) : Int)) ∧ Below w.heap.size w w' := by
  refine calls_pure (G := tys) w tysOK mixed Try.func28 (by rfl) (by rfl) (by rfl) ?_
  repeat' (refine N.go ?_; first | with_reducible refine N.obl (by decide) ?_ | with_reducible refine N.obl (flat_wi _ _ _) ?_ | with_reducible refine N.obl (flat_lim _ _) ?_ | with_reducible refine N.eq ?_ | with_reducible refine N.obl rfl ?_ | with_reducible refine N.obl ⟨by kernel_rfl, by kernel_rfl⟩ ?_ | with_reducible refine N.forkT ?_ | with_reducible refine N.forkF ?_ | refine N.forkNo (by decide) ?_ | refine N.forkYes (by decide) ?_ | fail_if_success skip)
  all_goals rfl
theorem cIsqrt (n : Int) (h : List (Option Chunk)) (hn : 0 ≤ n ∧ n < 281474976710656) : CallOK Try.prog 28 [.int .i64 n] h (.int .i64 ((isq n.toNat : Nat) : Int)) [] [] := by
  obtain ⟨k, rfl⟩ := Int.eq_ofNat_of_zero_le hn.1
  rw [Int.toNat_natCast]
  rcases Nat.eq_zero_or_pos k with rfl | hp
  · exact call_pure (by rfl) (by rfl) (Try.call28 _) (fun w => isqrt0_x w)
  · exact call_pure (by rfl) (by rfl) (Try.call28 _) (fun w => isqrt_x k ⟨hp, by omega⟩ w)
end Go.Proofs.Ytkjeebabcdnjkaa
