/-
  The statement TruthClocks: for every input the law returns true.
-/
import Derived.Test.YtfpmmahonddpoaaTr9
set_option linter.unusedVariables false
set_option linter.unusedSimpArgs false
namespace Go.Proofs.Ytfpmmahonddpoaa.truthClocks
open Go Go.ChangeShapes Go.WideShapes Go.ChangeAt Go.RowKit Sx

theorem spans (dr m o g d : Int) (hm : 0 ≤ m ∧ m ≤ 1000) (hdr : -m ≤ dr ∧ dr ≤ m) (hg : 0 ≤ g ∧ g < 35184372088832) (hd : 0 ≤ d ∧ d < 35184372088832) :
    ((0 ≤ fineN dr o (g + d) - fineN dr o g ∧ fineN dr o (g + d) - fineN dr o g ≤ 70368744177664) ∧ (o ≤ fineN dr o g ∧ fineN dr o g ≤ o + 70368744177664 ∧ fineN dr o (g + d) ≤ o + 140737488355328)) ∧ spLo (fineN dr o (g + d) - fineN dr o g) m ≤ d ∧ d ≤ spHi (fineN dr o (g + d) - fineN dr o g) m := by
  unfold fineN spLo spHi
  have a1 := Int.ediv_mul_le (g * (1000000 + dr)) (by decide : (1000000 : Int) ≠ 0)
  have a2 := Int.lt_ediv_add_one_mul_self (g * (1000000 + dr)) (by decide : (0 : Int) < 1000000)
  have b1 := Int.ediv_mul_le ((g + d) * (1000000 + dr)) (by decide : (1000000 : Int) ≠ 0)
  have b2 := Int.lt_ediv_add_one_mul_self ((g + d) * (1000000 + dr)) (by decide : (0 : Int) < 1000000)
  have c0 : 0 ≤ d * (1000000 + dr) := Int.mul_nonneg (by omega) (by omega)
  have c1 : 0 ≤ g * (1000000 + dr) := Int.mul_nonneg (by omega) (by omega)
  have c2 : d * (1000000 + dr) ≤ 35184372088832 * 1001000 := Int.mul_le_mul (by omega) (by omega) (by omega) (by omega)
  have c3 : g * (1000000 + dr) ≤ 35184372088832 * 1001000 := Int.mul_le_mul (by omega) (by omega) (by omega) (by omega)
  have c4 : d * (1000000 + dr) ≤ d * (1000000 + m) := Int.mul_le_mul_of_nonneg_left (by omega) hd.1
  have c5 : d * (1000000 - m) ≤ d * (1000000 + dr) := Int.mul_le_mul_of_nonneg_left (by omega) hd.1
  have e : (g + d) * (1000000 + dr) = g * (1000000 + dr) + d * (1000000 + dr) := Int.add_mul _ _ _
  rw [e] at b1 b2 ⊢
  generalize g * (1000000 + dr) / 1000000 = A at *
  generalize (g * (1000000 + dr) + d * (1000000 + dr)) / 1000000 = B at *
  have hlo : (max 0 (B + o - (A + o) - 1)) * 1000000 ≤ d * (1000000 + m) := by omega
  have hhi : -((B + o - (A + o) + 1) * 1000000) ≤ -d * (1000000 - m) := by rw [Int.neg_mul]; omega
  refine ⟨⟨⟨by omega, by omega⟩, by omega, by omega, by omega⟩, (quot_le d (Int.mul_nonneg (by omega) (by omega)) (by omega) hlo).2, ?_⟩
  have := Int.ediv_le_of_le_mul (by omega : 0 < 1000000 - m) hhi
  omega
structure LS where
  x : Nat
  tm : Int
  st : Int
  last : Int
def lsOK (q : LS) : Prop := 0 ≤ q.st ∧ q.st ≤ q.x ∧ 0 ≤ q.tm ∧ q.tm ≤ q.x ∧ q.x ≤ 40 ∧ q.last ≤ q.tm * 16777216 + q.st ∧ -1 ≤ q.last
theorem loc_in (s t m : Int) (hm : 0 ≤ m ∧ m ≤ 100) (hs : -m ≤ s ∧ s ≤ m) (ht : 0 ≤ t ∧ t ≤ 900000) : locN s t - t ≤ m ∧ -m ≤ locN s t - t ∧ 0 ≤ locN s t ∧ locN s t ≤ 1000000 := by
  unfold locN; omega
theorem quo (a b : Int) (ha : 0 ≤ a) (hb : 0 ≤ b ∧ b < 16777216) : (a * 16777216 + b).tdiv 16777216 = a := by
  rw [Int.tdiv_eq_ediv_of_nonneg (by omega)]; omega
theorem cStepK (c : Nat → Int) (n cap i j k : Nat) (P : Nat → Int) (M : Nat → Bool) (tm st : Int) (o2 o3 : Bool) (h : List (Option Chunk)) (hi : h[i]? = some (some (wcc true c n cap j k tm st))) (hj : h[j]? = some (some (ptP o2 n P))) (hk : h[k]? = some (some (mvP o3 n M))) (hij : i ≠ j) (hik : i ≠ k) (ht : 0 ≤ tm ∧ tm ≤ 1000000) (hst : 0 ≤ st ∧ st ≤ 16777000) :
    CallOK Try.prog 17 [.pointer (some ⟨i, 0, some 0⟩)] h (.int .i64 (tm * 16777216 + (st + 1))) [(i, wcc true c n cap j k tm (st + 1))] [j, k] := by
  have H := cStep c n cap i j k P M tm st o2 o3 h hi hj hk hij hik ht (by omega)
  rw [show min (st + 1) 16777215 = st + 1 from by omega] at H
  exact H
theorem rtime_x (x : Int) (hx : 0 ≤ x ∧ x ≤ 1000000) (w : World) : Calls Try.prog 21 #[.int .i64 x] w fun e w' => e = .returned (.bool true) ∧ Below w.heap.size w w' := by
  refine calls_pure (G := tys) w tysOK mixed Try.func21 (by rfl) (by first | rfl | (simp only [List.all_cons, List.all_nil, plain_wz, plain_lim, plain_wi]; rfl)) (by first | exact plain3_wz _ | exact plain3_wi _ _ _ | rfl | (simp only [plain3, List.all_cons, List.all_nil, plain_wz, plain_lim, plain_wi]; rfl)) ?_
  repeat' (refine N.go ?_; first | with_reducible refine N.obl (by decide) ?_ | with_reducible refine N.obl (flat_wi _ _ _) ?_ | with_reducible refine N.obl (flat_lim _ _) ?_ | with_reducible refine N.eq ?_ | with_reducible refine N.obl rfl ?_ | with_reducible refine N.obl ⟨by kernel_rfl, by kernel_rfl⟩ ?_ | with_reducible refine N.forkT ?_ | with_reducible refine N.forkF ?_ | refine N.forkNo (by decide) ?_ | refine N.forkYes (by decide) ?_ | refine N.forkYes (by rw [decide_eq_true_eq]; omega) ?_)
  all_goals (congr 1; rw [decide_eq_true_eq]; omega)
theorem cRTime (x : Int) (h : List (Option Chunk)) (hx : 0 ≤ x ∧ x ≤ 1000000) : CallOK Try.prog 21 [.int .i64 x] h (.bool true) [] [] := call_pure rfl rfl (Try.call21 _) (rtime_x x hx)
theorem cTFineK (c : Nat → Int) (n cap i j k : Nat) (P : Nat → Int) (M : Nat → Bool) (tm st : Int) (o1 o2 o3 : Bool) (p : Nat) (g : Int) (h : List (Option Chunk)) (hi : h[i]? = some (some (wcc o1 c n cap j k tm st))) (hj : h[j]? = some (some (ptP o2 n P))) (hk : h[k]? = some (some (mvP o3 n M))) (hp : p < n) (h64 : n ≤ 64) (hs : 0 ≤ c 5 ∧ c 5 ≤ 1000) (hg : 0 ≤ g ∧ g < 17592186044416) :
    CallOK Try.prog 19 [.pointer (some ⟨i, 0, some 0⟩), .int .i64 (p : Int), .int .i64 g] h (.int .i64 (fineN (offN p 13 (c 5)) (12345 * (p : Int)) g)) [] [i, j, k] := by
  have H := cTFineY c n cap i j k P M tm st o1 o2 o3 p g h hi hj hk hp h64 hs
  have hd := offN_in p 13 (c 5) hs.1
  rw [i64s (12345 * (p : Int)) (by omega) (by omega), if_pos ⟨⟨by omega, by omega⟩, ⟨by omega, by omega⟩, by omega, by omega⟩] at H
  exact H
theorem cSpanK (a a' b : Int) (h : List (Option Chunk)) (hc : a' = a) (ho : spanOK a b) : CallOK Try.prog 20 [.int .i64 a', .int .i64 b] h (.tuple #[.int .i64 (spLo a b), .int .i64 (spHi a b), .int .i64 0]) [] [] := by
  subst hc
  have H := cSpan a' b h
  unfold spanV at H
  rw [if_pos ho, if_pos ho, if_pos ho] at H
  exact H
set_option maxRecDepth 100000 in
set_option maxHeartbeats 2000000 in
theorem walk (c : Nat → Int) (m i a b : Int) (w : World) :
    Calls Try.prog 7 #[cfgV c, .int .i64 m, .int .i64 i, .int .i64 a, .int .i64 b] w fun e w' => e = .returned (.bool true) ∧ Below w.heap.size w w' := by
  by_cases hc : mayC c
  · obtain ⟨n, hn⟩ := Int.eq_ofNat_of_zero_le (show 0 ≤ c 0 by have := hc.1; omega)
    have hn1 : 1 ≤ n ∧ n ≤ 64 := by have := hc.1; omega
    refine calls_pure (G := tys) w tysOK mixed Try.func7 (by rfl) (by rfl) (by rfl) ?_
    repeat' (refine N.go ?_; first | with_reducible refine N.obl (by decide) ?_ | with_reducible refine N.obl (flat_wi _ _ _) ?_ | with_reducible refine N.obl (flat_lim _ _) ?_ | with_reducible refine N.eq ?_ | with_reducible refine N.obl rfl ?_ | with_reducible refine N.obl ⟨by kernel_rfl, by kernel_rfl⟩ ?_ | with_reducible refine N.forkT ?_ | with_reducible refine N.forkF ?_ | fail_if_success skip)
    refine N.go ?_
    refine N.callAll (cNewW c 2 n _ hc hn rfl rfl rfl) fun v ms hR => ?_
    obtain ⟨s, ⟨hs1, hs2⟩, rfl, rfl⟩ := hR
    repeat' (refine N.go ?_; first | with_reducible refine N.obl (by decide) ?_ | with_reducible refine N.obl (flat_wi _ _ _) ?_ | with_reducible refine N.obl (flat_lim _ _) ?_ | with_reducible refine N.eq ?_ | with_reducible refine N.obl rfl ?_ | with_reducible refine N.obl ⟨by kernel_rfl, by kernel_rfl⟩ ?_ | with_reducible refine N.forkT ?_ | with_reducible refine N.forkF ?_ | refine N.obl (by rw [hn]; simp only [IntKind.wrap_i64, IntKind.wrap_u64]; omega) ?_ | fail_if_success skip)
    refine N.go ?_
    obtain ⟨p, hp, hpn⟩ : ∃ p : Nat, IntKind.i64.wrap ((IntKind.u64.wrap i).tmod (IntKind.u64.wrap (c 0))) = (p : Int) ∧ p < n := by
      have h := u64mod i n (by omega) (by omega)
      have e : IntKind.u64.wrap (c 0) = n := by rw [IntKind.wrap_u64]; omega
      rw [e]
      exact ⟨(IntKind.i64.wrap ((IntKind.u64.wrap i).tmod n)).toNat, by omega, by omega⟩
    generalize IntKind.i64.wrap ((IntKind.u64.wrap i).tmod (IntKind.u64.wrap (c 0))) = z at hp ⊢
    subst hp
    have ha := u64mod a 17592186044416 (by decide) (by decide)
    have hb := u64mod b 17592186044416 (by decide) (by decide)
    generalize IntKind.i64.wrap ((IntKind.u64.wrap a).tmod 17592186044416) = a1 at ha ⊢
    generalize IntKind.i64.wrap ((IntKind.u64.wrap b).tmod 17592186044416) = b1 at hb ⊢
    have hc5 : 0 ≤ c 5 ∧ c 5 ≤ 1000 := hc.2.2.2.2.1
    refine N.fork (fun hlt => ?_) (fun hlt => ?_)
    · rw [decide_eq_true_eq] at hlt
      obtain ⟨R1, R2⟩ := spans (offN p 13 (c 5)) (c 5) (12345 * (p : Int)) b1 (a1 - b1) hc5 (offN_in p 13 (c 5) hc5.1) (by omega) (by omega)
      rw [show b1 + (a1 - b1) = a1 from by omega] at R1 R2
      repeat' (refine N.go ?_; first | with_reducible refine N.obl (by decide) ?_ | with_reducible refine N.obl (flat_wi _ _ _) ?_ | with_reducible refine N.obl (flat_lim _ _) ?_ | with_reducible refine N.eq ?_ | with_reducible refine N.obl rfl ?_ | with_reducible refine N.obl ⟨by kernel_rfl, by kernel_rfl⟩ ?_ | with_reducible refine N.forkT ?_ | with_reducible refine N.forkF ?_ | refine N.call (cTFineK c n s.cap 2 3 4 pos0 (fun _ => false) 0 0 _ _ _ p _ _ (by rfl) (by rfl) (by rfl) hpn (by omega) hc5 (by omega)) ?_ | refine N.call (cSpanK (fineN (offN p 13 (c 5)) (12345 * (p : Int)) a1 - fineN (offN p 13 (c 5)) (12345 * (p : Int)) b1) _ _ _ (i64s _ (by omega) (by omega)) ⟨by omega, by omega⟩) ?_ | refine N.forkNo (by decide) ?_ | refine N.forkYes (by decide) ?_ | refine N.forkYes (by rw [decide_eq_true_eq]; (try simp only [IntKind.wrap_i64]); omega) ?_ | refine N.forkNo (by rw [decide_eq_false_iff_not]; (try simp only [IntKind.wrap_i64]); omega) ?_ | fail_if_success skip)
      refine N.go ?_
      have hm := u64mod m 40 (by decide) (by decide)
      generalize IntKind.i64.wrap ((IntKind.u64.wrap m).tmod 40) = m1 at hm ⊢
      have hc4 : 0 ≤ c 4 ∧ c 4 ≤ 100 := hc.2.2.2.2.2.1
      have ho4 := offN_in p 7 (c 4) hc4.1
      refine N.loopR (α := LS) lsOK (fun q => 40 - q.x) (fun q => [(84, .int .i64 (q.x : Int)), (15, .int .i64 q.last)]) (fun q => [(2, wcc true c n s.cap 3 4 q.tm q.st), (4, mvP true n (fun _ => false))]) ⟨0, 0, 0, -1⟩ [(0, 0), (2, 2), (3, 3), (4, 4)] (by unfold lsOK; exact ⟨by decide, by decide, by decide, by decide, by decide, by decide, by decide⟩) ?_ ?_
      · repeat' (refine N.go ?_; first | exact N.true | refine N.obl (.plain (by rfl)) ?_ | refine N.obl (.one (.ptr rfl)) ?_ | refine N.obl (.one (.slice rfl)) ?_ | refine N.obl (ChunkReLe.same (agg_plain (by rfl) (by rfl))) ?_ | refine N.obl ⟨id, Nat.le_refl _, ptP_re⟩ ?_ | refine N.obl ⟨id, Nat.le_refl _, mvP_re⟩ ?_ | refine N.obl ⟨id, Nat.le_refl _, wcc_re rfl rfl⟩ ?_)
      · intro q hq
        obtain ⟨q1, q2, q3, q4, q5, q6, q7⟩ := hq
        have hL0 := loc_in (offN p 7 (c 4)) q.tm (c 4) hc4 ho4 ⟨by omega, by omega⟩
        by_cases hlx : (q.x : Int) < m1
        · have hq1 := quo q.tm (q.st + 1) q3 ⟨by omega, by omega⟩
          have hL1 := loc_in (offN p 7 (c 4)) (q.tm + 1) (c 4) hc4 ho4 ⟨by omega, by omega⟩
          repeat' (refine N.go ?_; first | with_reducible refine N.obl (by decide) ?_ | with_reducible refine N.obl (flat_wi _ _ _) ?_ | with_reducible refine N.obl (flat_lim _ _) ?_ | with_reducible refine N.eq ?_ | with_reducible refine N.obl rfl ?_ | with_reducible refine N.obl ⟨by kernel_rfl, by kernel_rfl⟩ ?_ | with_reducible refine N.forkT ?_ | with_reducible refine N.forkF ?_ | refine N.call (cStepK c n s.cap 2 3 4 pos0 (fun _ => false) q.tm q.st _ _ _ (by rfl) (by rfl) (by rfl) (by decide) (by decide) (by omega) (by omega)) ?_ | refine N.call (cTime c n s.cap 2 3 4 pos0 (fun _ => false) q.tm _ _ _ _ _ (by rfl) (by rfl) (by rfl)) ?_ | refine N.forkNo (by rw [decide_eq_false_iff_not]; omega) ?_ | refine N.forkYes (by rw [decide_eq_true_eq]; omega) ?_ | refine N.forkNo (by rw [hq1, i64s _ (by omega) (by omega)]; simp) ?_ | fail_if_success skip)
          refine N.go ?_
          refine N.fork (fun h3 => ?_) (fun h3 => ?_)
          · repeat' (refine N.go ?_; first | with_reducible refine N.obl (by decide) ?_ | with_reducible refine N.obl (flat_wi _ _ _) ?_ | with_reducible refine N.obl (flat_lim _ _) ?_ | with_reducible refine N.eq ?_ | with_reducible refine N.obl rfl ?_ | with_reducible refine N.obl ⟨by kernel_rfl, by kernel_rfl⟩ ?_ | with_reducible refine N.forkT ?_ | with_reducible refine N.forkF ?_ | refine N.call (cTickY c n s.cap 2 3 4 5 pos0 (fun _ => false) q.tm (q.st + 1) _ _ _ (by rfl) (by rfl) (by rfl) (by rfl) (by decide) (by decide) hn1 (by omega)) ?_ | refine N.call (cNowY c n s.cap 2 3 5 pos0 (fun _ => false) (q.tm + 1) _ _ _ _ p _ (by rfl) (by rfl) (by rfl) hpn (by omega) hc4) ?_ | refine N.call (cTime c n s.cap 2 3 5 pos0 (fun _ => false) (q.tm + 1) _ _ _ _ _ (by rfl) (by rfl) (by rfl)) ?_ | refine N.forkNo (by rw [decide_eq_false_iff_not]; omega) ?_ | refine N.forkYes (by rw [decide_eq_true_eq]; omega) ?_ | refine N.forkNo (by rw [decide_eq_false_iff_not, i64s _ (by omega) (by omega)]; omega) ?_ | refine N.forkNo (by rw [decide_eq_false_iff_not, i64s (locN _ _ - _) (by omega) (by omega), i64s _ (by omega) (by omega)]; omega) ?_ | refine N.forkNo (by rw [beq_eq_false_iff_ne]; omega) ?_ | refine N.forkYes (by rw [beq_iff_eq]; omega) ?_ | fail_if_success skip)
            refine N.go ?_
            refine N.nextR (α := LS) ⟨q.x + 1, (q.tm + 1), 0, q.tm * 16777216 + (q.st + 1)⟩ [(0, 0), (2, 2), (3, 3), (5, 4)] ⟨⟨by show 0 ≤ 0; omega, by show 0 ≤ ((q.x + 1 : Nat) : Int); omega, by show 0 ≤ (q.tm + 1); omega, by show (q.tm + 1) ≤ ((q.x + 1 : Nat) : Int); omega, by show q.x + 1 ≤ 40; omega, by show q.tm * 16777216 + (q.st + 1) ≤ (q.tm + 1) * 16777216 + 0; omega, by show -1 ≤ q.tm * 16777216 + (q.st + 1); omega⟩, by show 40 - (q.x + 1) < 40 - q.x; omega⟩ ?_
            repeat' (refine N.go ?_; first | exact N.true | refine N.obl (.plain (by rfl)) ?_ | refine N.obl (.one (.ptr rfl)) ?_ | refine N.obl (.one (.slice rfl)) ?_ | refine N.obl (ChunkReLe.same (agg_plain (by rfl) (by rfl))) ?_ | refine N.obl ⟨id, Nat.le_refl _, ptP_re⟩ ?_ | refine N.obl ⟨id, Nat.le_refl _, mvP_re⟩ ?_ | refine N.obl ⟨id, Nat.le_refl _, wcc_re rfl rfl⟩ ?_ | refine N.obl ⟨id, Nat.le_refl _, wcc_re (j := 3) (k := 4) (j' := 3) (k' := 5) (by rfl) (by rfl)⟩ ?_ | refine N.obl (re_eq (int_eq (by rw [i64s ((q.x : Int) + 1) (by omega) (by omega)]; rfl)) rfl) ?_ | fail_if_success skip)
          · repeat' (refine N.go ?_; first | with_reducible refine N.obl (by decide) ?_ | with_reducible refine N.obl (flat_wi _ _ _) ?_ | with_reducible refine N.obl (flat_lim _ _) ?_ | with_reducible refine N.eq ?_ | with_reducible refine N.obl rfl ?_ | with_reducible refine N.obl ⟨by kernel_rfl, by kernel_rfl⟩ ?_ | with_reducible refine N.forkT ?_ | with_reducible refine N.forkF ?_ | refine N.call (cNowY c n s.cap 2 3 4 pos0 (fun _ => false) q.tm _ _ _ _ p _ (by rfl) (by rfl) (by rfl) hpn (by omega) hc4) ?_ | refine N.call (cTime c n s.cap 2 3 4 pos0 (fun _ => false) q.tm _ _ _ _ _ (by rfl) (by rfl) (by rfl)) ?_ | refine N.forkNo (by rw [decide_eq_false_iff_not]; omega) ?_ | refine N.forkYes (by rw [decide_eq_true_eq]; omega) ?_ | refine N.forkNo (by rw [decide_eq_false_iff_not, i64s _ (by omega) (by omega)]; omega) ?_ | refine N.forkNo (by rw [decide_eq_false_iff_not, i64s (locN _ _ - _) (by omega) (by omega), i64s _ (by omega) (by omega)]; omega) ?_ | refine N.forkNo (by rw [beq_eq_false_iff_ne]; omega) ?_ | refine N.forkYes (by rw [beq_iff_eq]; omega) ?_ | fail_if_success skip)
            refine N.go ?_
            refine N.nextR (α := LS) ⟨q.x + 1, q.tm, (q.st + 1), q.tm * 16777216 + (q.st + 1)⟩ [(0, 0), (2, 2), (3, 3), (4, 4)] ⟨⟨by show 0 ≤ (q.st + 1); omega, by show (q.st + 1) ≤ ((q.x + 1 : Nat) : Int); omega, by show 0 ≤ q.tm; omega, by show q.tm ≤ ((q.x + 1 : Nat) : Int); omega, by show q.x + 1 ≤ 40; omega, by show q.tm * 16777216 + (q.st + 1) ≤ q.tm * 16777216 + (q.st + 1); omega, by show -1 ≤ q.tm * 16777216 + (q.st + 1); omega⟩, by show 40 - (q.x + 1) < 40 - q.x; omega⟩ ?_
            repeat' (refine N.go ?_; first | exact N.true | refine N.obl (.plain (by rfl)) ?_ | refine N.obl (.one (.ptr rfl)) ?_ | refine N.obl (.one (.slice rfl)) ?_ | refine N.obl (ChunkReLe.same (agg_plain (by rfl) (by rfl))) ?_ | refine N.obl ⟨id, Nat.le_refl _, ptP_re⟩ ?_ | refine N.obl ⟨id, Nat.le_refl _, mvP_re⟩ ?_ | refine N.obl ⟨id, Nat.le_refl _, wcc_re rfl rfl⟩ ?_ | refine N.obl ⟨id, Nat.le_refl _, wcc_re (j := 3) (k := 4) (j' := 3) (k' := 5) (by rfl) (by rfl)⟩ ?_ | refine N.obl (re_eq (int_eq (by rw [i64s ((q.x : Int) + 1) (by omega) (by omega)]; rfl)) rfl) ?_ | fail_if_success skip)
        · repeat' (refine N.go ?_; first | with_reducible refine N.obl (by decide) ?_ | with_reducible refine N.obl (flat_wi _ _ _) ?_ | with_reducible refine N.obl (flat_lim _ _) ?_ | with_reducible refine N.eq ?_ | with_reducible refine N.obl rfl ?_ | with_reducible refine N.obl ⟨by kernel_rfl, by kernel_rfl⟩ ?_ | with_reducible refine N.forkT ?_ | with_reducible refine N.forkF ?_ | refine N.call (cNowY c n s.cap 2 3 4 pos0 (fun _ => false) q.tm _ _ _ _ p _ (by rfl) (by rfl) (by rfl) hpn (by omega) hc4) ?_ | refine N.call (cRTime _ _ (by omega)) ?_ | with_reducible refine N.call (cAwake24 _) ?_ | refine N.forkNo (by rw [decide_eq_false_iff_not]; omega) ?_ | refine N.forkYes (by rw [decide_eq_true_eq]; omega) ?_ | refine N.forkNo (by rw [decide_eq_false_iff_not, i64s _ (by omega) (by omega)]; omega) ?_ | refine N.forkNo (by rw [decide_eq_false_iff_not, i64s (locN _ _ - _) (by omega) (by omega), i64s _ (by omega) (by omega)]; omega) ?_ | refine N.forkNo (by rw [beq_eq_false_iff_ne]; omega) ?_ | refine N.forkYes (by rw [beq_iff_eq]; omega) ?_ | fail_if_success skip)
          all_goals rfl
    · rw [decide_eq_false_iff_not] at hlt
      obtain ⟨R1, R2⟩ := spans (offN p 13 (c 5)) (c 5) (12345 * (p : Int)) a1 (b1 - a1) hc5 (offN_in p 13 (c 5) hc5.1) (by omega) (by omega)
      rw [show a1 + (b1 - a1) = b1 from by omega] at R1 R2
      repeat' (refine N.go ?_; first | with_reducible refine N.obl (by decide) ?_ | with_reducible refine N.obl (flat_wi _ _ _) ?_ | with_reducible refine N.obl (flat_lim _ _) ?_ | with_reducible refine N.eq ?_ | with_reducible refine N.obl rfl ?_ | with_reducible refine N.obl ⟨by kernel_rfl, by kernel_rfl⟩ ?_ | with_reducible refine N.forkT ?_ | with_reducible refine N.forkF ?_ | refine N.call (cTFineK c n s.cap 2 3 4 pos0 (fun _ => false) 0 0 _ _ _ p _ _ (by rfl) (by rfl) (by rfl) hpn (by omega) hc5 (by omega)) ?_ | refine N.call (cSpanK (fineN (offN p 13 (c 5)) (12345 * (p : Int)) b1 - fineN (offN p 13 (c 5)) (12345 * (p : Int)) a1) _ _ _ (i64s _ (by omega) (by omega)) ⟨by omega, by omega⟩) ?_ | refine N.forkNo (by decide) ?_ | refine N.forkYes (by decide) ?_ | refine N.forkYes (by rw [decide_eq_true_eq]; (try simp only [IntKind.wrap_i64]); omega) ?_ | refine N.forkNo (by rw [decide_eq_false_iff_not]; (try simp only [IntKind.wrap_i64]); omega) ?_ | fail_if_success skip)
      refine N.go ?_
      have hm := u64mod m 40 (by decide) (by decide)
      generalize IntKind.i64.wrap ((IntKind.u64.wrap m).tmod 40) = m1 at hm ⊢
      have hc4 : 0 ≤ c 4 ∧ c 4 ≤ 100 := hc.2.2.2.2.2.1
      have ho4 := offN_in p 7 (c 4) hc4.1
      refine N.loopR (α := LS) lsOK (fun q => 40 - q.x) (fun q => [(84, .int .i64 (q.x : Int)), (15, .int .i64 q.last)]) (fun q => [(2, wcc true c n s.cap 3 4 q.tm q.st), (4, mvP true n (fun _ => false))]) ⟨0, 0, 0, -1⟩ [(0, 0), (2, 2), (3, 3), (4, 4)] (by unfold lsOK; exact ⟨by decide, by decide, by decide, by decide, by decide, by decide, by decide⟩) ?_ ?_
      · repeat' (refine N.go ?_; first | exact N.true | refine N.obl (.plain (by rfl)) ?_ | refine N.obl (.one (.ptr rfl)) ?_ | refine N.obl (.one (.slice rfl)) ?_ | refine N.obl (ChunkReLe.same (agg_plain (by rfl) (by rfl))) ?_ | refine N.obl ⟨id, Nat.le_refl _, ptP_re⟩ ?_ | refine N.obl ⟨id, Nat.le_refl _, mvP_re⟩ ?_ | refine N.obl ⟨id, Nat.le_refl _, wcc_re rfl rfl⟩ ?_)
      · intro q hq
        obtain ⟨q1, q2, q3, q4, q5, q6, q7⟩ := hq
        have hL0 := loc_in (offN p 7 (c 4)) q.tm (c 4) hc4 ho4 ⟨by omega, by omega⟩
        by_cases hlx : (q.x : Int) < m1
        · have hq1 := quo q.tm (q.st + 1) q3 ⟨by omega, by omega⟩
          have hL1 := loc_in (offN p 7 (c 4)) (q.tm + 1) (c 4) hc4 ho4 ⟨by omega, by omega⟩
          repeat' (refine N.go ?_; first | with_reducible refine N.obl (by decide) ?_ | with_reducible refine N.obl (flat_wi _ _ _) ?_ | with_reducible refine N.obl (flat_lim _ _) ?_ | with_reducible refine N.eq ?_ | with_reducible refine N.obl rfl ?_ | with_reducible refine N.obl ⟨by kernel_rfl, by kernel_rfl⟩ ?_ | with_reducible refine N.forkT ?_ | with_reducible refine N.forkF ?_ | refine N.call (cStepK c n s.cap 2 3 4 pos0 (fun _ => false) q.tm q.st _ _ _ (by rfl) (by rfl) (by rfl) (by decide) (by decide) (by omega) (by omega)) ?_ | refine N.call (cTime c n s.cap 2 3 4 pos0 (fun _ => false) q.tm _ _ _ _ _ (by rfl) (by rfl) (by rfl)) ?_ | refine N.forkNo (by rw [decide_eq_false_iff_not]; omega) ?_ | refine N.forkYes (by rw [decide_eq_true_eq]; omega) ?_ | refine N.forkNo (by rw [hq1, i64s _ (by omega) (by omega)]; simp) ?_ | fail_if_success skip)
          refine N.go ?_
          refine N.fork (fun h3 => ?_) (fun h3 => ?_)
          · repeat' (refine N.go ?_; first | with_reducible refine N.obl (by decide) ?_ | with_reducible refine N.obl (flat_wi _ _ _) ?_ | with_reducible refine N.obl (flat_lim _ _) ?_ | with_reducible refine N.eq ?_ | with_reducible refine N.obl rfl ?_ | with_reducible refine N.obl ⟨by kernel_rfl, by kernel_rfl⟩ ?_ | with_reducible refine N.forkT ?_ | with_reducible refine N.forkF ?_ | refine N.call (cTickY c n s.cap 2 3 4 5 pos0 (fun _ => false) q.tm (q.st + 1) _ _ _ (by rfl) (by rfl) (by rfl) (by rfl) (by decide) (by decide) hn1 (by omega)) ?_ | refine N.call (cNowY c n s.cap 2 3 5 pos0 (fun _ => false) (q.tm + 1) _ _ _ _ p _ (by rfl) (by rfl) (by rfl) hpn (by omega) hc4) ?_ | refine N.call (cTime c n s.cap 2 3 5 pos0 (fun _ => false) (q.tm + 1) _ _ _ _ _ (by rfl) (by rfl) (by rfl)) ?_ | refine N.forkNo (by rw [decide_eq_false_iff_not]; omega) ?_ | refine N.forkYes (by rw [decide_eq_true_eq]; omega) ?_ | refine N.forkNo (by rw [decide_eq_false_iff_not, i64s _ (by omega) (by omega)]; omega) ?_ | refine N.forkNo (by rw [decide_eq_false_iff_not, i64s (locN _ _ - _) (by omega) (by omega), i64s _ (by omega) (by omega)]; omega) ?_ | refine N.forkNo (by rw [beq_eq_false_iff_ne]; omega) ?_ | refine N.forkYes (by rw [beq_iff_eq]; omega) ?_ | fail_if_success skip)
            refine N.go ?_
            refine N.nextR (α := LS) ⟨q.x + 1, (q.tm + 1), 0, q.tm * 16777216 + (q.st + 1)⟩ [(0, 0), (2, 2), (3, 3), (5, 4)] ⟨⟨by show 0 ≤ 0; omega, by show 0 ≤ ((q.x + 1 : Nat) : Int); omega, by show 0 ≤ (q.tm + 1); omega, by show (q.tm + 1) ≤ ((q.x + 1 : Nat) : Int); omega, by show q.x + 1 ≤ 40; omega, by show q.tm * 16777216 + (q.st + 1) ≤ (q.tm + 1) * 16777216 + 0; omega, by show -1 ≤ q.tm * 16777216 + (q.st + 1); omega⟩, by show 40 - (q.x + 1) < 40 - q.x; omega⟩ ?_
            repeat' (refine N.go ?_; first | exact N.true | refine N.obl (.plain (by rfl)) ?_ | refine N.obl (.one (.ptr rfl)) ?_ | refine N.obl (.one (.slice rfl)) ?_ | refine N.obl (ChunkReLe.same (agg_plain (by rfl) (by rfl))) ?_ | refine N.obl ⟨id, Nat.le_refl _, ptP_re⟩ ?_ | refine N.obl ⟨id, Nat.le_refl _, mvP_re⟩ ?_ | refine N.obl ⟨id, Nat.le_refl _, wcc_re rfl rfl⟩ ?_ | refine N.obl ⟨id, Nat.le_refl _, wcc_re (j := 3) (k := 4) (j' := 3) (k' := 5) (by rfl) (by rfl)⟩ ?_ | refine N.obl (re_eq (int_eq (by rw [i64s ((q.x : Int) + 1) (by omega) (by omega)]; rfl)) rfl) ?_ | fail_if_success skip)
          · repeat' (refine N.go ?_; first | with_reducible refine N.obl (by decide) ?_ | with_reducible refine N.obl (flat_wi _ _ _) ?_ | with_reducible refine N.obl (flat_lim _ _) ?_ | with_reducible refine N.eq ?_ | with_reducible refine N.obl rfl ?_ | with_reducible refine N.obl ⟨by kernel_rfl, by kernel_rfl⟩ ?_ | with_reducible refine N.forkT ?_ | with_reducible refine N.forkF ?_ | refine N.call (cNowY c n s.cap 2 3 4 pos0 (fun _ => false) q.tm _ _ _ _ p _ (by rfl) (by rfl) (by rfl) hpn (by omega) hc4) ?_ | refine N.call (cTime c n s.cap 2 3 4 pos0 (fun _ => false) q.tm _ _ _ _ _ (by rfl) (by rfl) (by rfl)) ?_ | refine N.forkNo (by rw [decide_eq_false_iff_not]; omega) ?_ | refine N.forkYes (by rw [decide_eq_true_eq]; omega) ?_ | refine N.forkNo (by rw [decide_eq_false_iff_not, i64s _ (by omega) (by omega)]; omega) ?_ | refine N.forkNo (by rw [decide_eq_false_iff_not, i64s (locN _ _ - _) (by omega) (by omega), i64s _ (by omega) (by omega)]; omega) ?_ | refine N.forkNo (by rw [beq_eq_false_iff_ne]; omega) ?_ | refine N.forkYes (by rw [beq_iff_eq]; omega) ?_ | fail_if_success skip)
            refine N.go ?_
            refine N.nextR (α := LS) ⟨q.x + 1, q.tm, (q.st + 1), q.tm * 16777216 + (q.st + 1)⟩ [(0, 0), (2, 2), (3, 3), (4, 4)] ⟨⟨by show 0 ≤ (q.st + 1); omega, by show (q.st + 1) ≤ ((q.x + 1 : Nat) : Int); omega, by show 0 ≤ q.tm; omega, by show q.tm ≤ ((q.x + 1 : Nat) : Int); omega, by show q.x + 1 ≤ 40; omega, by show q.tm * 16777216 + (q.st + 1) ≤ q.tm * 16777216 + (q.st + 1); omega, by show -1 ≤ q.tm * 16777216 + (q.st + 1); omega⟩, by show 40 - (q.x + 1) < 40 - q.x; omega⟩ ?_
            repeat' (refine N.go ?_; first | exact N.true | refine N.obl (.plain (by rfl)) ?_ | refine N.obl (.one (.ptr rfl)) ?_ | refine N.obl (.one (.slice rfl)) ?_ | refine N.obl (ChunkReLe.same (agg_plain (by rfl) (by rfl))) ?_ | refine N.obl ⟨id, Nat.le_refl _, ptP_re⟩ ?_ | refine N.obl ⟨id, Nat.le_refl _, mvP_re⟩ ?_ | refine N.obl ⟨id, Nat.le_refl _, wcc_re rfl rfl⟩ ?_ | refine N.obl ⟨id, Nat.le_refl _, wcc_re (j := 3) (k := 4) (j' := 3) (k' := 5) (by rfl) (by rfl)⟩ ?_ | refine N.obl (re_eq (int_eq (by rw [i64s ((q.x : Int) + 1) (by omega) (by omega)]; rfl)) rfl) ?_ | fail_if_success skip)
        · repeat' (refine N.go ?_; first | with_reducible refine N.obl (by decide) ?_ | with_reducible refine N.obl (flat_wi _ _ _) ?_ | with_reducible refine N.obl (flat_lim _ _) ?_ | with_reducible refine N.eq ?_ | with_reducible refine N.obl rfl ?_ | with_reducible refine N.obl ⟨by kernel_rfl, by kernel_rfl⟩ ?_ | with_reducible refine N.forkT ?_ | with_reducible refine N.forkF ?_ | refine N.call (cNowY c n s.cap 2 3 4 pos0 (fun _ => false) q.tm _ _ _ _ p _ (by rfl) (by rfl) (by rfl) hpn (by omega) hc4) ?_ | refine N.call (cRTime _ _ (by omega)) ?_ | with_reducible refine N.call (cAwake24 _) ?_ | refine N.forkNo (by rw [decide_eq_false_iff_not]; omega) ?_ | refine N.forkYes (by rw [decide_eq_true_eq]; omega) ?_ | refine N.forkNo (by rw [decide_eq_false_iff_not, i64s _ (by omega) (by omega)]; omega) ?_ | refine N.forkNo (by rw [decide_eq_false_iff_not, i64s (locN _ _ - _) (by omega) (by omega), i64s _ (by omega) (by omega)]; omega) ?_ | refine N.forkNo (by rw [beq_eq_false_iff_ne]; omega) ?_ | refine N.forkYes (by rw [beq_iff_eq]; omega) ?_ | fail_if_success skip)
          all_goals rfl
  · refine calls_pure (G := tys) w tysOK mixed Try.func7 (by rfl) (by rfl) (by rfl) ?_
    repeat' (refine N.go ?_; first | with_reducible refine N.obl (by decide) ?_ | with_reducible refine N.obl (flat_wi _ _ _) ?_ | with_reducible refine N.obl (flat_lim _ _) ?_ | with_reducible refine N.eq ?_ | with_reducible refine N.obl rfl ?_ | with_reducible refine N.obl ⟨by kernel_rfl, by kernel_rfl⟩ ?_ | with_reducible refine N.forkT ?_ | with_reducible refine N.forkF ?_ | with_reducible refine N.call (cNewNil _ _ hc) ?_ | with_reducible refine N.call (cTmay _ _) ?_ | with_reducible refine N.call (cAwake24 _) ?_ | refine N.forkNo (by rw [decide_eq_true (by assumption)]; rfl) ?_ | refine N.forkYes (by rw [decide_eq_false (by assumption)]; rfl) ?_ | refine N.forkYes (decide_eq_true (by assumption)) ?_ | refine N.forkNo (decide_eq_false (by assumption)) ?_ | refine N.forkNo (by decide) ?_ | refine N.forkYes (by decide) ?_)
    all_goals rfl
set_option maxRecDepth 100000 in
theorem lifted (os : Os) (started : os.Started) (H : Type) (enc : TypeId × Value → H) :
    ReturnsInHanded {} Try.checked os 7 .any (Rows.truthClocksSpec.pre6 enc Try.prog Try.f7 Rows.truthClocksRow.domain false) (Rows.truthClocksSpec.post enc Try.prog Try.f7 false true false false) := by
  refine law_lifted (C := Try.checked) (tb := 4) Try.own started (by kernel_rfl) Try.func7 Try.laidOut (by kernel_rfl) rfl Try.underlying4 rfl
    (fun ds hds => by match ds, hds with | [_, _, _, _, _], _ => rfl)
    (ChangeSpec.witness6 (enc := enc) (C := Try.checked) false ⟨#[], #[.agg #[.int .i64 0, .int .i64 0, .int .i64 0, .int .i64 0, .int .i64 0, .int .i64 0, .int .i64 0, .int .i64 0, .int .i64 0, .int .i64 0, .int .i64 0], .int .i64 0, .int .i64 0, .int .i64 0, .int .i64 0], []⟩ 8 (by kernel_rfl) (by kernel_rfl) (by kernel_rfl) (by kernel_rfl)) ?_
  intro W base args ds p hval0 hA0 hsz0
  have hval : ∀ (j : Nat) t v, Try.f7.params[j]? = some t → args[j]? = some v → Value.okWide Try.prog W .any base t v := hval0
  have hA : DataW.TrodAll enc Try.prog W 0 (fun _ => true) true Try.f7.params.toList args.toList ds p := hA0
  have hsz : (DataW.weightsEach Try.prog Try.f7.params.toList ds).all (· ≤ reachBytes) = true := hsz0
  rw [Try.params7] at hA hval hsz
  obtain ⟨v0, vs0, d0, ds0, p0, q0, hargs, rfl, rfl, h0, r0⟩ := trodAll_cons hA
  obtain ⟨v1, vs1, d1, ds1, p1, q1, rfl, rfl, rfl, h1, r1⟩ := trodAll_cons r0
  obtain ⟨v2, vs2, d2, ds2, p2, q2, rfl, rfl, rfl, h2, r2⟩ := trodAll_cons r1
  obtain ⟨v3, vs3, d3, ds3, p3, q3, rfl, rfl, rfl, h3, r3⟩ := trodAll_cons r2
  obtain ⟨v4, vs4, d4, ds4, p4, q4, rfl, rfl, rfl, h4, r4⟩ := trodAll_cons r3
  obtain ⟨rfl, rfl, rfl⟩ := trodAll_nil r4
  obtain rfl : args = #[v0, v1, v2, v3, v4] := by cases args; simp_all
  obtain ⟨f0_0, f0_1, f0_2, f0_3, f0_4, f0_5, f0_6, f0_7, f0_8, f0_9, f0_10, rfl⟩ := open_config (hval 0 _ v0 rfl rfl) h0
  obtain ⟨a1, rfl, rfl, rfl, w1⟩ := open_int Try.underlying3 (hval 1 _ v1 rfl rfl) h1
  obtain ⟨a2, rfl, rfl, rfl, w2⟩ := open_int Try.underlying3 (hval 2 _ v2 rfl rfl) h2
  obtain ⟨a3, rfl, rfl, rfl, w3⟩ := open_int Try.underlying2 (hval 3 _ v3 rfl rfl) h3
  obtain ⟨a4, rfl, rfl, rfl, w4⟩ := open_int Try.underlying2 (hval 4 _ v4 rfl rfl) h4
  exact walk (fun j => [f0_0, f0_1, f0_2, f0_3, f0_4, f0_5, f0_6, f0_7, f0_8, f0_9, f0_10].getD j 0) a1 a2 a3 a4 W

theorem proved : Rows.TruthClocksSaid :=
  OpenClaim.holds_of_wide 7 Try.f7 rfl rfl rfl rfl rfl rfl rfl ⟨rfl, rfl, rfl, rfl, rfl⟩ rfl rfl rfl rfl rfl (by kernel_rfl) Try.func7 (by kernel_rfl)
    (of_decide_eq_true (by kernel_rfl)) (by unfold Func.isWrapper; rw [if_neg (by decide +kernel)]; exact ⟨rfl, rfl⟩)
    (fun os started H enc _ => lifted os started H enc)
#print axioms proved
end Go.Proofs.Ytfpmmahonddpoaa.truthClocks
