
/-
  The walks of the document's air: Get, Take, Double.
-/
import Derived.Test.YtgikbmohmomgbaaAirW
set_option linter.unusedVariables false
set_option linter.unusedSimpArgs false
namespace Go.Proofs.Ytgikbmohmomgbaa
open Go Go.RowKit Sx

set_option maxRecDepth 100000 in
set_option maxHeartbeats 2000000 in
theorem cRGetO (o o2 : Bool) (n c x : Nat) (T : Nat → Ml) (hx : x < n) (hnc : n ≤ c) (i k : Nat) (hne : i ≠ k) (h : List (Option Chunk)) (hi : h[i]? = some (some (airC o (.slice (some ⟨k, 0, some 0⟩) n c)))) (hk : h[k]? = some (some (mlA o2 c T))) :
    CallOK Try.prog 20 [.pointer (some ⟨i, 0, some 0⟩), .int .i64 (x : Nat)] h (.tuple ⟨[mailV (T x).to_ (T x).u (T x).at_ (T x).tr (T x).be, .bool true]⟩) [] [i, k] := by
  refine call_sub (G := tys) [⟨i, _, airC false (.slice (some ⟨1, 0, some 0⟩) n c), nC⟩, ⟨k, _, mlA false c T, nC⟩] [] [.pointer (some ⟨0, 0, some 0⟩), .int .i64 (x : Nat)] tysOK mixed Try.func20 (by rfl) (Try.call20) ⟨hi, hk, trivial⟩ ⟨⟨fun h => (by cases h), Nat.le_refl _, fun j hj => by
    match j, hj with
    | 0, _ => exact .slice rfl⟩, ⟨fun h => (by cases h), Nat.le_refl _, mlA_re⟩, trivial⟩ (by simp [Apart, hne]) trivial ⟨.ptr rfl, .plain rfl, trivial⟩ ?_
  repeat' (refine N.go ?_; first | with_reducible refine N.obl (by decide) ?_ | with_reducible refine N.obl (flat_wi _ _ _) ?_ | with_reducible refine N.obl (flat_lim _ _) ?_ | with_reducible refine N.eq ?_ | with_reducible refine N.obl rfl ?_ | with_reducible refine N.obl ⟨by kernel_rfl, by kernel_rfl⟩ ?_ | with_reducible refine N.alt ?_ | with_reducible refine N.forkT ?_ | with_reducible refine N.forkF ?_ | refine N.forkNo (by decide) ?_ | refine N.forkYes (by decide) ?_ | refine N.forkYes (by rw [decide_eq_true_eq]; omega) ?_ | refine N.forkNo (by rw [decide_eq_false_iff_not]; omega) ?_ | refine N.idx x 1 rfl (by omega) ?_ | refine N.load _ (rd_mlA x rfl (by omega) rfl) ?_ | refine N.obl (mail_flat _ _ _ _ _) ?_ | refine N.obl (.tuple ⟨mailV_re _ _ _ _ _, .plain rfl, trivial⟩) ?_ | refine N.obl ⟨airR_post (by rfl), mlR_post (by rfl), trivial⟩ ?_ | refine N.obl trivial ?_ | exact N.true | refine N.obl trivial ?_ | fail_if_success skip)
set_option maxRecDepth 100000 in
set_option maxHeartbeats 2000000 in
theorem cRGetY (L : List Ml) (x : Nat) (m : Ml) (hm : L[x]? = some m) (i : Nat) (h : List (Option Chunk)) (hi : h[i]? = some (some (airP L))) : CallOK Try.prog 20 [.pointer (some ⟨i, 0, some 0⟩), .int .i64 (x : Nat)] h (.tuple ⟨[mailV m.to_ m.u m.at_ m.tr m.be, .bool true]⟩) [(i, airP (L))] [] := by
  refine call_res (G := tys) (airOK L) (airH L) [⟨i, airP L, airP L, airP (L)⟩] [] [.pointer (some ⟨0, 0, some 0⟩), .int .i64 (x : Nat)] tysOK mixed Try.func20 (by rfl) (Try.call20) ⟨hi, trivial⟩ ⟨⟨fun h => ⟨rfl, Nat.le_refl _⟩, Nat.le_refl _, fun j hj => absurd hj (Nat.not_lt_zero j)⟩, trivial⟩ (by simp [Apart]) ⟨.inr ⟨rfl, rfl⟩, trivial⟩ trivial ⟨.ptr rfl, .plain rfl, trivial⟩ pack_opens ?_
  have hx : x < L.length := (List.getElem?_eq_some_iff.1 hm).1
  intro β hβ
  cases β with
  | none =>
    obtain rfl : L = [] := hβ
    simp at hx
  | some r =>
    obtain ⟨c, T⟩ := r
    obtain ⟨hc1, hlc, hT⟩ := hβ
    obtain rfl : T x = m := hT x m hm
    repeat' (refine N.go ?_; first | with_reducible refine N.obl (by decide) ?_ | with_reducible refine N.obl (flat_wi _ _ _) ?_ | with_reducible refine N.obl (flat_lim _ _) ?_ | with_reducible refine N.eq ?_ | with_reducible refine N.obl rfl ?_ | with_reducible refine N.obl ⟨by kernel_rfl, by kernel_rfl⟩ ?_ | with_reducible refine N.alt ?_ | with_reducible refine N.forkT ?_ | with_reducible refine N.forkF ?_ | refine N.forkNo (by decide) ?_ | refine N.forkYes (by decide) ?_ | refine N.forkYes (by rw [decide_eq_true_eq]; omega) ?_ | refine N.forkNo (by rw [decide_eq_false_iff_not]; omega) ?_ | refine N.idx x 1 rfl (by omega) ?_ | refine N.load _ (rd_mlA x rfl (by omega) rfl) ?_ | refine N.obl (mail_flat _ _ _ _ _) ?_ | fail_if_success skip)
    refine N.go ?_
    refine airCloseG 0 [] (L) 1 c (T) one_bs one_pc hc1 hlc hT (by rfl) rfl (Nat.le_refl _) rfl (by rfl) (by decide) rfl (Nat.le_refl _) (fun j hj => eqv_of (seg_cell hj)) (fun x hx => by cases hx) (fun x hx => by cases hx) (mail_sc _ _ _ _ _ _) ?_
    refine N.obl (.tuple ⟨mailV_re _ _ _ _ _, .plain rfl, trivial⟩) ?_
    refine N.obl ⟨⟨_, rfl, fun h => h, Nat.le_refl _, fun j hj => absurd hj (Nat.not_lt_zero j)⟩, trivial⟩ ?_
    refine N.obl trivial ?_
    refine N.obl ⟨⟨.inr ⟨_, rfl, rfl⟩, trivial⟩, trivial⟩ ?_
    exact N.true
set_option maxRecDepth 100000 in
set_option maxHeartbeats 2000000 in
theorem cRGetBad1 (L : List Ml) (x : Int) (hx : x < 0) (i : Nat) (h : List (Option Chunk)) (hi : h[i]? = some (some (airP L))) : CallOK Try.prog 20 [.pointer (some ⟨i, 0, some 0⟩), .int .i64 x] h (.tuple ⟨[mailV 0 none 0 0 false, .bool false]⟩) [(i, airP (L))] [] := by
  refine call_res (G := tys) (airOK L) (airH L) [⟨i, airP L, airP L, airP (L)⟩] [] [.pointer (some ⟨0, 0, some 0⟩), .int .i64 x] tysOK mixed Try.func20 (by rfl) (Try.call20) ⟨hi, trivial⟩ ⟨⟨fun h => ⟨rfl, Nat.le_refl _⟩, Nat.le_refl _, fun j hj => absurd hj (Nat.not_lt_zero j)⟩, trivial⟩ (by simp [Apart]) ⟨.inr ⟨rfl, rfl⟩, trivial⟩ trivial ⟨.ptr rfl, .plain rfl, trivial⟩ pack_opens ?_
  intro β hβ
  cases β with
  | none =>
    obtain rfl : L = [] := hβ
    repeat' (refine N.go ?_; first | with_reducible refine N.obl (by decide) ?_ | with_reducible refine N.obl (flat_wi _ _ _) ?_ | with_reducible refine N.obl (flat_lim _ _) ?_ | with_reducible refine N.eq ?_ | with_reducible refine N.obl rfl ?_ | with_reducible refine N.obl ⟨by kernel_rfl, by kernel_rfl⟩ ?_ | with_reducible refine N.alt ?_ | with_reducible refine N.forkT ?_ | with_reducible refine N.forkF ?_ | refine N.forkNo (by decide) ?_ | refine N.forkYes (by decide) ?_ | refine N.forkYes (by simp only [List.length_nil] at hx; rw [decide_eq_true_eq]; omega) ?_ | refine N.forkYes (by rw [decide_eq_true_eq]; omega) ?_ | refine N.forkNo (by rw [decide_eq_false_iff_not]; omega) ?_ | fail_if_success skip)
    refine N.go ?_
    refine airClose0G 0 [] one_bs (fun _ => ⟨_, rfl, airP_ne [], packX_selfish⟩) (by rfl) rfl (Nat.le_refl _) rfl (fun x hx => by cases hx) (fun x hx => by cases hx) (plain_sc' rfl) ?_
    refine N.obl (.tuple ⟨.agg ⟨.plain rfl, .any (fun _ _ => rfl), .plain rfl, .plain rfl, .plain rfl, trivial⟩, .plain rfl, trivial⟩) ?_
    refine N.obl ⟨⟨_, rfl, fun h => h, Nat.le_refl _, fun j hj => absurd hj (Nat.not_lt_zero j)⟩, trivial⟩ ?_
    refine N.obl trivial ?_
    refine N.obl ⟨⟨.inr ⟨_, rfl, rfl⟩, trivial⟩, trivial⟩ ?_
    exact N.true
  | some r =>
    obtain ⟨c, T⟩ := r
    obtain ⟨hc1, hlc, hT⟩ := hβ
    repeat' (refine N.go ?_; first | with_reducible refine N.obl (by decide) ?_ | with_reducible refine N.obl (flat_wi _ _ _) ?_ | with_reducible refine N.obl (flat_lim _ _) ?_ | with_reducible refine N.eq ?_ | with_reducible refine N.obl rfl ?_ | with_reducible refine N.obl ⟨by kernel_rfl, by kernel_rfl⟩ ?_ | with_reducible refine N.alt ?_ | with_reducible refine N.forkT ?_ | with_reducible refine N.forkF ?_ | refine N.forkNo (by decide) ?_ | refine N.forkYes (by decide) ?_ | refine N.forkYes (by rw [decide_eq_true_eq]; omega) ?_ | refine N.forkNo (by rw [decide_eq_false_iff_not]; omega) ?_ | fail_if_success skip)
    refine N.go ?_
    refine airCloseG 0 [] (L) 1 c (T) one_bs one_pc hc1 hlc hT (by rfl) rfl (Nat.le_refl _) rfl (by rfl) (by decide) rfl (Nat.le_refl _) (fun j hj => eqv_of (seg_cell hj)) (fun x hx => by cases hx) (fun x hx => by cases hx) (plain_sc' rfl) ?_
    refine N.obl (.tuple ⟨.agg ⟨.plain rfl, .any (fun _ _ => rfl), .plain rfl, .plain rfl, .plain rfl, trivial⟩, .plain rfl, trivial⟩) ?_
    refine N.obl ⟨⟨_, rfl, fun h => h, Nat.le_refl _, fun j hj => absurd hj (Nat.not_lt_zero j)⟩, trivial⟩ ?_
    refine N.obl trivial ?_
    refine N.obl ⟨⟨.inr ⟨_, rfl, rfl⟩, trivial⟩, trivial⟩ ?_
    exact N.true
set_option maxRecDepth 100000 in
set_option maxHeartbeats 2000000 in
theorem cRGetBad2 (L : List Ml) (x : Int) (h0 : 0 ≤ x) (hx : (L.length : Int) ≤ x) (i : Nat) (h : List (Option Chunk)) (hi : h[i]? = some (some (airP L))) : CallOK Try.prog 20 [.pointer (some ⟨i, 0, some 0⟩), .int .i64 x] h (.tuple ⟨[mailV 0 none 0 0 false, .bool false]⟩) [(i, airP (L))] [] := by
  refine call_res (G := tys) (airOK L) (airH L) [⟨i, airP L, airP L, airP (L)⟩] [] [.pointer (some ⟨0, 0, some 0⟩), .int .i64 x] tysOK mixed Try.func20 (by rfl) (Try.call20) ⟨hi, trivial⟩ ⟨⟨fun h => ⟨rfl, Nat.le_refl _⟩, Nat.le_refl _, fun j hj => absurd hj (Nat.not_lt_zero j)⟩, trivial⟩ (by simp [Apart]) ⟨.inr ⟨rfl, rfl⟩, trivial⟩ trivial ⟨.ptr rfl, .plain rfl, trivial⟩ pack_opens ?_
  intro β hβ
  cases β with
  | none =>
    obtain rfl : L = [] := hβ
    repeat' (refine N.go ?_; first | with_reducible refine N.obl (by decide) ?_ | with_reducible refine N.obl (flat_wi _ _ _) ?_ | with_reducible refine N.obl (flat_lim _ _) ?_ | with_reducible refine N.eq ?_ | with_reducible refine N.obl rfl ?_ | with_reducible refine N.obl ⟨by kernel_rfl, by kernel_rfl⟩ ?_ | with_reducible refine N.alt ?_ | with_reducible refine N.forkT ?_ | with_reducible refine N.forkF ?_ | refine N.forkNo (by decide) ?_ | refine N.forkYes (by decide) ?_ | refine N.forkYes (by simp only [List.length_nil] at hx; rw [decide_eq_true_eq]; omega) ?_ | refine N.forkYes (by rw [decide_eq_true_eq]; omega) ?_ | refine N.forkNo (by rw [decide_eq_false_iff_not]; omega) ?_ | fail_if_success skip)
    refine N.go ?_
    refine airClose0G 0 [] one_bs (fun _ => ⟨_, rfl, airP_ne [], packX_selfish⟩) (by rfl) rfl (Nat.le_refl _) rfl (fun x hx => by cases hx) (fun x hx => by cases hx) (plain_sc' rfl) ?_
    refine N.obl (.tuple ⟨.agg ⟨.plain rfl, .any (fun _ _ => rfl), .plain rfl, .plain rfl, .plain rfl, trivial⟩, .plain rfl, trivial⟩) ?_
    refine N.obl ⟨⟨_, rfl, fun h => h, Nat.le_refl _, fun j hj => absurd hj (Nat.not_lt_zero j)⟩, trivial⟩ ?_
    refine N.obl trivial ?_
    refine N.obl ⟨⟨.inr ⟨_, rfl, rfl⟩, trivial⟩, trivial⟩ ?_
    exact N.true
  | some r =>
    obtain ⟨c, T⟩ := r
    obtain ⟨hc1, hlc, hT⟩ := hβ
    repeat' (refine N.go ?_; first | with_reducible refine N.obl (by decide) ?_ | with_reducible refine N.obl (flat_wi _ _ _) ?_ | with_reducible refine N.obl (flat_lim _ _) ?_ | with_reducible refine N.eq ?_ | with_reducible refine N.obl rfl ?_ | with_reducible refine N.obl ⟨by kernel_rfl, by kernel_rfl⟩ ?_ | with_reducible refine N.alt ?_ | with_reducible refine N.forkT ?_ | with_reducible refine N.forkF ?_ | refine N.forkNo (by decide) ?_ | refine N.forkYes (by decide) ?_ | refine N.forkYes (by rw [decide_eq_true_eq]; omega) ?_ | refine N.forkNo (by rw [decide_eq_false_iff_not]; omega) ?_ | fail_if_success skip)
    refine N.go ?_
    refine airCloseG 0 [] (L) 1 c (T) one_bs one_pc hc1 hlc hT (by rfl) rfl (Nat.le_refl _) rfl (by rfl) (by decide) rfl (Nat.le_refl _) (fun j hj => eqv_of (seg_cell hj)) (fun x hx => by cases hx) (fun x hx => by cases hx) (plain_sc' rfl) ?_
    refine N.obl (.tuple ⟨.agg ⟨.plain rfl, .any (fun _ _ => rfl), .plain rfl, .plain rfl, .plain rfl, trivial⟩, .plain rfl, trivial⟩) ?_
    refine N.obl ⟨⟨_, rfl, fun h => h, Nat.le_refl _, fun j hj => absurd hj (Nat.not_lt_zero j)⟩, trivial⟩ ?_
    refine N.obl trivial ?_
    refine N.obl ⟨⟨.inr ⟨_, rfl, rfl⟩, trivial⟩, trivial⟩ ?_
    exact N.true
theorem cRGetBad (L : List Ml) (x : Int) (hx : x < 0 ∨ (L.length : Int) ≤ x) (i : Nat) (h : List (Option Chunk)) (hi : h[i]? = some (some (airP L))) : CallOK Try.prog 20 [.pointer (some ⟨i, 0, some 0⟩), .int .i64 x] h (.tuple ⟨[mailV 0 none 0 0 false, .bool false]⟩) [(i, airP L)] [] := by
  by_cases h0 : x < 0
  · exact cRGetBad1 L x h0 i h hi
  · exact cRGetBad2 L x (by omega) (by omega) i h hi
set_option maxRecDepth 100000 in
set_option maxHeartbeats 2000000 in
theorem cRDoubleBad (L : List Ml) (x : Int) (hx : x < 0 ∨ (L.length : Int) ≤ x) (i : Nat) (h : List (Option Chunk)) (hi : h[i]? = some (some (airP L))) : CallOK Try.prog 18 [.pointer (some ⟨i, 0, some 0⟩), .int .i64 x] h (.bool false) [(i, airP (L))] [] := by
  refine call_res (G := tys) (fun _ : Unit => True) (fun _ => _) [⟨i, airP L, airP L, airP (L)⟩] [] [.pointer (some ⟨0, 0, some 0⟩), .int .i64 x] tysOK mixed Try.func18 (by rfl) (Try.call18) ⟨hi, trivial⟩ ⟨⟨fun h => ⟨rfl, Nat.le_refl _⟩, Nat.le_refl _, fun j hj => absurd hj (Nat.not_lt_zero j)⟩, trivial⟩ (by simp [Apart]) ⟨.inr ⟨rfl, rfl⟩, trivial⟩ trivial ⟨.ptr rfl, .plain rfl, trivial⟩ Opens.same ?_
  rintro ⟨⟩ -
  repeat' (refine N.go ?_; first | with_reducible refine N.obl (by decide) ?_ | with_reducible refine N.obl (flat_wi _ _ _) ?_ | with_reducible refine N.obl (flat_lim _ _) ?_ | with_reducible refine N.eq ?_ | with_reducible refine N.obl rfl ?_ | with_reducible refine N.obl ⟨by kernel_rfl, by kernel_rfl⟩ ?_ | with_reducible refine N.alt ?_ | with_reducible refine N.forkT ?_ | with_reducible refine N.forkF ?_ | refine N.forkNo (by decide) ?_ | refine N.forkYes (by decide) ?_ | refine N.forkYes (by rw [decide_eq_true_eq]; omega) ?_ | refine N.forkNo (by rw [decide_eq_false_iff_not]; omega) ?_ | refine N.call (cRGetBad _ x hx 0 _ (by rfl)) ?_ | refine N.obl (mail_flat _ _ _ _ _) ?_ | fail_if_success skip)
  refine N.go ?_
  refine N.endSame ?_
  refine N.obl (.plain rfl) ?_
  refine N.obl ⟨⟨_, rfl, fun h => h, Nat.le_refl _, fun j hj => absurd hj (Nat.not_lt_zero j)⟩, trivial⟩ ?_
  refine N.obl trivial ?_
  refine N.obl ⟨⟨.inr ⟨_, rfl, rfl⟩, trivial⟩, trivial⟩ ?_
  exact N.true
set_option maxRecDepth 100000 in
set_option maxHeartbeats 2000000 in
theorem cRDoubleFull (L : List Ml) (x : Nat) (m : Ml) (hm : L[x]? = some m) (hl : 512 ≤ L.length) (i : Nat) (h : List (Option Chunk)) (hi : h[i]? = some (some (airP L))) : CallOK Try.prog 18 [.pointer (some ⟨i, 0, some 0⟩), .int .i64 (x : Nat)] h (.bool false) [(i, airP (L))] [] := by
  refine call_res (G := tys) (fun _ : Unit => True) (fun _ => _) [⟨i, airP L, airP L, airP (L)⟩] [] [.pointer (some ⟨0, 0, some 0⟩), .int .i64 (x : Nat)] tysOK mixed Try.func18 (by rfl) (Try.call18) ⟨hi, trivial⟩ ⟨⟨fun h => ⟨rfl, Nat.le_refl _⟩, Nat.le_refl _, fun j hj => absurd hj (Nat.not_lt_zero j)⟩, trivial⟩ (by simp [Apart]) ⟨.inr ⟨rfl, rfl⟩, trivial⟩ trivial ⟨.ptr rfl, .plain rfl, trivial⟩ Opens.same ?_
  rintro ⟨⟩ -
  repeat' (refine N.go ?_; first | with_reducible refine N.obl (by decide) ?_ | with_reducible refine N.obl (flat_wi _ _ _) ?_ | with_reducible refine N.obl (flat_lim _ _) ?_ | with_reducible refine N.eq ?_ | with_reducible refine N.obl rfl ?_ | with_reducible refine N.obl ⟨by kernel_rfl, by kernel_rfl⟩ ?_ | with_reducible refine N.alt ?_ | with_reducible refine N.forkT ?_ | with_reducible refine N.forkF ?_ | refine N.forkNo (by decide) ?_ | refine N.forkYes (by decide) ?_ | refine N.forkYes (by rw [decide_eq_true_eq]; omega) ?_ | refine N.forkNo (by rw [decide_eq_false_iff_not]; omega) ?_ | refine N.call (cRGetY _ x m hm 0 _ (by rfl)) ?_ | refine N.call (cRPutFull _ _ _ _ _ _ hl 0 _ (by rfl)) ?_ | refine N.obl (mail_flat _ _ _ _ _) ?_ | fail_if_success skip)
  refine N.go ?_
  refine N.endSame ?_
  refine N.obl (.plain rfl) ?_
  refine N.obl ⟨⟨_, rfl, fun h => h, Nat.le_refl _, fun j hj => absurd hj (Nat.not_lt_zero j)⟩, trivial⟩ ?_
  refine N.obl trivial ?_
  refine N.obl ⟨⟨.inr ⟨_, rfl, rfl⟩, trivial⟩, trivial⟩ ?_
  exact N.true
set_option maxRecDepth 100000 in
set_option maxHeartbeats 2000000 in
theorem cRDoubleY (L : List Ml) (x : Nat) (m : Ml) (hm : L[x]? = some m) (hl : L.length < 512) (hb : uN m.u ≤ 1000) (i : Nat) (h : List (Option Chunk)) (hi : h[i]? = some (some (airP L))) : CallOK Try.prog 18 [.pointer (some ⟨i, 0, some 0⟩), .int .i64 (x : Nat)] h (.bool true) [(i, airP (L ++ [(⟨m.to_, m.u, m.at_, m.tr, m.be⟩ : Ml)]))] [] := by
  refine call_res (G := tys) (fun _ : Unit => True) (fun _ => _) [⟨i, airP L, airP L, airP (L ++ [(⟨m.to_, m.u, m.at_, m.tr, m.be⟩ : Ml)])⟩] [] [.pointer (some ⟨0, 0, some 0⟩), .int .i64 (x : Nat)] tysOK mixed Try.func18 (by rfl) (Try.call18) ⟨hi, trivial⟩ ⟨⟨fun h => ⟨rfl, Nat.le_refl _⟩, Nat.le_refl _, fun j hj => absurd hj (Nat.not_lt_zero j)⟩, trivial⟩ (by simp [Apart]) ⟨.inr ⟨rfl, rfl⟩, trivial⟩ trivial ⟨.ptr rfl, .plain rfl, trivial⟩ Opens.same ?_
  rintro ⟨⟩ -
  repeat' (refine N.go ?_; first | with_reducible refine N.obl (by decide) ?_ | with_reducible refine N.obl (flat_wi _ _ _) ?_ | with_reducible refine N.obl (flat_lim _ _) ?_ | with_reducible refine N.eq ?_ | with_reducible refine N.obl rfl ?_ | with_reducible refine N.obl ⟨by kernel_rfl, by kernel_rfl⟩ ?_ | with_reducible refine N.alt ?_ | with_reducible refine N.forkT ?_ | with_reducible refine N.forkF ?_ | refine N.forkNo (by decide) ?_ | refine N.forkYes (by decide) ?_ | refine N.forkYes (by rw [decide_eq_true_eq]; omega) ?_ | refine N.forkNo (by rw [decide_eq_false_iff_not]; omega) ?_ | refine N.call (cRGetY _ x m hm 0 _ (by rfl)) ?_ | refine N.call (cRPutY _ _ _ _ _ _ hl hb 0 _ (by rfl)) ?_ | refine N.obl (mail_flat _ _ _ _ _) ?_ | fail_if_success skip)
  refine N.go ?_
  refine N.endSame ?_
  refine N.obl (.plain rfl) ?_
  refine N.obl ⟨⟨_, rfl, fun h => h, Nat.le_refl _, fun j hj => absurd hj (Nat.not_lt_zero j)⟩, trivial⟩ ?_
  refine N.obl trivial ?_
  refine N.obl ⟨⟨.inr ⟨_, rfl, rfl⟩, trivial⟩, trivial⟩ ?_
  exact N.true
set_option maxRecDepth 100000 in
set_option maxHeartbeats 2000000 in
theorem cRTakeBad (L : List Ml) (x : Int) (hx : x < 0 ∨ (L.length : Int) ≤ x) (i : Nat) (h : List (Option Chunk)) (hi : h[i]? = some (some (airP L))) : CallOK Try.prog 16 [.pointer (some ⟨i, 0, some 0⟩), .int .i64 x] h (.tuple ⟨[mailV 0 none 0 0 false, .bool false]⟩) [(i, airP L)] [] := by
  refine call_res (G := tys) (fun _ : Unit => True) (fun _ => _) [⟨i, airP L, airP L, airP L⟩] [] [.pointer (some ⟨0, 0, some 0⟩), .int .i64 x] tysOK mixed Try.func16 (by rfl) (Try.call16) ⟨hi, trivial⟩ ⟨⟨fun h => ⟨rfl, Nat.le_refl _⟩, Nat.le_refl _, fun j hj => absurd hj (Nat.not_lt_zero j)⟩, trivial⟩ (by simp [Apart]) ⟨.inr ⟨rfl, rfl⟩, trivial⟩ trivial ⟨.ptr rfl, .plain rfl, trivial⟩ Opens.same ?_
  rintro ⟨⟩ -
  repeat' (refine N.go ?_; first | with_reducible refine N.obl (by decide) ?_ | with_reducible refine N.obl (flat_wi _ _ _) ?_ | with_reducible refine N.obl (flat_lim _ _) ?_ | with_reducible refine N.eq ?_ | with_reducible refine N.obl rfl ?_ | with_reducible refine N.obl ⟨by kernel_rfl, by kernel_rfl⟩ ?_ | with_reducible refine N.alt ?_ | with_reducible refine N.forkT ?_ | with_reducible refine N.forkF ?_ | refine N.forkNo (by decide) ?_ | refine N.forkYes (by decide) ?_ | refine N.forkYes (by rw [decide_eq_true_eq]; omega) ?_ | refine N.forkNo (by rw [decide_eq_false_iff_not]; omega) ?_ | refine N.call (cRGetBad _ x hx 0 _ (by rfl)) ?_ | refine N.obl (mail_flat _ _ _ _ _) ?_ | fail_if_success skip)
  refine N.go ?_
  refine N.endSame ?_
  repeat' (refine N.go ?_; first | with_reducible refine N.obl (by decide) ?_ | with_reducible refine N.obl (flat_wi _ _ _) ?_ | with_reducible refine N.obl (flat_lim _ _) ?_ | with_reducible refine N.eq ?_ | with_reducible refine N.obl rfl ?_ | with_reducible refine N.obl ⟨by kernel_rfl, by kernel_rfl⟩ ?_ | with_reducible refine N.alt ?_ | with_reducible refine N.forkT ?_ | with_reducible refine N.forkF ?_ | refine N.obl (.tuple ⟨mailV_re _ _ _ _ _, .plain rfl, trivial⟩) ?_ | refine N.obl (.plain rfl) ?_ | refine N.obl ⟨⟨_, rfl, fun h => h, Nat.le_refl _, fun j hj => absurd hj (Nat.not_lt_zero j)⟩, trivial⟩ ?_ | refine N.obl trivial ?_ | refine N.obl ⟨⟨.inr ⟨_, rfl, rfl⟩, trivial⟩, trivial⟩ ?_ | exact N.true | fail_if_success skip)
end Go.Proofs.Ytgikbmohmomgbaa
