
/-
  The walks of air at mails with bytes: what is refused; the document's air.
-/
import Derived.Test.YtgikbmohmomgbaaAirV
set_option linter.unusedVariables false
set_option linter.unusedSimpArgs false
namespace Go.Proofs.Ytgikbmohmomgbaa
open Go Go.RowKit Sx

set_option maxRecDepth 100000 in
set_option maxHeartbeats 2000000 in
theorem cPutFull (L : List Ml) (to_ at_ tr : Int) (be : Bool) (u : Option Sl) (hl : 512 ≤ L.length) (i : Nat) (h : List (Option Chunk)) (hi : h[i]? = some (some (airP L))) : CallOK Try.prog 9 [.pointer (some ⟨i, 0, some 0⟩), mailV to_ u at_ tr be] h (.bool false) [(i, airP (L))] [] := by
  refine call_res (G := tys) (airOK L) (airH L) [⟨i, airP L, airP L, airP (L)⟩] [] [.pointer (some ⟨0, 0, some 0⟩), mailV to_ u at_ tr be] tysOK mixed Try.func9 (by rfl) (Try.call9) ⟨hi, trivial⟩ ⟨⟨fun h => ⟨rfl, Nat.le_refl _⟩, Nat.le_refl _, fun j hj => absurd hj (Nat.not_lt_zero j)⟩, trivial⟩ (by simp [Apart]) ⟨.inr ⟨rfl, rfl⟩, trivial⟩ trivial ⟨.ptr rfl, mailV_re _ _ _ _ _, trivial⟩ pack_opens ?_
  intro β hβ
  cases β with
  | none =>
    obtain rfl : L = [] := hβ
    exact absurd hl (by decide)
  | some r =>
    obtain ⟨c, T⟩ := r
    obtain ⟨hc1, hlc, hT⟩ := hβ
    repeat' (refine N.go ?_; first | with_reducible refine N.obl (by decide) ?_ | with_reducible refine N.obl (flat_wi _ _ _) ?_ | with_reducible refine N.obl (flat_lim _ _) ?_ | with_reducible refine N.eq ?_ | with_reducible refine N.obl rfl ?_ | with_reducible refine N.obl ⟨by kernel_rfl, by kernel_rfl⟩ ?_ | with_reducible refine N.alt ?_ | with_reducible refine N.forkT ?_ | with_reducible refine N.forkF ?_ | refine N.forkNo (by decide) ?_ | refine N.forkYes (by decide) ?_ | refine N.forkYes (by rw [decide_eq_true_eq]; omega) ?_ | refine N.forkNo (by rw [decide_eq_false_iff_not]; omega) ?_ | refine N.op (ok_lenU rfl rfl ⟨_, rfl, _, Try.underlying26⟩) ?_ | refine N.obl (mail_flat _ _ _ _ _) ?_ | fail_if_success skip)
    refine N.go ?_
    refine airCloseG 0 [] (L) 1 c (T) one_bs one_pc hc1 hlc hT (by rfl) rfl (Nat.le_refl _) rfl (by rfl) (by decide) rfl (Nat.le_refl _) (fun j hj => eqv_of (seg_cell hj)) (fun x hx => by cases hx) (fun x hx => by cases hx) (plain_sc' rfl) ?_
    refine N.obl (.plain rfl) ?_
    refine N.obl ⟨⟨_, rfl, fun h => h, Nat.le_refl _, fun j hj => absurd hj (Nat.not_lt_zero j)⟩, trivial⟩ ?_
    refine N.obl trivial ?_
    refine N.obl ⟨⟨.inr ⟨_, rfl, rfl⟩, trivial⟩, trivial⟩ ?_
    exact N.true
set_option maxRecDepth 100000 in
set_option maxHeartbeats 2000000 in
theorem cRPutFull (L : List Ml) (to_ at_ tr : Int) (be : Bool) (u : Option Sl) (hl : 512 ≤ L.length) (i : Nat) (h : List (Option Chunk)) (hi : h[i]? = some (some (airP L))) : CallOK Try.prog 14 [.pointer (some ⟨i, 0, some 0⟩), mailV to_ u at_ tr be] h (.bool false) [(i, airP (L))] [] := by
  refine call_res (G := tys) (airOK L) (airH L) [⟨i, airP L, airP L, airP (L)⟩] [] [.pointer (some ⟨0, 0, some 0⟩), mailV to_ u at_ tr be] tysOK mixed Try.func14 (by rfl) (Try.call14) ⟨hi, trivial⟩ ⟨⟨fun h => ⟨rfl, Nat.le_refl _⟩, Nat.le_refl _, fun j hj => absurd hj (Nat.not_lt_zero j)⟩, trivial⟩ (by simp [Apart]) ⟨.inr ⟨rfl, rfl⟩, trivial⟩ trivial ⟨.ptr rfl, mailV_re _ _ _ _ _, trivial⟩ pack_opens ?_
  intro β hβ
  cases β with
  | none =>
    obtain rfl : L = [] := hβ
    exact absurd hl (by decide)
  | some r =>
    obtain ⟨c, T⟩ := r
    obtain ⟨hc1, hlc, hT⟩ := hβ
    repeat' (refine N.go ?_; first | with_reducible refine N.obl (by decide) ?_ | with_reducible refine N.obl (flat_wi _ _ _) ?_ | with_reducible refine N.obl (flat_lim _ _) ?_ | with_reducible refine N.eq ?_ | with_reducible refine N.obl rfl ?_ | with_reducible refine N.obl ⟨by kernel_rfl, by kernel_rfl⟩ ?_ | with_reducible refine N.alt ?_ | with_reducible refine N.forkT ?_ | with_reducible refine N.forkF ?_ | refine N.forkNo (by decide) ?_ | refine N.forkYes (by decide) ?_ | refine N.forkYes (by rw [decide_eq_true_eq]; omega) ?_ | refine N.forkNo (by rw [decide_eq_false_iff_not]; omega) ?_ | refine N.op (ok_lenU rfl rfl ⟨_, rfl, _, Try.underlying26⟩) ?_ | refine N.obl (mail_flat _ _ _ _ _) ?_ | fail_if_success skip)
    refine N.go ?_
    refine airCloseG 0 [] (L) 1 c (T) one_bs one_pc hc1 hlc hT (by rfl) rfl (Nat.le_refl _) rfl (by rfl) (by decide) rfl (Nat.le_refl _) (fun j hj => eqv_of (seg_cell hj)) (fun x hx => by cases hx) (fun x hx => by cases hx) (plain_sc' rfl) ?_
    refine N.obl (.plain rfl) ?_
    refine N.obl ⟨⟨_, rfl, fun h => h, Nat.le_refl _, fun j hj => absurd hj (Nat.not_lt_zero j)⟩, trivial⟩ ?_
    refine N.obl trivial ?_
    refine N.obl ⟨⟨.inr ⟨_, rfl, rfl⟩, trivial⟩, trivial⟩ ?_
    exact N.true
set_option maxRecDepth 100000 in
set_option maxHeartbeats 2000000 in
theorem cPutBig (L : List Ml) (to_ at_ tr : Int) (be : Bool) (u : Option Sl) (hl : L.length < 512) (hb : 1000 < uN u) (i : Nat) (h : List (Option Chunk)) (hi : h[i]? = some (some (airP L))) : CallOK Try.prog 9 [.pointer (some ⟨i, 0, some 0⟩), mailV to_ u at_ tr be] h (.bool false) [(i, airP (L))] [] := by
  refine call_res (G := tys) (airOK L) (airH L) [⟨i, airP L, airP L, airP (L)⟩] [] [.pointer (some ⟨0, 0, some 0⟩), mailV to_ u at_ tr be] tysOK mixed Try.func9 (by rfl) (Try.call9) ⟨hi, trivial⟩ ⟨⟨fun h => ⟨rfl, Nat.le_refl _⟩, Nat.le_refl _, fun j hj => absurd hj (Nat.not_lt_zero j)⟩, trivial⟩ (by simp [Apart]) ⟨.inr ⟨rfl, rfl⟩, trivial⟩ trivial ⟨.ptr rfl, mailV_re _ _ _ _ _, trivial⟩ pack_opens ?_
  intro β hβ
  cases β with
  | none =>
    obtain rfl : L = [] := hβ
    repeat' (refine N.go ?_; first | with_reducible refine N.obl (by decide) ?_ | with_reducible refine N.obl (flat_wi _ _ _) ?_ | with_reducible refine N.obl (flat_lim _ _) ?_ | with_reducible refine N.eq ?_ | with_reducible refine N.obl rfl ?_ | with_reducible refine N.obl ⟨by kernel_rfl, by kernel_rfl⟩ ?_ | with_reducible refine N.alt ?_ | with_reducible refine N.forkT ?_ | with_reducible refine N.forkF ?_ | refine N.forkNo (by decide) ?_ | refine N.forkYes (by decide) ?_ | refine N.forkYes (by rw [decide_eq_true_eq]; omega) ?_ | refine N.forkNo (by rw [decide_eq_false_iff_not]; omega) ?_ | refine N.op (ok_lenU rfl rfl ⟨_, rfl, _, Try.underlying26⟩) ?_ | refine N.obl (mail_flat _ _ _ _ _) ?_ | fail_if_success skip)
    refine N.go ?_
    refine airClose0G 0 [] one_bs (fun _ => ⟨_, rfl, airP_ne [], packX_selfish⟩) (by rfl) rfl (Nat.le_refl _) rfl (fun x hx => by cases hx) (fun x hx => by cases hx) (plain_sc' rfl) ?_
    refine N.obl (.plain rfl) ?_
    refine N.obl ⟨⟨_, rfl, fun h => h, Nat.le_refl _, fun j hj => absurd hj (Nat.not_lt_zero j)⟩, trivial⟩ ?_
    refine N.obl trivial ?_
    refine N.obl ⟨⟨.inr ⟨_, rfl, rfl⟩, trivial⟩, trivial⟩ ?_
    exact N.true
  | some r =>
    obtain ⟨c, T⟩ := r
    obtain ⟨hc1, hlc, hT⟩ := hβ
    repeat' (refine N.go ?_; first | with_reducible refine N.obl (by decide) ?_ | with_reducible refine N.obl (flat_wi _ _ _) ?_ | with_reducible refine N.obl (flat_lim _ _) ?_ | with_reducible refine N.eq ?_ | with_reducible refine N.obl rfl ?_ | with_reducible refine N.obl ⟨by kernel_rfl, by kernel_rfl⟩ ?_ | with_reducible refine N.alt ?_ | with_reducible refine N.forkT ?_ | with_reducible refine N.forkF ?_ | refine N.forkNo (by decide) ?_ | refine N.forkYes (by decide) ?_ | refine N.forkYes (by rw [decide_eq_true_eq]; omega) ?_ | refine N.forkNo (by rw [decide_eq_false_iff_not]; omega) ?_ | refine N.op (ok_lenU rfl rfl ⟨_, rfl, _, Try.underlying26⟩) ?_ | refine N.obl (mail_flat _ _ _ _ _) ?_ | fail_if_success skip)
    refine N.go ?_
    refine airCloseG 0 [] (L) 1 c (T) one_bs one_pc hc1 hlc hT (by rfl) rfl (Nat.le_refl _) rfl (by rfl) (by decide) rfl (Nat.le_refl _) (fun j hj => eqv_of (seg_cell hj)) (fun x hx => by cases hx) (fun x hx => by cases hx) (plain_sc' rfl) ?_
    refine N.obl (.plain rfl) ?_
    refine N.obl ⟨⟨_, rfl, fun h => h, Nat.le_refl _, fun j hj => absurd hj (Nat.not_lt_zero j)⟩, trivial⟩ ?_
    refine N.obl trivial ?_
    refine N.obl ⟨⟨.inr ⟨_, rfl, rfl⟩, trivial⟩, trivial⟩ ?_
    exact N.true
set_option maxRecDepth 100000 in
set_option maxHeartbeats 2000000 in
theorem cRPutBig (L : List Ml) (to_ at_ tr : Int) (be : Bool) (u : Option Sl) (hl : L.length < 512) (hb : 1000 < uN u) (i : Nat) (h : List (Option Chunk)) (hi : h[i]? = some (some (airP L))) : CallOK Try.prog 14 [.pointer (some ⟨i, 0, some 0⟩), mailV to_ u at_ tr be] h (.bool false) [(i, airP (L))] [] := by
  refine call_res (G := tys) (airOK L) (airH L) [⟨i, airP L, airP L, airP (L)⟩] [] [.pointer (some ⟨0, 0, some 0⟩), mailV to_ u at_ tr be] tysOK mixed Try.func14 (by rfl) (Try.call14) ⟨hi, trivial⟩ ⟨⟨fun h => ⟨rfl, Nat.le_refl _⟩, Nat.le_refl _, fun j hj => absurd hj (Nat.not_lt_zero j)⟩, trivial⟩ (by simp [Apart]) ⟨.inr ⟨rfl, rfl⟩, trivial⟩ trivial ⟨.ptr rfl, mailV_re _ _ _ _ _, trivial⟩ pack_opens ?_
  intro β hβ
  cases β with
  | none =>
    obtain rfl : L = [] := hβ
    repeat' (refine N.go ?_; first | with_reducible refine N.obl (by decide) ?_ | with_reducible refine N.obl (flat_wi _ _ _) ?_ | with_reducible refine N.obl (flat_lim _ _) ?_ | with_reducible refine N.eq ?_ | with_reducible refine N.obl rfl ?_ | with_reducible refine N.obl ⟨by kernel_rfl, by kernel_rfl⟩ ?_ | with_reducible refine N.alt ?_ | with_reducible refine N.forkT ?_ | with_reducible refine N.forkF ?_ | refine N.forkNo (by decide) ?_ | refine N.forkYes (by decide) ?_ | refine N.forkYes (by rw [decide_eq_true_eq]; omega) ?_ | refine N.forkNo (by rw [decide_eq_false_iff_not]; omega) ?_ | refine N.op (ok_lenU rfl rfl ⟨_, rfl, _, Try.underlying26⟩) ?_ | refine N.obl (mail_flat _ _ _ _ _) ?_ | fail_if_success skip)
    refine N.go ?_
    refine airClose0G 0 [] one_bs (fun _ => ⟨_, rfl, airP_ne [], packX_selfish⟩) (by rfl) rfl (Nat.le_refl _) rfl (fun x hx => by cases hx) (fun x hx => by cases hx) (plain_sc' rfl) ?_
    refine N.obl (.plain rfl) ?_
    refine N.obl ⟨⟨_, rfl, fun h => h, Nat.le_refl _, fun j hj => absurd hj (Nat.not_lt_zero j)⟩, trivial⟩ ?_
    refine N.obl trivial ?_
    refine N.obl ⟨⟨.inr ⟨_, rfl, rfl⟩, trivial⟩, trivial⟩ ?_
    exact N.true
  | some r =>
    obtain ⟨c, T⟩ := r
    obtain ⟨hc1, hlc, hT⟩ := hβ
    repeat' (refine N.go ?_; first | with_reducible refine N.obl (by decide) ?_ | with_reducible refine N.obl (flat_wi _ _ _) ?_ | with_reducible refine N.obl (flat_lim _ _) ?_ | with_reducible refine N.eq ?_ | with_reducible refine N.obl rfl ?_ | with_reducible refine N.obl ⟨by kernel_rfl, by kernel_rfl⟩ ?_ | with_reducible refine N.alt ?_ | with_reducible refine N.forkT ?_ | with_reducible refine N.forkF ?_ | refine N.forkNo (by decide) ?_ | refine N.forkYes (by decide) ?_ | refine N.forkYes (by rw [decide_eq_true_eq]; omega) ?_ | refine N.forkNo (by rw [decide_eq_false_iff_not]; omega) ?_ | refine N.op (ok_lenU rfl rfl ⟨_, rfl, _, Try.underlying26⟩) ?_ | refine N.obl (mail_flat _ _ _ _ _) ?_ | fail_if_success skip)
    refine N.go ?_
    refine airCloseG 0 [] (L) 1 c (T) one_bs one_pc hc1 hlc hT (by rfl) rfl (Nat.le_refl _) rfl (by rfl) (by decide) rfl (Nat.le_refl _) (fun j hj => eqv_of (seg_cell hj)) (fun x hx => by cases hx) (fun x hx => by cases hx) (plain_sc' rfl) ?_
    refine N.obl (.plain rfl) ?_
    refine N.obl ⟨⟨_, rfl, fun h => h, Nat.le_refl _, fun j hj => absurd hj (Nat.not_lt_zero j)⟩, trivial⟩ ?_
    refine N.obl trivial ?_
    refine N.obl ⟨⟨.inr ⟨_, rfl, rfl⟩, trivial⟩, trivial⟩ ?_
    exact N.true
set_option maxRecDepth 100000 in
set_option maxHeartbeats 2000000 in
theorem cDoubleBad (L : List Ml) (x : Int) (hx : x < 0 ∨ (L.length : Int) ≤ x) (i : Nat) (h : List (Option Chunk)) (hi : h[i]? = some (some (airP L))) : CallOK Try.prog 10 [.pointer (some ⟨i, 0, some 0⟩), .int .i64 x] h (.bool false) [(i, airP (L))] [] := by
  refine call_res (G := tys) (fun _ : Unit => True) (fun _ => _) [⟨i, airP L, airP L, airP (L)⟩] [] [.pointer (some ⟨0, 0, some 0⟩), .int .i64 x] tysOK mixed Try.func10 (by rfl) (Try.call10) ⟨hi, trivial⟩ ⟨⟨fun h => ⟨rfl, Nat.le_refl _⟩, Nat.le_refl _, fun j hj => absurd hj (Nat.not_lt_zero j)⟩, trivial⟩ (by simp [Apart]) ⟨.inr ⟨rfl, rfl⟩, trivial⟩ trivial ⟨.ptr rfl, .plain rfl, trivial⟩ Opens.same ?_
  rintro ⟨⟩ -
  repeat' (refine N.go ?_; first | with_reducible refine N.obl (by decide) ?_ | with_reducible refine N.obl (flat_wi _ _ _) ?_ | with_reducible refine N.obl (flat_lim _ _) ?_ | with_reducible refine N.eq ?_ | with_reducible refine N.obl rfl ?_ | with_reducible refine N.obl ⟨by kernel_rfl, by kernel_rfl⟩ ?_ | with_reducible refine N.alt ?_ | with_reducible refine N.forkT ?_ | with_reducible refine N.forkF ?_ | refine N.forkNo (by decide) ?_ | refine N.forkYes (by decide) ?_ | refine N.forkYes (by rw [decide_eq_true_eq]; omega) ?_ | refine N.forkNo (by rw [decide_eq_false_iff_not]; omega) ?_ | refine N.call (cGetBad _ x hx 0 _ (by rfl)) ?_ | refine N.obl (mail_flat _ _ _ _ _) ?_ | fail_if_success skip)
  refine N.go ?_
  refine N.endSame ?_
  refine N.obl (.plain rfl) ?_
  refine N.obl ⟨⟨_, rfl, fun h => h, Nat.le_refl _, fun j hj => absurd hj (Nat.not_lt_zero j)⟩, trivial⟩ ?_
  refine N.obl trivial ?_
  refine N.obl ⟨⟨.inr ⟨_, rfl, rfl⟩, trivial⟩, trivial⟩ ?_
  exact N.true
set_option maxRecDepth 100000 in
set_option maxHeartbeats 2000000 in
theorem cDoubleFull (W : World) (F : List By) (L : List Ml) (x : Nat) (m : Ml) (bs : List Int) (i j : Nat) (hij : i ≠ j) (h : List (Option Chunk)) (hi : h[i]? = some (some (airP L))) (hj : h[j]? = some (some (memC W F))) (hm : L[x]? = some m) (hs : Src W F m.u bs) (hb : bs.length ≤ 1000) (hl : 512 ≤ L.length) :
    CallAll Try.prog 10 [.pointer (some ⟨i, 0, some 0⟩), .int .i64 (x : Nat)] h (fun v ms => ∃ u' F', Made F bs u' F' ∧ v = .bool false ∧ ms = [(i, airP L), (j, memC W F')]) := by
  refine CallAll.to (call_resall (G := tys) (h := h) (vs := [.pointer (some ⟨i, 0, some 0⟩), .int .i64 (x : Nat)]) (fun _ : Unit => True) (fun _ => partH [⟨i, airP L, airP L, airP L⟩, ⟨j, memC W F, memC W F, memC W F⟩]) (α := Option Sl × List By) (fun κ => Made F bs κ.1 κ.2) (fun κ => .bool false) [⟨i, airP L, airP L, airP L⟩, ⟨j, memC W F, memC W F, memC W F⟩] (fun κ => [airP (L), memC W (κ.2)]) (fun κ => []) [.pointer (some ⟨0, 0, some 0⟩), .int .i64 (x : Nat)] tysOK mixed Try.func10 (by rfl) (Try.call10) ⟨hi, hj, trivial⟩ ⟨⟨fun h => ⟨rfl, Nat.le_refl _⟩, Nat.le_refl _, fun j hj => absurd hj (Nat.not_lt_zero j)⟩, ⟨fun h => ⟨rfl, Nat.le_refl _⟩, Nat.le_refl _, fun j hj => absurd hj (Nat.not_lt_zero j)⟩, trivial⟩ (fun κ _ => ⟨⟨fun h => ⟨rfl, Nat.le_refl _⟩, Nat.le_refl _, fun j hj => absurd hj (Nat.not_lt_zero j)⟩, ⟨fun h => ⟨rfl, Nat.le_refl _⟩, Nat.le_refl _, fun j hj => absurd hj (Nat.not_lt_zero j)⟩, trivial⟩) (by simp [Apart, hij]) ⟨.inr ⟨rfl, rfl⟩, .inr ⟨rfl, rfl⟩, trivial⟩ (fun κ _ => trivial) ⟨.ptr rfl, .plain rfl, trivial⟩ Opens.same ?_) ?_
  rotate_left
  · rintro v ms ⟨κ, hκ, rfl, rfl⟩
    exact ⟨κ.1, κ.2, hκ, rfl, rfl⟩
  rintro ⟨⟩ -
  repeat' (refine N.go ?_; first | with_reducible refine N.obl (by decide) ?_ | with_reducible refine N.obl (flat_wi _ _ _) ?_ | with_reducible refine N.obl (flat_lim _ _) ?_ | with_reducible refine N.eq ?_ | with_reducible refine N.obl rfl ?_ | with_reducible refine N.obl ⟨by kernel_rfl, by kernel_rfl⟩ ?_ | with_reducible refine N.alt ?_ | with_reducible refine N.forkT ?_ | with_reducible refine N.forkF ?_ | refine N.forkNo (by decide) ?_ | refine N.forkYes (by decide) ?_ | refine N.obl (mail_flat _ _ _ _ _) ?_ | fail_if_success skip)
  refine N.go ?_
  refine N.callAll (cGetM W F L x m bs 0 1 (by decide) _ (by rfl) (by rfl) hm hs (by omega)) fun v ms hR => ?_
  obtain ⟨u1, F1, hM1, rfl, rfl⟩ := hR
  repeat' (refine N.go ?_; first | with_reducible refine N.obl (by decide) ?_ | with_reducible refine N.obl (flat_wi _ _ _) ?_ | with_reducible refine N.obl (flat_lim _ _) ?_ | with_reducible refine N.eq ?_ | with_reducible refine N.obl rfl ?_ | with_reducible refine N.obl ⟨by kernel_rfl, by kernel_rfl⟩ ?_ | with_reducible refine N.alt ?_ | with_reducible refine N.forkT ?_ | with_reducible refine N.forkF ?_ | refine N.forkNo (by decide) ?_ | refine N.forkYes (by decide) ?_ | refine N.call (cPutFull L _ _ _ _ _ hl 0 _ (by rfl)) ?_ | refine N.obl (mail_flat _ _ _ _ _) ?_ | fail_if_success skip)
  refine N.go ?_
  refine N.endSame ?_
  refine N.some (u1, F1) ⟨hM1, ?_⟩
  refine N.obl (.plain rfl) ?_
  refine N.obl ⟨⟨_, rfl, fun h => h, Nat.le_refl _, fun j hj => absurd hj (Nat.not_lt_zero j)⟩, ⟨_, rfl, fun h => h, Nat.le_refl _, fun j hj => absurd hj (Nat.not_lt_zero j)⟩, trivial⟩ ?_
  refine N.obl trivial ?_
  refine N.obl ⟨⟨.inr ⟨_, rfl, rfl⟩, .inr ⟨_, rfl, rfl⟩, trivial⟩, trivial⟩ ?_
  exact N.true
set_option maxRecDepth 100000 in
set_option maxHeartbeats 2000000 in
theorem cRPutY (L : List Ml) (to_ at_ tr : Int) (be : Bool) (u : Option Sl) (hl : L.length < 512) (hb : uN u ≤ 1000) (i : Nat) (h : List (Option Chunk)) (hi : h[i]? = some (some (airP L))) : CallOK Try.prog 14 [.pointer (some ⟨i, 0, some 0⟩), mailV to_ u at_ tr be] h (.bool true) [(i, airP (L ++ [(Ml.mk to_ u at_ tr be)]))] [] := by
  refine call_res (G := tys) (airOK L) (airH L) [⟨i, airP L, airP L, airP (L ++ [(Ml.mk to_ u at_ tr be)])⟩] [] [.pointer (some ⟨0, 0, some 0⟩), mailV to_ u at_ tr be] tysOK mixed Try.func14 (by rfl) (Try.call14) ⟨hi, trivial⟩ ⟨⟨fun h => ⟨rfl, Nat.le_refl _⟩, Nat.le_refl _, fun j hj => absurd hj (Nat.not_lt_zero j)⟩, trivial⟩ (by simp [Apart]) ⟨.inr ⟨rfl, rfl⟩, trivial⟩ trivial ⟨.ptr rfl, mailV_re _ _ _ _ _, trivial⟩ pack_opens ?_
  intro β hβ
  cases β with
  | none =>
    obtain rfl : L = [] := hβ
    repeat' (refine N.go ?_; first | with_reducible refine N.obl (by decide) ?_ | with_reducible refine N.obl (flat_wi _ _ _) ?_ | with_reducible refine N.obl (flat_lim _ _) ?_ | with_reducible refine N.eq ?_ | with_reducible refine N.obl rfl ?_ | with_reducible refine N.obl ⟨by kernel_rfl, by kernel_rfl⟩ ?_ | with_reducible refine N.alt ?_ | with_reducible refine N.forkT ?_ | with_reducible refine N.forkF ?_ | refine N.forkNo (by decide) ?_ | refine N.forkYes (by decide) ?_ | refine N.forkYes (by rw [decide_eq_true_eq]; omega) ?_ | refine N.forkNo (by rw [decide_eq_false_iff_not]; omega) ?_ | refine N.op (ok_lenU rfl rfl ⟨_, rfl, _, Try.underlying26⟩) ?_ | refine N.obl (mail_flat _ _ _ _ _) ?_ | fail_if_success skip)
    refine N.go ?_
    refine N.plan [0, 1, 2, 3, 4, 5, 6, 8, 9] [(7, [10])] (by kernel_rfl) ?_
    repeat' (refine N.go ?_; first | with_reducible refine N.obl (by decide) ?_ | with_reducible refine N.obl (flat_wi _ _ _) ?_ | with_reducible refine N.obl (flat_lim _ _) ?_ | with_reducible refine N.eq ?_ | with_reducible refine N.obl rfl ?_ | with_reducible refine N.obl ⟨by kernel_rfl, by kernel_rfl⟩ ?_ | with_reducible refine N.alt ?_ | with_reducible refine N.forkT ?_ | with_reducible refine N.forkF ?_ | refine N.forkNo (by decide) ?_ | refine N.forkYes (by decide) ?_ | refine N.forkYes (by rw [decide_eq_true_eq]; omega) ?_ | refine N.forkNo (by rw [decide_eq_false_iff_not]; omega) ?_ | refine N.op (ok_lenU rfl rfl ⟨_, rfl, _, Try.underlying26⟩) ?_ | refine N.obl (mail_flat _ _ _ _ _) ?_ | fail_if_success skip)
    refine N.go ?_
    refine N.obl (by show midB _ _ _ _ = Bool.true; kernel_rfl) ?_
    refine N.go ?_
    refine App0N.mk1 (Ml.v (Ml.mk to_ u at_ tr be)) ⟨Nat.le_refl _, _, rfl, rfl, fun j hj => by
      match j, hj with
      | 0, _ => rfl
      | 1, _ => rfl
      | 2, _ => rfl
      | 3, _ => rfl
      | 4, _ => rfl⟩ (by decide) (by decide) (by decide) fun c hc => ?_
    repeat' (refine N.go ?_; first | with_reducible refine N.obl (by decide) ?_ | with_reducible refine N.obl (flat_wi _ _ _) ?_ | with_reducible refine N.obl (flat_lim _ _) ?_ | with_reducible refine N.eq ?_ | with_reducible refine N.obl rfl ?_ | with_reducible refine N.obl ⟨by kernel_rfl, by kernel_rfl⟩ ?_ | with_reducible refine N.alt ?_ | with_reducible refine N.forkT ?_ | with_reducible refine N.forkF ?_ | refine N.forkNo (by decide) ?_ | refine N.forkYes (by decide) ?_ | refine N.obl (mail_flat _ _ _ _ _) ?_ | refine N.obl (by show endB _ _ = Bool.true; kernel_rfl) ?_ | fail_if_success skip)
    refine N.go ?_
    refine airCloseG 0 [] ([] ++ [(Ml.mk to_ u at_ tr be)]) 4 c (growM (fun _ => Ml.z) 0 (Ml.mk to_ u at_ tr be)) one_bs one_pc hc (by simpa using hc) (get_app (fun i m hm => by simp at hm) rfl) (by rfl) rfl (Nat.le_refl _) rfl (by rfl) (by decide) rfl (Nat.le_refl _) (fun j hj => grown_mlA rfl hc (fun j hj => absurd hj (by omega)) hj) (fun x hx => by cases hx) (fun x hx => by cases hx) (plain_sc' rfl) ?_
    refine N.obl (.plain rfl) ?_
    refine N.obl ⟨⟨_, rfl, fun h => h, Nat.le_refl _, fun j hj => absurd hj (Nat.not_lt_zero j)⟩, trivial⟩ ?_
    refine N.obl trivial ?_
    refine N.obl ⟨⟨.inr ⟨_, rfl, rfl⟩, trivial⟩, trivial⟩ ?_
    exact N.true
  | some r =>
    obtain ⟨c, T⟩ := r
    obtain ⟨hc1, hlc, hT⟩ := hβ
    repeat' (refine N.go ?_; first | with_reducible refine N.obl (by decide) ?_ | with_reducible refine N.obl (flat_wi _ _ _) ?_ | with_reducible refine N.obl (flat_lim _ _) ?_ | with_reducible refine N.eq ?_ | with_reducible refine N.obl rfl ?_ | with_reducible refine N.obl ⟨by kernel_rfl, by kernel_rfl⟩ ?_ | with_reducible refine N.alt ?_ | with_reducible refine N.forkT ?_ | with_reducible refine N.forkF ?_ | refine N.forkNo (by decide) ?_ | refine N.forkYes (by decide) ?_ | refine N.forkYes (by rw [decide_eq_true_eq]; omega) ?_ | refine N.forkNo (by rw [decide_eq_false_iff_not]; omega) ?_ | refine N.op (ok_lenU rfl rfl ⟨_, rfl, _, Try.underlying26⟩) ?_ | refine N.obl (mail_flat _ _ _ _ _) ?_ | fail_if_success skip)
    refine N.go ?_
    refine N.plan [0, 1, 2, 3, 4, 5, 6, 8, 9] [(7, [10])] (by kernel_rfl) ?_
    repeat' (refine N.go ?_; first | with_reducible refine N.obl (by decide) ?_ | with_reducible refine N.obl (flat_wi _ _ _) ?_ | with_reducible refine N.obl (flat_lim _ _) ?_ | with_reducible refine N.eq ?_ | with_reducible refine N.obl rfl ?_ | with_reducible refine N.obl ⟨by kernel_rfl, by kernel_rfl⟩ ?_ | with_reducible refine N.alt ?_ | with_reducible refine N.forkT ?_ | with_reducible refine N.forkF ?_ | refine N.forkNo (by decide) ?_ | refine N.forkYes (by decide) ?_ | refine N.forkYes (by rw [decide_eq_true_eq]; omega) ?_ | refine N.forkNo (by rw [decide_eq_false_iff_not]; omega) ?_ | refine N.op (ok_lenU rfl rfl ⟨_, rfl, _, Try.underlying26⟩) ?_ | refine N.obl (mail_flat _ _ _ _ _) ?_ | fail_if_success skip)
    refine N.go ?_
    refine N.obl (by show midB _ _ _ _ = Bool.true; kernel_rfl) ?_
    refine N.go ?_
    refine AppN.mk1 (Ml.v (Ml.mk to_ u at_ tr be)) ⟨Nat.le_refl _, _, rfl, rfl, fun j hj => by
      match j, hj with
      | 0, _ => rfl
      | 1, _ => rfl
      | 2, _ => rfl
      | 3, _ => rfl
      | 4, _ => rfl⟩ (by rfl) (by show L.length * 5 ≤ c * 5; omega) (by omega) (by show (L.length + 1) * 56 ≤ _; omega) (mlA true c (setM1 T L.length (Ml.mk to_ u at_ tr be))) (fun h => wr_mlA rfl (by omega) rfl) (fun hr => ?_) (fun hg cap hcap => ?_)
    · repeat' (refine N.go ?_; first | with_reducible refine N.obl (by decide) ?_ | with_reducible refine N.obl (flat_wi _ _ _) ?_ | with_reducible refine N.obl (flat_lim _ _) ?_ | with_reducible refine N.eq ?_ | with_reducible refine N.obl rfl ?_ | with_reducible refine N.obl ⟨by kernel_rfl, by kernel_rfl⟩ ?_ | with_reducible refine N.alt ?_ | with_reducible refine N.forkT ?_ | with_reducible refine N.forkF ?_ | refine N.forkNo (by decide) ?_ | refine N.forkYes (by decide) ?_ | refine N.obl (mail_flat _ _ _ _ _) ?_ | refine N.obl (by show endB _ _ = Bool.true; kernel_rfl) ?_ | fail_if_success skip)
      refine N.go ?_
      refine airCloseG 0 [] (L ++ [(Ml.mk to_ u at_ tr be)]) 1 c (setM1 T L.length (Ml.mk to_ u at_ tr be)) one_bs one_pc hc1 (by rw [List.length_append]; exact hr) (get_app (fun i m hm => by have := (List.getElem?_eq_some_iff.1 hm).1; rw [← hT i m hm]; exact setM1_ne (by omega)) (setM1_at _ _ _)) (by rfl) rfl (Nat.le_refl _) (by rw [List.length_append]; rfl) (by rfl) (by decide) rfl (Nat.le_refl _) (fun j hj => eqv_of (seg_cell hj)) (fun x hx => by cases hx) (fun x hx => by cases hx) (plain_sc' rfl) ?_
      refine N.obl (.plain rfl) ?_
      refine N.obl ⟨⟨_, rfl, fun h => h, Nat.le_refl _, fun j hj => absurd hj (Nat.not_lt_zero j)⟩, trivial⟩ ?_
      refine N.obl trivial ?_
      refine N.obl ⟨⟨.inr ⟨_, rfl, rfl⟩, trivial⟩, trivial⟩ ?_
      exact N.true
    · repeat' (refine N.go ?_; first | with_reducible refine N.obl (by decide) ?_ | with_reducible refine N.obl (flat_wi _ _ _) ?_ | with_reducible refine N.obl (flat_lim _ _) ?_ | with_reducible refine N.eq ?_ | with_reducible refine N.obl rfl ?_ | with_reducible refine N.obl ⟨by kernel_rfl, by kernel_rfl⟩ ?_ | with_reducible refine N.alt ?_ | with_reducible refine N.forkT ?_ | with_reducible refine N.forkF ?_ | refine N.forkNo (by decide) ?_ | refine N.forkYes (by decide) ?_ | refine N.obl (mail_flat _ _ _ _ _) ?_ | refine N.obl (by show endB _ _ = Bool.true; kernel_rfl) ?_ | fail_if_success skip)
      refine N.go ?_
      refine airCloseG 0 [] (L ++ [(Ml.mk to_ u at_ tr be)]) 4 cap (growM T L.length (Ml.mk to_ u at_ tr be)) one_bs one_pc (by omega) (by rw [List.length_append]; exact hcap) (get_app (fun i m hm => by have := (List.getElem?_eq_some_iff.1 hm).1; rw [← hT i m hm]; exact growM_lt (by omega)) (by unfold growM; rw [if_neg (Nat.lt_irrefl _), if_pos rfl])) (by rfl) rfl (Nat.le_refl _) (by rw [List.length_append]; rfl) (by rfl) (by decide) rfl (Nat.le_refl _) (fun j hj => grown_mlA rfl hcap (fun j hj => seg_cell (by omega)) hj) (fun x hx => by cases hx) (fun x hx => by cases hx) (plain_sc' rfl) ?_
      refine N.obl (.plain rfl) ?_
      refine N.obl ⟨⟨_, rfl, fun h => h, Nat.le_refl _, fun j hj => absurd hj (Nat.not_lt_zero j)⟩, trivial⟩ ?_
      refine N.obl trivial ?_
      refine N.obl ⟨⟨.inr ⟨_, rfl, rfl⟩, trivial⟩, trivial⟩ ?_
      exact N.true
end Go.Proofs.Ytgikbmohmomgbaa
