
/-
  The walks of air at mails with bytes: Double, Bend.
-/
import Derived.Test.YtgikbmohmomgbaaAirT
set_option linter.unusedVariables false
set_option linter.unusedSimpArgs false
namespace Go.Proofs.Ytgikbmohmomgbaa
open Go Go.RowKit Sx

/-- What a second copy makes of memory, after a first one. -/
theorem Made.len {F F' : List By} {bs : List Int} {u : Option Sl} (h : Made F bs u F') : bs.length = uN u := by
  cases h with
  | nil h => subst h; rfl
  | new hb => rfl
set_option maxRecDepth 100000 in
set_option maxHeartbeats 2000000 in
theorem cDoubleM (W : World) (F : List By) (L : List Ml) (x : Nat) (m : Ml) (bs : List Int) (i j : Nat) (hij : i ≠ j) (h : List (Option Chunk)) (hi : h[i]? = some (some (airP L))) (hj : h[j]? = some (some (memC W F))) (hm : L[x]? = some m) (hs : Src W F m.u bs) (hb : bs.length ≤ 1000) (hl : L.length < 512) :
    CallAll Try.prog 10 [.pointer (some ⟨i, 0, some 0⟩), .int .i64 (x : Nat)] h (fun v ms => ∃ u1 F1 u2 F2, (Made F bs u1 F1 ∧ Made F1 bs u2 F2) ∧ v = .bool true ∧ ms = [(i, airP (L ++ [⟨m.to_, u2, m.at_, m.tr, m.be⟩])), (j, memC W F2)]) := by
  refine CallAll.to (call_resall (G := tys) (h := h) (vs := [.pointer (some ⟨i, 0, some 0⟩), .int .i64 (x : Nat)]) (fun _ : Unit => True) (fun _ => partH [⟨i, airP L, airP L, airP L⟩, ⟨j, memC W F, memC W F, memC W F⟩]) (α := (Option Sl × List By) × (Option Sl × List By)) (fun κ => Made F bs κ.1.1 κ.1.2 ∧ Made κ.1.2 bs κ.2.1 κ.2.2) (fun κ => .bool true) [⟨i, airP L, airP L, airP L⟩, ⟨j, memC W F, memC W F, memC W F⟩] (fun κ => [airP (L ++ [⟨m.to_, κ.2.1, m.at_, m.tr, m.be⟩]), memC W (κ.2.2)]) (fun κ => []) [.pointer (some ⟨0, 0, some 0⟩), .int .i64 (x : Nat)] tysOK mixed Try.func10 (by rfl) (Try.call10) ⟨hi, hj, trivial⟩ ⟨⟨fun h => ⟨rfl, Nat.le_refl _⟩, Nat.le_refl _, fun j hj => absurd hj (Nat.not_lt_zero j)⟩, ⟨fun h => ⟨rfl, Nat.le_refl _⟩, Nat.le_refl _, fun j hj => absurd hj (Nat.not_lt_zero j)⟩, trivial⟩ (fun κ _ => ⟨⟨fun h => ⟨rfl, Nat.le_refl _⟩, Nat.le_refl _, fun j hj => absurd hj (Nat.not_lt_zero j)⟩, ⟨fun h => ⟨rfl, Nat.le_refl _⟩, Nat.le_refl _, fun j hj => absurd hj (Nat.not_lt_zero j)⟩, trivial⟩) (by simp [Apart, hij]) ⟨.inr ⟨rfl, rfl⟩, .inr ⟨rfl, rfl⟩, trivial⟩ (fun κ _ => trivial) ⟨.ptr rfl, .plain rfl, trivial⟩ Opens.same ?_) ?_
  rotate_left
  · rintro v ms ⟨κ, hκ, rfl, rfl⟩
    exact ⟨κ.1.1, κ.1.2, κ.2.1, κ.2.2, hκ, rfl, rfl⟩
  rintro ⟨⟩ -
  repeat' (refine N.go ?_; first | with_reducible refine N.obl (by decide) ?_ | with_reducible refine N.obl (flat_wi _ _ _) ?_ | with_reducible refine N.obl (flat_lim _ _) ?_ | with_reducible refine N.eq ?_ | with_reducible refine N.obl rfl ?_ | with_reducible refine N.obl ⟨by kernel_rfl, by kernel_rfl⟩ ?_ | with_reducible refine N.alt ?_ | with_reducible refine N.forkT ?_ | with_reducible refine N.forkF ?_ | refine N.forkNo (by decide) ?_ | refine N.forkYes (by decide) ?_ | refine N.obl (mail_flat _ _ _ _ _) ?_ | fail_if_success skip)
  refine N.go ?_
  refine N.callAll (cGetM W F L x m bs 0 1 (by decide) _ (by rfl) (by rfl) hm hs (by omega)) fun v ms hR => ?_
  obtain ⟨u1, F1, hM1, rfl, rfl⟩ := hR
  repeat' (refine N.go ?_; first | with_reducible refine N.obl (by decide) ?_ | with_reducible refine N.obl (flat_wi _ _ _) ?_ | with_reducible refine N.obl (flat_lim _ _) ?_ | with_reducible refine N.eq ?_ | with_reducible refine N.obl rfl ?_ | with_reducible refine N.obl ⟨by kernel_rfl, by kernel_rfl⟩ ?_ | with_reducible refine N.alt ?_ | with_reducible refine N.forkT ?_ | with_reducible refine N.forkF ?_ | refine N.forkNo (by decide) ?_ | refine N.forkYes (by decide) ?_ | refine N.obl (mail_flat _ _ _ _ _) ?_ | fail_if_success skip)
  refine N.go ?_
  refine N.callAll (cPutM W F1 L m.to_ m.at_ m.tr m.be u1 bs 0 1 (by decide) _ (by rfl) (by rfl) hM1.src hb hl) fun v ms hR => ?_
  obtain ⟨u2, F2, hM2, rfl, rfl⟩ := hR
  repeat' (refine N.go ?_; first | with_reducible refine N.obl (by decide) ?_ | with_reducible refine N.obl (flat_wi _ _ _) ?_ | with_reducible refine N.obl (flat_lim _ _) ?_ | with_reducible refine N.eq ?_ | with_reducible refine N.obl rfl ?_ | with_reducible refine N.obl ⟨by kernel_rfl, by kernel_rfl⟩ ?_ | with_reducible refine N.alt ?_ | with_reducible refine N.forkT ?_ | with_reducible refine N.forkF ?_ | refine N.forkNo (by decide) ?_ | refine N.forkYes (by decide) ?_ | refine N.obl (mail_flat _ _ _ _ _) ?_ | fail_if_success skip)
  refine N.go ?_
  refine N.endSame ?_
  refine N.some ((u1, F1), (u2, F2)) ⟨⟨hM1, hM2⟩, ?_⟩
  refine N.obl (.plain rfl) ?_
  refine N.obl ⟨⟨_, rfl, fun h => h, Nat.le_refl _, fun j hj => absurd hj (Nat.not_lt_zero j)⟩, ⟨_, rfl, fun h => h, Nat.le_refl _, fun j hj => absurd hj (Nat.not_lt_zero j)⟩, trivial⟩ ?_
  refine N.obl trivial ?_
  refine N.obl ⟨⟨.inr ⟨_, rfl, rfl⟩, .inr ⟨_, rfl, rfl⟩, trivial⟩, trivial⟩ ?_
  exact N.true
theorem rd_mlE {o : Bool} {c p n : Nat} {T : Nat → Ml} {m : Ml} (i k : Nat) (hm : T i = m) (hk : k < 5) (h : i < c) (e : p = i * 5 + k) {v : Value} (hv : v = mlc m k) : Reads (mlA o c T) p false n v := by
  subst hv hm; exact rd_mlc i k hk h e
set_option maxRecDepth 100000 in
set_option maxHeartbeats 2000000 in
theorem cBendNone1 (L : List Ml) (x q : Int) (b : Int) (hx : x < 0) (i : Nat) (h : List (Option Chunk)) (hi : h[i]? = some (some (airP L))) : CallOK Try.prog 11 [.pointer (some ⟨i, 0, some 0⟩), .int .i64 x, .int .i64 q, .int .u8 b] h (.int .i64 7) [(i, airP L)] [] := by
  refine call_res (G := tys) (airOK L) (airH L) [⟨i, airP L, airP L, airP L⟩] [] [.pointer (some ⟨0, 0, some 0⟩), .int .i64 x, .int .i64 q, .int .u8 b] tysOK mixed Try.func11 (by rfl) (Try.call11) ⟨hi, trivial⟩ ⟨⟨fun h => ⟨rfl, Nat.le_refl _⟩, Nat.le_refl _, fun j hj => absurd hj (Nat.not_lt_zero j)⟩, trivial⟩ (by simp [Apart]) ⟨.inr ⟨rfl, rfl⟩, trivial⟩ trivial ⟨.ptr rfl, .plain rfl, .plain rfl, .plain rfl, trivial⟩ pack_opens ?_
  intro β hβ
  cases β with
  | none =>
    obtain rfl : L = [] := hβ
    repeat' (refine N.go ?_; first | with_reducible refine N.obl (by decide) ?_ | with_reducible refine N.obl (flat_wi _ _ _) ?_ | with_reducible refine N.obl (flat_lim _ _) ?_ | with_reducible refine N.eq ?_ | with_reducible refine N.obl rfl ?_ | with_reducible refine N.obl ⟨by kernel_rfl, by kernel_rfl⟩ ?_ | with_reducible refine N.alt ?_ | with_reducible refine N.forkT ?_ | with_reducible refine N.forkF ?_ | refine N.forkNo (by decide) ?_ | refine N.forkYes (by decide) ?_ | refine N.forkYes (by rw [decide_eq_true_eq]; omega) ?_ | refine N.forkNo (by rw [decide_eq_false_iff_not]; omega) ?_ | refine N.forkYes (by simp only [List.length_nil] at hx; rw [decide_eq_true_eq]; omega) ?_ | fail_if_success skip)
    refine N.go ?_
    refine airClose0G 0 [] one_bs (fun _ => ⟨_, rfl, airP_ne [], packX_selfish⟩) (by rfl) rfl (Nat.le_refl _) rfl (fun x hx => by cases hx) (fun x hx => by cases hx) (plain_sc' rfl) ?_
    refine N.obl (.plain rfl) ?_
    refine N.obl ⟨⟨_, rfl, fun h => h, Nat.le_refl _, fun j hj => absurd hj (Nat.not_lt_zero j)⟩, trivial⟩ ?_
    refine N.obl trivial ?_
    refine N.obl ⟨⟨.inr ⟨_, rfl, rfl⟩, trivial⟩, trivial⟩ ?_
    exact N.true
  | some r =>
    obtain ⟨c, T⟩ := r
    obtain ⟨hc1, hlc, hT⟩ := hβ
    repeat' (refine N.go ?_; first | with_reducible refine N.obl (by decide) ?_ | with_reducible refine N.obl (flat_wi _ _ _) ?_ | with_reducible refine N.obl (flat_lim _ _) ?_ | with_reducible refine N.eq ?_ | with_reducible refine N.obl rfl ?_ | with_reducible refine N.obl ⟨by kernel_rfl, by kernel_rfl⟩ ?_ | with_reducible refine N.alt ?_ | with_reducible refine N.forkT ?_ | with_reducible refine N.forkF ?_ | refine N.forkNo (by decide) ?_ | refine N.forkYes (by decide) ?_ | refine N.forkYes (by rw [decide_eq_true_eq]; omega) ?_ | refine N.forkNo (by rw [decide_eq_false_iff_not]; omega) ?_ | refine N.forkYes (by simp only [List.length_nil] at hx; rw [decide_eq_true_eq]; omega) ?_ | fail_if_success skip)
    refine N.go ?_
    refine airCloseG 0 [] L 1 c T one_bs one_pc hc1 hlc hT (by rfl) rfl (Nat.le_refl _) rfl (by rfl) (by decide) rfl (Nat.le_refl _) (fun j hj => eqv_of (seg_cell hj)) (fun x hx => by cases hx) (fun x hx => by cases hx) (plain_sc' rfl) ?_
    refine N.obl (.plain rfl) ?_
    refine N.obl ⟨⟨_, rfl, fun h => h, Nat.le_refl _, fun j hj => absurd hj (Nat.not_lt_zero j)⟩, trivial⟩ ?_
    refine N.obl trivial ?_
    refine N.obl ⟨⟨.inr ⟨_, rfl, rfl⟩, trivial⟩, trivial⟩ ?_
    exact N.true
set_option maxRecDepth 100000 in
set_option maxHeartbeats 2000000 in
theorem cBendNone2 (L : List Ml) (x q : Int) (b : Int) (h0 : 0 ≤ x) (hx : (L.length : Int) ≤ x) (i : Nat) (h : List (Option Chunk)) (hi : h[i]? = some (some (airP L))) : CallOK Try.prog 11 [.pointer (some ⟨i, 0, some 0⟩), .int .i64 x, .int .i64 q, .int .u8 b] h (.int .i64 7) [(i, airP L)] [] := by
  refine call_res (G := tys) (airOK L) (airH L) [⟨i, airP L, airP L, airP L⟩] [] [.pointer (some ⟨0, 0, some 0⟩), .int .i64 x, .int .i64 q, .int .u8 b] tysOK mixed Try.func11 (by rfl) (Try.call11) ⟨hi, trivial⟩ ⟨⟨fun h => ⟨rfl, Nat.le_refl _⟩, Nat.le_refl _, fun j hj => absurd hj (Nat.not_lt_zero j)⟩, trivial⟩ (by simp [Apart]) ⟨.inr ⟨rfl, rfl⟩, trivial⟩ trivial ⟨.ptr rfl, .plain rfl, .plain rfl, .plain rfl, trivial⟩ pack_opens ?_
  intro β hβ
  cases β with
  | none =>
    obtain rfl : L = [] := hβ
    repeat' (refine N.go ?_; first | with_reducible refine N.obl (by decide) ?_ | with_reducible refine N.obl (flat_wi _ _ _) ?_ | with_reducible refine N.obl (flat_lim _ _) ?_ | with_reducible refine N.eq ?_ | with_reducible refine N.obl rfl ?_ | with_reducible refine N.obl ⟨by kernel_rfl, by kernel_rfl⟩ ?_ | with_reducible refine N.alt ?_ | with_reducible refine N.forkT ?_ | with_reducible refine N.forkF ?_ | refine N.forkNo (by decide) ?_ | refine N.forkYes (by decide) ?_ | refine N.forkYes (by rw [decide_eq_true_eq]; omega) ?_ | refine N.forkNo (by rw [decide_eq_false_iff_not]; omega) ?_ | refine N.forkYes (by simp only [List.length_nil] at hx; rw [decide_eq_true_eq]; omega) ?_ | fail_if_success skip)
    refine N.go ?_
    refine airClose0G 0 [] one_bs (fun _ => ⟨_, rfl, airP_ne [], packX_selfish⟩) (by rfl) rfl (Nat.le_refl _) rfl (fun x hx => by cases hx) (fun x hx => by cases hx) (plain_sc' rfl) ?_
    refine N.obl (.plain rfl) ?_
    refine N.obl ⟨⟨_, rfl, fun h => h, Nat.le_refl _, fun j hj => absurd hj (Nat.not_lt_zero j)⟩, trivial⟩ ?_
    refine N.obl trivial ?_
    refine N.obl ⟨⟨.inr ⟨_, rfl, rfl⟩, trivial⟩, trivial⟩ ?_
    exact N.true
  | some r =>
    obtain ⟨c, T⟩ := r
    obtain ⟨hc1, hlc, hT⟩ := hβ
    repeat' (refine N.go ?_; first | with_reducible refine N.obl (by decide) ?_ | with_reducible refine N.obl (flat_wi _ _ _) ?_ | with_reducible refine N.obl (flat_lim _ _) ?_ | with_reducible refine N.eq ?_ | with_reducible refine N.obl rfl ?_ | with_reducible refine N.obl ⟨by kernel_rfl, by kernel_rfl⟩ ?_ | with_reducible refine N.alt ?_ | with_reducible refine N.forkT ?_ | with_reducible refine N.forkF ?_ | refine N.forkNo (by decide) ?_ | refine N.forkYes (by decide) ?_ | refine N.forkYes (by rw [decide_eq_true_eq]; omega) ?_ | refine N.forkNo (by rw [decide_eq_false_iff_not]; omega) ?_ | refine N.forkYes (by simp only [List.length_nil] at hx; rw [decide_eq_true_eq]; omega) ?_ | fail_if_success skip)
    refine N.go ?_
    refine airCloseG 0 [] L 1 c T one_bs one_pc hc1 hlc hT (by rfl) rfl (Nat.le_refl _) rfl (by rfl) (by decide) rfl (Nat.le_refl _) (fun j hj => eqv_of (seg_cell hj)) (fun x hx => by cases hx) (fun x hx => by cases hx) (plain_sc' rfl) ?_
    refine N.obl (.plain rfl) ?_
    refine N.obl ⟨⟨_, rfl, fun h => h, Nat.le_refl _, fun j hj => absurd hj (Nat.not_lt_zero j)⟩, trivial⟩ ?_
    refine N.obl trivial ?_
    refine N.obl ⟨⟨.inr ⟨_, rfl, rfl⟩, trivial⟩, trivial⟩ ?_
    exact N.true
set_option maxRecDepth 100000 in
set_option maxHeartbeats 2000000 in
theorem cBendState (L : List Ml) (x : Nat) (q b : Int) (to_ at_ tr : Int) (u : Option Sl) (hm : L[x]? = some ⟨to_, u, at_, tr, true⟩) (i : Nat) (h : List (Option Chunk)) (hi : h[i]? = some (some (airP L))) : CallOK Try.prog 11 [.pointer (some ⟨i, 0, some 0⟩), .int .i64 (x : Nat), .int .i64 q, .int .u8 b] h (.int .i64 10) [(i, airP L)] [] := by
  refine call_res (G := tys) (airOK L) (airH L) [⟨i, airP L, airP L, airP L⟩] [] [.pointer (some ⟨0, 0, some 0⟩), .int .i64 (x : Nat), .int .i64 q, .int .u8 b] tysOK mixed Try.func11 (by rfl) (Try.call11) ⟨hi, trivial⟩ ⟨⟨fun h => ⟨rfl, Nat.le_refl _⟩, Nat.le_refl _, fun j hj => absurd hj (Nat.not_lt_zero j)⟩, trivial⟩ (by simp [Apart]) ⟨.inr ⟨rfl, rfl⟩, trivial⟩ trivial ⟨.ptr rfl, .plain rfl, .plain rfl, .plain rfl, trivial⟩ pack_opens ?_
  intro β hβ
  have hx : x < L.length := (List.getElem?_eq_some_iff.1 hm).1
  cases β with
  | none =>
    obtain rfl : L = [] := hβ
    simp at hx
  | some r =>
    obtain ⟨c, T⟩ := r
    obtain ⟨hc1, hlc, hT⟩ := hβ
    have hTx := hT x _ hm
    repeat' (refine N.go ?_; first | with_reducible refine N.obl (by decide) ?_ | with_reducible refine N.obl (flat_wi _ _ _) ?_ | with_reducible refine N.obl (flat_lim _ _) ?_ | with_reducible refine N.eq ?_ | with_reducible refine N.obl rfl ?_ | with_reducible refine N.obl ⟨by kernel_rfl, by kernel_rfl⟩ ?_ | with_reducible refine N.alt ?_ | with_reducible refine N.forkT ?_ | with_reducible refine N.forkF ?_ | refine N.forkNo (by decide) ?_ | refine N.forkYes (by decide) ?_ | refine N.forkYes (by rw [decide_eq_true_eq]; omega) ?_ | refine N.forkNo (by rw [decide_eq_false_iff_not]; omega) ?_ | refine N.idx x 1 rfl (by omega) ?_ | refine N.load (.bool true) (rd_mlE x 4 hTx (by decide) (by omega) rfl rfl) ?_ | fail_if_success skip)
    refine N.go ?_
    refine airCloseG 0 [] L 1 c T one_bs one_pc hc1 hlc hT (by rfl) rfl (Nat.le_refl _) rfl (by rfl) (by decide) rfl (Nat.le_refl _) (fun j hj => eqv_of (seg_cell hj)) (fun x hx => by cases hx) (fun x hx => by cases hx) (plain_sc' rfl) ?_
    refine N.obl (.plain rfl) ?_
    refine N.obl ⟨⟨_, rfl, fun h => h, Nat.le_refl _, fun j hj => absurd hj (Nat.not_lt_zero j)⟩, trivial⟩ ?_
    refine N.obl trivial ?_
    refine N.obl ⟨⟨.inr ⟨_, rfl, rfl⟩, trivial⟩, trivial⟩ ?_
    exact N.true
set_option maxRecDepth 100000 in
set_option maxHeartbeats 2000000 in
theorem cBendArg1 (L : List Ml) (x : Nat) (q b : Int) (to_ at_ tr : Int) (u : Option Sl) (hm : L[x]? = some ⟨to_, u, at_, tr, false⟩) (hq : q < 0) (i : Nat) (h : List (Option Chunk)) (hi : h[i]? = some (some (airP L))) : CallOK Try.prog 11 [.pointer (some ⟨i, 0, some 0⟩), .int .i64 (x : Nat), .int .i64 q, .int .u8 b] h (.int .i64 1) [(i, airP L)] [] := by
  refine call_res (G := tys) (airOK L) (airH L) [⟨i, airP L, airP L, airP L⟩] [] [.pointer (some ⟨0, 0, some 0⟩), .int .i64 (x : Nat), .int .i64 q, .int .u8 b] tysOK mixed Try.func11 (by rfl) (Try.call11) ⟨hi, trivial⟩ ⟨⟨fun h => ⟨rfl, Nat.le_refl _⟩, Nat.le_refl _, fun j hj => absurd hj (Nat.not_lt_zero j)⟩, trivial⟩ (by simp [Apart]) ⟨.inr ⟨rfl, rfl⟩, trivial⟩ trivial ⟨.ptr rfl, .plain rfl, .plain rfl, .plain rfl, trivial⟩ pack_opens ?_
  intro β hβ
  have hx : x < L.length := (List.getElem?_eq_some_iff.1 hm).1
  cases β with
  | none =>
    obtain rfl : L = [] := hβ
    simp at hx
  | some r =>
    obtain ⟨c, T⟩ := r
    obtain ⟨hc1, hlc, hT⟩ := hβ
    have hTx := hT x _ hm
    repeat' (refine N.go ?_; first | with_reducible refine N.obl (by decide) ?_ | with_reducible refine N.obl (flat_wi _ _ _) ?_ | with_reducible refine N.obl (flat_lim _ _) ?_ | with_reducible refine N.eq ?_ | with_reducible refine N.obl rfl ?_ | with_reducible refine N.obl ⟨by kernel_rfl, by kernel_rfl⟩ ?_ | with_reducible refine N.alt ?_ | with_reducible refine N.forkT ?_ | with_reducible refine N.forkF ?_ | refine N.forkNo (by decide) ?_ | refine N.forkYes (by decide) ?_ | refine N.forkYes (by rw [decide_eq_true_eq]; omega) ?_ | refine N.forkNo (by rw [decide_eq_false_iff_not]; omega) ?_ | refine N.idx x 1 rfl (by omega) ?_ | refine N.load (.bool false) (rd_mlE x 4 hTx (by decide) (by omega) rfl rfl) ?_ | fail_if_success skip)
    refine N.go ?_
    refine airCloseG 0 [] L 1 c T one_bs one_pc hc1 hlc hT (by rfl) rfl (Nat.le_refl _) rfl (by rfl) (by decide) rfl (Nat.le_refl _) (fun j hj => eqv_of (seg_cell hj)) (fun x hx => by cases hx) (fun x hx => by cases hx) (plain_sc' rfl) ?_
    refine N.obl (.plain rfl) ?_
    refine N.obl ⟨⟨_, rfl, fun h => h, Nat.le_refl _, fun j hj => absurd hj (Nat.not_lt_zero j)⟩, trivial⟩ ?_
    refine N.obl trivial ?_
    refine N.obl ⟨⟨.inr ⟨_, rfl, rfl⟩, trivial⟩, trivial⟩ ?_
    exact N.true
set_option maxRecDepth 100000 in
set_option maxHeartbeats 2000000 in
theorem cBendArg2 (L : List Ml) (x : Nat) (q b : Int) (to_ at_ tr : Int) (u : Option Sl) (hm : L[x]? = some ⟨to_, u, at_, tr, false⟩) (h0 : 0 ≤ q) (hq : (uN u : Int) ≤ q) (i : Nat) (h : List (Option Chunk)) (hi : h[i]? = some (some (airP L))) : CallOK Try.prog 11 [.pointer (some ⟨i, 0, some 0⟩), .int .i64 (x : Nat), .int .i64 q, .int .u8 b] h (.int .i64 1) [(i, airP L)] [] := by
  refine call_res (G := tys) (airOK L) (airH L) [⟨i, airP L, airP L, airP L⟩] [] [.pointer (some ⟨0, 0, some 0⟩), .int .i64 (x : Nat), .int .i64 q, .int .u8 b] tysOK mixed Try.func11 (by rfl) (Try.call11) ⟨hi, trivial⟩ ⟨⟨fun h => ⟨rfl, Nat.le_refl _⟩, Nat.le_refl _, fun j hj => absurd hj (Nat.not_lt_zero j)⟩, trivial⟩ (by simp [Apart]) ⟨.inr ⟨rfl, rfl⟩, trivial⟩ trivial ⟨.ptr rfl, .plain rfl, .plain rfl, .plain rfl, trivial⟩ pack_opens ?_
  intro β hβ
  have hx : x < L.length := (List.getElem?_eq_some_iff.1 hm).1
  cases β with
  | none =>
    obtain rfl : L = [] := hβ
    simp at hx
  | some r =>
    obtain ⟨c, T⟩ := r
    obtain ⟨hc1, hlc, hT⟩ := hβ
    have hTx := hT x _ hm
    repeat' (refine N.go ?_; first | with_reducible refine N.obl (by decide) ?_ | with_reducible refine N.obl (flat_wi _ _ _) ?_ | with_reducible refine N.obl (flat_lim _ _) ?_ | with_reducible refine N.eq ?_ | with_reducible refine N.obl rfl ?_ | with_reducible refine N.obl ⟨by kernel_rfl, by kernel_rfl⟩ ?_ | with_reducible refine N.alt ?_ | with_reducible refine N.forkT ?_ | with_reducible refine N.forkF ?_ | refine N.forkNo (by decide) ?_ | refine N.forkYes (by decide) ?_ | refine N.forkYes (by rw [decide_eq_true_eq]; omega) ?_ | refine N.forkNo (by rw [decide_eq_false_iff_not]; omega) ?_ | refine N.idx x 1 rfl (by omega) ?_ | refine N.load (.bool false) (rd_mlE x 4 hTx (by decide) (by omega) rfl rfl) ?_ | refine N.load (uV u) (rd_mlE x 1 hTx (by decide) (by omega) rfl rfl) ?_ | refine N.op (ok_lenU rfl rfl ⟨_, rfl, _, Try.underlying26⟩) ?_ | fail_if_success skip)
    refine N.go ?_
    refine airCloseG 0 [] L 1 c T one_bs one_pc hc1 hlc hT (by rfl) rfl (Nat.le_refl _) rfl (by rfl) (by decide) rfl (Nat.le_refl _) (fun j hj => eqv_of (seg_cell hj)) (fun x hx => by cases hx) (fun x hx => by cases hx) (plain_sc' rfl) ?_
    refine N.obl (.plain rfl) ?_
    refine N.obl ⟨⟨_, rfl, fun h => h, Nat.le_refl _, fun j hj => absurd hj (Nat.not_lt_zero j)⟩, trivial⟩ ?_
    refine N.obl trivial ?_
    refine N.obl ⟨⟨.inr ⟨_, rfl, rfl⟩, trivial⟩, trivial⟩ ?_
    exact N.true
set_option maxRecDepth 100000 in
set_option maxHeartbeats 2000000 in
theorem cBendArg3 (L : List Ml) (x : Nat) (q b : Int) (to_ at_ tr : Int) (u : Option Sl) (hm : L[x]? = some ⟨to_, u, at_, tr, false⟩) (h0 : 0 ≤ q) (hq : q < (uN u : Int)) (hb : b = 0) (i : Nat) (h : List (Option Chunk)) (hi : h[i]? = some (some (airP L))) : CallOK Try.prog 11 [.pointer (some ⟨i, 0, some 0⟩), .int .i64 (x : Nat), .int .i64 q, .int .u8 b] h (.int .i64 1) [(i, airP L)] [] := by
  refine call_res (G := tys) (airOK L) (airH L) [⟨i, airP L, airP L, airP L⟩] [] [.pointer (some ⟨0, 0, some 0⟩), .int .i64 (x : Nat), .int .i64 q, .int .u8 b] tysOK mixed Try.func11 (by rfl) (Try.call11) ⟨hi, trivial⟩ ⟨⟨fun h => ⟨rfl, Nat.le_refl _⟩, Nat.le_refl _, fun j hj => absurd hj (Nat.not_lt_zero j)⟩, trivial⟩ (by simp [Apart]) ⟨.inr ⟨rfl, rfl⟩, trivial⟩ trivial ⟨.ptr rfl, .plain rfl, .plain rfl, .plain rfl, trivial⟩ pack_opens ?_
  intro β hβ
  have hx : x < L.length := (List.getElem?_eq_some_iff.1 hm).1
  cases β with
  | none =>
    obtain rfl : L = [] := hβ
    simp at hx
  | some r =>
    obtain ⟨c, T⟩ := r
    obtain ⟨hc1, hlc, hT⟩ := hβ
    have hTx := hT x _ hm
    repeat' (refine N.go ?_; first | with_reducible refine N.obl (by decide) ?_ | with_reducible refine N.obl (flat_wi _ _ _) ?_ | with_reducible refine N.obl (flat_lim _ _) ?_ | with_reducible refine N.eq ?_ | with_reducible refine N.obl rfl ?_ | with_reducible refine N.obl ⟨by kernel_rfl, by kernel_rfl⟩ ?_ | with_reducible refine N.alt ?_ | with_reducible refine N.forkT ?_ | with_reducible refine N.forkF ?_ | refine N.forkNo (by decide) ?_ | refine N.forkYes (by decide) ?_ | refine N.forkYes (by rw [decide_eq_true_eq]; omega) ?_ | refine N.forkNo (by rw [decide_eq_false_iff_not]; omega) ?_ | refine N.idx x 1 rfl (by omega) ?_ | refine N.load (.bool false) (rd_mlE x 4 hTx (by decide) (by omega) rfl rfl) ?_ | refine N.load (uV u) (rd_mlE x 1 hTx (by decide) (by omega) rfl rfl) ?_ | refine N.op (ok_lenU rfl rfl ⟨_, rfl, _, Try.underlying26⟩) ?_ | refine N.forkYes (by rw [hb]; rfl) ?_ | fail_if_success skip)
    refine N.go ?_
    refine airCloseG 0 [] L 1 c T one_bs one_pc hc1 hlc hT (by rfl) rfl (Nat.le_refl _) rfl (by rfl) (by decide) rfl (Nat.le_refl _) (fun j hj => eqv_of (seg_cell hj)) (fun x hx => by cases hx) (fun x hx => by cases hx) (plain_sc' rfl) ?_
    refine N.obl (.plain rfl) ?_
    refine N.obl ⟨⟨_, rfl, fun h => h, Nat.le_refl _, fun j hj => absurd hj (Nat.not_lt_zero j)⟩, trivial⟩ ?_
    refine N.obl trivial ?_
    refine N.obl ⟨⟨.inr ⟨_, rfl, rfl⟩, trivial⟩, trivial⟩ ?_
    exact N.true
theorem get_set {L : List Ml} {x : Nat} {y : Ml} {T : Nat → Ml} (hT : ∀ i m, L[i]? = some m → T i = m) {z : Ml} (hz : z = y) : ∀ i m, (L.set x y)[i]? = some m → setM1 T x z i = m := fun i m hm => by
  subst hz
  by_cases e : x = i
  · subst e
    have hl := (List.getElem?_eq_some_iff.1 hm).1
    rw [List.length_set] at hl
    rw [List.getElem?_set_self hl] at hm
    rw [setM1_at]; simpa using hm
  · rw [List.getElem?_set_ne e] at hm
    rw [setM1_ne (fun h => e h.symm)]; exact hT i m hm
/-- A byte, bent. -/
abbrev bendV (y b : Int) : Int := IntKind.u8.wrap ((BitVec.ofInt IntKind.u8.bits y ^^^ BitVec.ofInt IntKind.u8.bits b).toNat : Int)
set_option maxRecDepth 100000 in
set_option maxHeartbeats 2000000 in
theorem cBendY (W : World) (F : List By) (L : List Ml) (x q : Nat) (b : Int) (to_ at_ tr : Int) (e : By) (he : e ∈ F) (hm : L[x]? = some ⟨to_, e.s, at_, tr, false⟩) (hq : q < e.bs.length) (hb : b ≠ 0) (i j : Nat) (hij : i ≠ j) (h : List (Option Chunk)) (hi : h[i]? = some (some (airP L))) (hj : h[j]? = some (some (memC W F))) :
    CallOK Try.prog 11 [.pointer (some ⟨i, 0, some 0⟩), .int .i64 (x : Nat), .int .i64 (q : Nat), .int .u8 b] h (.int .i64 0) [(i, airP (L.set x ⟨to_, e.s, at_, tr, true⟩)), (j, memC W (setB F e.b q (bendV (e.bs.getD q 0) b)))] [] := by
  refine call_res (G := tys) (airOK L) (airO W F L) [⟨i, airP L, airP L, airP (L.set x ⟨to_, e.s, at_, tr, true⟩)⟩, ⟨j, memC W F, memC W F, memC W (setB F e.b q (bendV (e.bs.getD q 0) b))⟩] [] [.pointer (some ⟨0, 0, some 0⟩), .int .i64 (x : Nat), .int .i64 (q : Nat), .int .u8 b] tysOK mixed Try.func11 (by rfl) (Try.call11) ⟨hi, hj, trivial⟩ ⟨⟨fun h => ⟨rfl, Nat.le_refl _⟩, Nat.le_refl _, fun j hj => absurd hj (Nat.not_lt_zero j)⟩, ⟨fun h => ⟨rfl, Nat.le_refl _⟩, Nat.le_refl _, fun j hj => absurd hj (Nat.not_lt_zero j)⟩, trivial⟩ (by simp [Apart, hij]) ⟨.inr ⟨rfl, rfl⟩, .inr ⟨rfl, rfl⟩, trivial⟩ trivial ⟨.ptr rfl, .plain rfl, .plain rfl, .plain rfl, trivial⟩ air_opens2 ?_
  intro β hβ
  have hx : x < L.length := (List.getElem?_eq_some_iff.1 hm).1
  cases β with
  | none =>
    obtain rfl : L = [] := hβ
    simp at hx
  | some r =>
    obtain ⟨c, T⟩ := r
    obtain ⟨hc1, hlc, hT⟩ := hβ
    have hTx := hT x _ hm
    repeat' (refine N.go ?_; first | with_reducible refine N.obl (by decide) ?_ | with_reducible refine N.obl (flat_wi _ _ _) ?_ | with_reducible refine N.obl (flat_lim _ _) ?_ | with_reducible refine N.eq ?_ | with_reducible refine N.obl rfl ?_ | with_reducible refine N.obl ⟨by kernel_rfl, by kernel_rfl⟩ ?_ | with_reducible refine N.alt ?_ | with_reducible refine N.forkT ?_ | with_reducible refine N.forkF ?_ | refine N.forkNo (by decide) ?_ | refine N.forkYes (by decide) ?_ | refine N.forkYes (by rw [decide_eq_true_eq]; omega) ?_ | refine N.forkNo (by rw [decide_eq_false_iff_not]; omega) ?_ | refine N.op (ok_lenU rfl rfl ⟨_, rfl, _, Try.underlying26⟩) ?_ | refine N.forkNo (decide_eq_false (by show ¬ ((e.bs.length : Nat) : Int) ≤ (q : Int); omega)) ?_ | refine N.idx x 1 rfl (by omega) ?_ | refine N.load (.bool false) (rd_mlE x 4 hTx (by decide) (by omega) rfl rfl) ?_ | refine N.load (uV e.s) (rd_mlE x 1 hTx (by decide) (by omega) rfl rfl) ?_ | refine N.forkNo (beq_false_of_ne hb) ?_ | refine N.op (ok_idxR (sz := 1) (g := q) tysOK rfl rfl (fun ρ => uV_den e.s ρ) rfl (by exact rfl) (by omega) (by show (q : Int) < (e.bs.length : Nat); omega) (by simp)) ?_ | refine N.op (ok_loadR (i := 1) (F := F) (v := .int .u8 (e.bs.getD q 0)) tysOK rfl rfl rfl (by exact rfl) rfl (known_src (s := ⟨e.b, 0, e.bs.length, e.c, none⟩) (.own he) hq (by simp))) ?_ | refine N.op (ok_storeB (i := 1) (F := F) (e := e) (j := q) tysOK rfl rfl rfl rfl (by exact rfl) he hq) ?_ | refine N.store _ (wr_mbent rfl (by omega) rfl) ?_ | fail_if_success skip)
    refine N.go ?_
    refine airClose (W := W) (F := setB F e.b q (bendV (e.bs.getD q 0) b)) (L.set x ⟨to_, e.s, at_, tr, true⟩) 2 c (setM1 T x (T x).bent) rfl air_pc hc1 (by rw [List.length_set]; exact hlc) (get_set hT (by rw [hTx])) (by rfl) rfl (Nat.le_refl _) (by rw [List.length_set]; rfl) (by rfl) (by rfl) (by decide) rfl (Nat.le_refl _) (fun j hj => eqv_of (seg_cell hj)) (plain_sc' rfl) ?_
    refine N.obl (.plain rfl) ?_
    refine N.obl ⟨⟨_, rfl, fun h => h, Nat.le_refl _, fun j hj => absurd hj (Nat.not_lt_zero j)⟩, ⟨_, rfl, fun h => h, Nat.le_refl _, fun j hj => absurd hj (Nat.not_lt_zero j)⟩, trivial⟩ ?_
    refine N.obl trivial ?_
    refine N.obl ⟨⟨.inr ⟨_, rfl, rfl⟩, .inr ⟨_, rfl, rfl⟩, trivial⟩, trivial⟩ ?_
    exact N.true
end Go.Proofs.Ytgikbmohmomgbaa
