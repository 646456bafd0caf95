
/-
  The walks of air at mails with bytes: Get.
-/
import Derived.Test.YtgikbmohmomgbaaAirS
set_option linter.unusedVariables false
set_option linter.unusedSimpArgs false
namespace Go.Proofs.Ytgikbmohmomgbaa
open Go Go.RowKit Sx

set_option maxRecDepth 100000 in
set_option maxHeartbeats 2000000 in
theorem mail_sc (to_ : Int) (u : Option Sl) (at_ tr : Int) (be b : Bool) {F : Nat → Prop} : ∀ ρ ρ', AgreeOn F ρ ρ' → den ρ' (.tuple ⟨[mailV to_ u at_ tr be, .bool b]⟩) = den ρ (.tuple ⟨[mailV to_ u at_ tr be, .bool b]⟩) := fun ρ ρ' _ => by
  have e : ∀ ρ, den ρ (.tuple ⟨[mailV to_ u at_ tr be, .bool b]⟩) = .tuple ⟨[mailR to_ u at_ tr be, .bool b]⟩ := fun ρ => by
    show Value.tuple (#[mailV to_ u at_ tr be, .bool b].map (den2 ρ)) = _
    have e1 : den2 ρ (mailV to_ u at_ tr be) = mailR to_ u at_ tr be := mailV_den to_ u at_ tr be ρ
    simp only [List.map_toArray, List.map_cons, List.map_nil, e1]
    rfl
  rw [e, e]
theorem plain_sc' {v : Value} (h : plain3 v = true) {F : Nat → Prop} : ∀ ρ ρ', AgreeOn F ρ ρ' → den ρ' v = den ρ v := fun ρ ρ' _ => by rw [den_plain3 h, den_plain3 h]
set_option maxRecDepth 100000 in
set_option maxHeartbeats 2000000 in
theorem cGetO (W : World) (F : List By) (n c x : Nat) (T : Nat → Ml) (bs : List Int) (hx : x < n) (hnc : n ≤ c) (hs : Src W F (T x).u bs) (hb : bs.length ≤ 1048576) (i k j : Nat) (hne : i ≠ k ∧ i ≠ j ∧ k ≠ j) (h : List (Option Chunk)) (hi : h[i]? = some (some (airC true (.slice (some ⟨k, 0, some 0⟩) n c)))) (hk : h[k]? = some (some (mlA true c T))) (hj : h[j]? = some (some (memC W F))) :
    CallAll Try.prog 13 [.pointer (some ⟨i, 0, some 0⟩), .int .i64 (x : Nat)] h (fun v ms => ∃ u' F', Made F bs u' F' ∧ v = .tuple ⟨[mailV (T x).to_ u' (T x).at_ (T x).tr (T x).be, .bool true]⟩ ∧ ms = [(j, memC W F')]) := by
  refine CallAll.to (call_resall (G := tys) (h := h) (vs := [.pointer (some ⟨i, 0, some 0⟩), .int .i64 (x : Nat)]) (fun _ : Unit => True) (fun _ => _) (α := Option Sl × List By) (fun κ => Made F bs κ.1 κ.2) (fun κ => .tuple ⟨[mailV (T x).to_ κ.1 (T x).at_ (T x).tr (T x).be, .bool true]⟩) [⟨i, _, airC false (.slice (some ⟨1, 0, some 0⟩) n c), nC⟩, ⟨k, _, mlA false c T, nC⟩, ⟨j, memC W F, memC W F, memC W F⟩] (fun κ => [nC, nC, memC W κ.2]) (fun κ => []) [.pointer (some ⟨0, 0, some 0⟩), .int .i64 (x : Nat)] tysOK mixed Try.func13 (by rfl) (Try.call13) ⟨hi, hk, hj, trivial⟩ ⟨⟨fun h => (by cases h), Nat.le_refl _, fun j hj => by
    match j, hj with
    | 0, _ => exact .slice rfl⟩, ⟨fun h => (by cases h), Nat.le_refl _, mlA_re⟩, ⟨fun h => ⟨rfl, Nat.le_refl _⟩, Nat.le_refl _, fun j hj => absurd hj (Nat.not_lt_zero j)⟩, trivial⟩ (fun κ _ => ⟨⟨fun h => (by cases h), Nat.le_refl _, fun j hj => by
    match j, hj with
    | 0, _ => exact .slice rfl⟩, ⟨fun h => (by cases h), Nat.le_refl _, mlA_re⟩, ⟨fun h => ⟨rfl, Nat.le_refl _⟩, Nat.le_refl _, fun j hj => absurd hj (Nat.not_lt_zero j)⟩, trivial⟩) (by simp [Apart]; omega) ⟨.inl rfl, .inl rfl, .inr ⟨rfl, rfl⟩, trivial⟩ (fun κ _ => trivial) ⟨.ptr rfl, .plain rfl, trivial⟩ Opens.same ?_) ?_
  rotate_left
  · rintro v ms ⟨κ, hκ, rfl, rfl⟩
    exact ⟨κ.1, κ.2, hκ, rfl, rfl⟩
  rintro ⟨⟩ -
  repeat' (refine N.go ?_; first | with_reducible refine N.obl (by decide) ?_ | with_reducible refine N.obl (flat_wi _ _ _) ?_ | with_reducible refine N.obl (flat_lim _ _) ?_ | with_reducible refine N.eq ?_ | with_reducible refine N.obl rfl ?_ | with_reducible refine N.obl ⟨by kernel_rfl, by kernel_rfl⟩ ?_ | with_reducible refine N.alt ?_ | with_reducible refine N.forkT ?_ | with_reducible refine N.forkF ?_ | refine N.forkNo (by decide) ?_ | refine N.forkYes (by decide) ?_ | refine N.forkYes (by rw [decide_eq_true_eq]; omega) ?_ | refine N.forkNo (by rw [decide_eq_false_iff_not]; omega) ?_ | refine N.call (cLenS _ 1 n c 0 _ (by rfl) (by rfl) (by decide)) ?_ | refine N.idx x 1 rfl (by omega) ?_ | refine N.load _ (rd_mlA x rfl (by omega) rfl) ?_ | refine N.obl (mail_flat _ _ _ _ _) ?_ | fail_if_success skip)
  refine N.go ?_
  refine N.callAll (cOwnM W F _ bs hs hb _ _ _ _ 2 _ (by rfl)) fun v ms hR => ?_
  obtain ⟨u', F', hM, rfl, rfl⟩ := hR
  repeat' (refine N.go ?_; first | with_reducible refine N.obl (by decide) ?_ | with_reducible refine N.obl (flat_wi _ _ _) ?_ | with_reducible refine N.obl (flat_lim _ _) ?_ | with_reducible refine N.eq ?_ | with_reducible refine N.obl rfl ?_ | with_reducible refine N.obl ⟨by kernel_rfl, by kernel_rfl⟩ ?_ | with_reducible refine N.alt ?_ | with_reducible refine N.forkT ?_ | with_reducible refine N.forkF ?_ | refine N.forkNo (by decide) ?_ | refine N.forkYes (by decide) ?_ | refine N.forkYes (by rw [decide_eq_true_eq]; omega) ?_ | refine N.forkNo (by rw [decide_eq_false_iff_not]; omega) ?_ | refine N.call (cLenS _ 1 n c 0 _ (by rfl) (by rfl) (by decide)) ?_ | refine N.idx x 1 rfl (by omega) ?_ | refine N.load _ (rd_mlA x rfl (by omega) rfl) ?_ | refine N.obl (mail_flat _ _ _ _ _) ?_ | fail_if_success skip)
  refine N.go ?_
  refine N.endSame ?_
  refine N.some (u', F') ⟨hM, ?_⟩
  refine N.obl (.tuple ⟨mailV_re _ _ _ _ _, .plain rfl, trivial⟩) ?_
  refine N.obl ⟨⟨_, rfl, fun h => h, Nat.le_refl _, fun j hj => absurd hj (Nat.not_lt_zero j)⟩, trivial⟩ ?_
  refine N.obl trivial ?_
  refine N.obl ⟨⟨.inl rfl, .inl rfl, .inr ⟨_, rfl, rfl⟩, trivial⟩, trivial⟩ ?_
  exact N.true
set_option maxRecDepth 100000 in
set_option maxHeartbeats 2000000 in
theorem cGetM (W : World) (F : List By) (L : List Ml) (x : Nat) (m : Ml) (bs : List Int) (i j : Nat) (hij : i ≠ j) (h : List (Option Chunk)) (hi : h[i]? = some (some (airP L))) (hj : h[j]? = some (some (memC W F))) (hm : L[x]? = some m) (hs : Src W F m.u bs) (hb : bs.length ≤ 1048576) :
    CallAll Try.prog 13 [.pointer (some ⟨i, 0, some 0⟩), .int .i64 (x : Nat)] h (fun v ms => ∃ u' F', Made F bs u' F' ∧ v = .tuple ⟨[mailV m.to_ u' m.at_ m.tr m.be, .bool true]⟩ ∧ ms = [(i, airP L), (j, memC W F')]) := by
  refine CallAll.to (call_resall (G := tys) (h := h) (vs := [.pointer (some ⟨i, 0, some 0⟩), .int .i64 (x : Nat)]) (airOK L) (airO W F L) (α := Option Sl × List By) (fun κ => Made F bs κ.1 κ.2) (fun κ => .tuple ⟨[mailV m.to_ κ.1 m.at_ m.tr m.be, .bool true]⟩) [⟨i, airP L, airP L, airP L⟩, ⟨j, memC W F, memC W F, memC W F⟩] (fun κ => [airP (L), memC W (κ.2)]) (fun κ => []) [.pointer (some ⟨0, 0, some 0⟩), .int .i64 (x : Nat)] tysOK mixed Try.func13 (by rfl) (Try.call13) ⟨hi, hj, trivial⟩ ⟨⟨fun h => ⟨rfl, Nat.le_refl _⟩, Nat.le_refl _, fun j hj => absurd hj (Nat.not_lt_zero j)⟩, ⟨fun h => ⟨rfl, Nat.le_refl _⟩, Nat.le_refl _, fun j hj => absurd hj (Nat.not_lt_zero j)⟩, trivial⟩ (fun κ _ => ⟨⟨fun h => ⟨rfl, Nat.le_refl _⟩, Nat.le_refl _, fun j hj => absurd hj (Nat.not_lt_zero j)⟩, ⟨fun h => ⟨rfl, Nat.le_refl _⟩, Nat.le_refl _, fun j hj => absurd hj (Nat.not_lt_zero j)⟩, trivial⟩) (by simp [Apart, hij]) ⟨.inr ⟨rfl, rfl⟩, .inr ⟨rfl, rfl⟩, trivial⟩ (fun κ _ => trivial) ⟨.ptr rfl, .plain rfl, trivial⟩ air_opens2 ?_) ?_
  rotate_left
  · rintro v ms ⟨κ, hκ, rfl, rfl⟩
    exact ⟨κ.1, κ.2, hκ, rfl, rfl⟩
  intro β hβ
  have hx : x < L.length := (List.getElem?_eq_some_iff.1 hm).1
  cases β with
  | none =>
    obtain rfl : L = [] := hβ
    simp at hx
  | some q =>
    obtain ⟨c, T⟩ := q
    obtain ⟨hc1, hlc, hT⟩ := hβ
    obtain rfl : T x = m := hT x m hm
    repeat' (refine N.go ?_; first | with_reducible refine N.obl (by decide) ?_ | with_reducible refine N.obl (flat_wi _ _ _) ?_ | with_reducible refine N.obl (flat_lim _ _) ?_ | with_reducible refine N.eq ?_ | with_reducible refine N.obl rfl ?_ | with_reducible refine N.obl ⟨by kernel_rfl, by kernel_rfl⟩ ?_ | with_reducible refine N.alt ?_ | with_reducible refine N.forkT ?_ | with_reducible refine N.forkF ?_ | refine N.forkNo (by decide) ?_ | refine N.forkYes (by decide) ?_ | refine N.forkYes (by rw [decide_eq_true_eq]; omega) ?_ | refine N.forkNo (by rw [decide_eq_false_iff_not]; omega) ?_ | refine N.call (cLenS _ 2 L.length c 0 _ (by rfl) (by rfl) (by decide)) ?_ | refine N.idx x 1 rfl (by omega) ?_ | refine N.load _ (rd_mlA x rfl (by omega) rfl) ?_ | refine N.obl (mail_flat _ _ _ _ _) ?_ | fail_if_success skip)
    refine N.go ?_
    refine N.callAll (cOwnM W F _ bs hs hb _ _ _ _ 1 _ (by rfl)) fun v ms hR => ?_
    obtain ⟨u', F', hM, rfl, rfl⟩ := hR
    repeat' (refine N.go ?_; first | with_reducible refine N.obl (by decide) ?_ | with_reducible refine N.obl (flat_wi _ _ _) ?_ | with_reducible refine N.obl (flat_lim _ _) ?_ | with_reducible refine N.eq ?_ | with_reducible refine N.obl rfl ?_ | with_reducible refine N.obl ⟨by kernel_rfl, by kernel_rfl⟩ ?_ | with_reducible refine N.alt ?_ | with_reducible refine N.forkT ?_ | with_reducible refine N.forkF ?_ | refine N.forkNo (by decide) ?_ | refine N.forkYes (by decide) ?_ | refine N.forkYes (by rw [decide_eq_true_eq]; omega) ?_ | refine N.forkNo (by rw [decide_eq_false_iff_not]; omega) ?_ | refine N.call (cLenS _ 2 L.length c 0 _ (by rfl) (by rfl) (by decide)) ?_ | refine N.idx x 1 rfl (by omega) ?_ | refine N.load _ (rd_mlA x rfl (by omega) rfl) ?_ | refine N.obl (mail_flat _ _ _ _ _) ?_ | fail_if_success skip)
    refine N.go ?_
    refine airClose (W := W) (F := F') L 2 c T rfl air_pc hc1 hlc hT (by rfl) rfl (Nat.le_refl _) rfl (by rfl) (by rfl) (by decide) rfl (Nat.le_refl _) (fun j hj => eqv_of (seg_cell hj)) (mail_sc _ _ _ _ _ _) ?_
    refine N.some (u', F') ⟨hM, ?_⟩
    refine N.obl (.tuple ⟨mailV_re _ _ _ _ _, .plain rfl, trivial⟩) ?_
    refine N.obl ⟨⟨_, rfl, fun h => h, Nat.le_refl _, fun j hj => absurd hj (Nat.not_lt_zero j)⟩, ⟨_, rfl, fun h => h, Nat.le_refl _, fun j hj => absurd hj (Nat.not_lt_zero j)⟩, trivial⟩ ?_
    refine N.obl trivial ?_
    refine N.obl ⟨⟨.inr ⟨_, rfl, rfl⟩, .inr ⟨_, rfl, rfl⟩, trivial⟩, trivial⟩ ?_
    exact N.true
set_option maxRecDepth 100000 in
set_option maxHeartbeats 2000000 in
theorem cGetBad (L : List Ml) (x : Int) (hx : x < 0 ∨ (L.length : Int) ≤ x) (i : Nat) (h : List (Option Chunk)) (hi : h[i]? = some (some (airP L))) : CallOK Try.prog 13 [.pointer (some ⟨i, 0, some 0⟩), .int .i64 x] h (.tuple ⟨[mailV 0 none 0 0 false, .bool false]⟩) [(i, airP L)] [] := by
  refine call_res (G := tys) (airOK L) (airH L) [⟨i, airP L, airP L, airP L⟩] [] [.pointer (some ⟨0, 0, some 0⟩), .int .i64 x] tysOK mixed Try.func13 (by rfl) (Try.call13) ⟨hi, trivial⟩ ⟨⟨fun h => ⟨rfl, Nat.le_refl _⟩, Nat.le_refl _, fun j hj => absurd hj (Nat.not_lt_zero j)⟩, trivial⟩ (by simp [Apart]) ⟨.inr ⟨rfl, rfl⟩, trivial⟩ trivial ⟨.ptr rfl, .plain rfl, trivial⟩ pack_opens ?_
  intro β hβ
  by_cases h0 : x < 0
  · cases β with
    | none =>
      obtain rfl : L = [] := hβ
      repeat' (refine N.go ?_; first | with_reducible refine N.obl (by decide) ?_ | with_reducible refine N.obl (flat_wi _ _ _) ?_ | with_reducible refine N.obl (flat_lim _ _) ?_ | with_reducible refine N.eq ?_ | with_reducible refine N.obl rfl ?_ | with_reducible refine N.obl ⟨by kernel_rfl, by kernel_rfl⟩ ?_ | with_reducible refine N.alt ?_ | with_reducible refine N.forkT ?_ | with_reducible refine N.forkF ?_ | refine N.forkNo (by decide) ?_ | refine N.forkYes (by decide) ?_ | refine N.forkYes (by rw [decide_eq_true_eq]; omega) ?_ | refine N.forkNo (by rw [decide_eq_false_iff_not]; omega) ?_ | refine N.call (cLenS _ 1 L.length c 0 _ (by rfl) (by rfl) (by decide)) ?_ | refine N.call (cLenN _ 0 _ (by rfl)) ?_ | fail_if_success skip)
      refine N.go ?_
      refine airClose0G 0 [] one_bs (fun _ => ⟨_, rfl, airP_ne [], packX_selfish⟩) (by rfl) rfl (Nat.le_refl _) rfl (fun x hx => by cases hx) (fun x hx => by cases hx) (plain_sc' rfl) ?_
      refine N.obl (.tuple ⟨.agg ⟨.plain rfl, .any (fun _ _ => rfl), .plain rfl, .plain rfl, .plain rfl, trivial⟩, .plain rfl, trivial⟩) ?_
      refine N.obl ⟨⟨_, rfl, fun h => h, Nat.le_refl _, fun j hj => absurd hj (Nat.not_lt_zero j)⟩, trivial⟩ ?_
      refine N.obl trivial ?_
      refine N.obl ⟨⟨.inr ⟨_, rfl, rfl⟩, trivial⟩, trivial⟩ ?_
      exact N.true
    | some q =>
      obtain ⟨c, T⟩ := q
      obtain ⟨hc1, hlc, hT⟩ := hβ
      repeat' (refine N.go ?_; first | with_reducible refine N.obl (by decide) ?_ | with_reducible refine N.obl (flat_wi _ _ _) ?_ | with_reducible refine N.obl (flat_lim _ _) ?_ | with_reducible refine N.eq ?_ | with_reducible refine N.obl rfl ?_ | with_reducible refine N.obl ⟨by kernel_rfl, by kernel_rfl⟩ ?_ | with_reducible refine N.alt ?_ | with_reducible refine N.forkT ?_ | with_reducible refine N.forkF ?_ | refine N.forkNo (by decide) ?_ | refine N.forkYes (by decide) ?_ | refine N.forkYes (by rw [decide_eq_true_eq]; omega) ?_ | refine N.forkNo (by rw [decide_eq_false_iff_not]; omega) ?_ | refine N.call (cLenS _ 1 L.length c 0 _ (by rfl) (by rfl) (by decide)) ?_ | refine N.call (cLenN _ 0 _ (by rfl)) ?_ | fail_if_success skip)
      refine N.go ?_
      refine airCloseG 0 [] L 1 c T one_bs one_pc hc1 hlc hT (by rfl) rfl (Nat.le_refl _) rfl (by rfl) (by decide) rfl (Nat.le_refl _) (fun j hj => eqv_of (seg_cell hj)) (fun x hx => by cases hx) (fun x hx => by cases hx) (plain_sc' rfl) ?_
      refine N.obl (.tuple ⟨.agg ⟨.plain rfl, .any (fun _ _ => rfl), .plain rfl, .plain rfl, .plain rfl, trivial⟩, .plain rfl, trivial⟩) ?_
      refine N.obl ⟨⟨_, rfl, fun h => h, Nat.le_refl _, fun j hj => absurd hj (Nat.not_lt_zero j)⟩, trivial⟩ ?_
      refine N.obl trivial ?_
      refine N.obl ⟨⟨.inr ⟨_, rfl, rfl⟩, trivial⟩, trivial⟩ ?_
      exact N.true
  · have hx2 : (L.length : Int) ≤ x := by omega
    cases β with
    | none =>
      obtain rfl : L = [] := hβ
      have hx3 : (0 : Int) ≤ x := by omega
      repeat' (refine N.go ?_; first | with_reducible refine N.obl (by decide) ?_ | with_reducible refine N.obl (flat_wi _ _ _) ?_ | with_reducible refine N.obl (flat_lim _ _) ?_ | with_reducible refine N.eq ?_ | with_reducible refine N.obl rfl ?_ | with_reducible refine N.obl ⟨by kernel_rfl, by kernel_rfl⟩ ?_ | with_reducible refine N.alt ?_ | with_reducible refine N.forkT ?_ | with_reducible refine N.forkF ?_ | refine N.forkNo (by decide) ?_ | refine N.forkYes (by decide) ?_ | refine N.forkYes (by rw [decide_eq_true_eq]; omega) ?_ | refine N.forkNo (by rw [decide_eq_false_iff_not]; omega) ?_ | refine N.call (cLenS _ 1 L.length c 0 _ (by rfl) (by rfl) (by decide)) ?_ | refine N.call (cLenN _ 0 _ (by rfl)) ?_ | fail_if_success skip)
      refine N.go ?_
      refine airClose0G 0 [] one_bs (fun _ => ⟨_, rfl, airP_ne [], packX_selfish⟩) (by rfl) rfl (Nat.le_refl _) rfl (fun x hx => by cases hx) (fun x hx => by cases hx) (plain_sc' rfl) ?_
      refine N.obl (.tuple ⟨.agg ⟨.plain rfl, .any (fun _ _ => rfl), .plain rfl, .plain rfl, .plain rfl, trivial⟩, .plain rfl, trivial⟩) ?_
      refine N.obl ⟨⟨_, rfl, fun h => h, Nat.le_refl _, fun j hj => absurd hj (Nat.not_lt_zero j)⟩, trivial⟩ ?_
      refine N.obl trivial ?_
      refine N.obl ⟨⟨.inr ⟨_, rfl, rfl⟩, trivial⟩, trivial⟩ ?_
      exact N.true
    | some q =>
      obtain ⟨c, T⟩ := q
      obtain ⟨hc1, hlc, hT⟩ := hβ
      repeat' (refine N.go ?_; first | with_reducible refine N.obl (by decide) ?_ | with_reducible refine N.obl (flat_wi _ _ _) ?_ | with_reducible refine N.obl (flat_lim _ _) ?_ | with_reducible refine N.eq ?_ | with_reducible refine N.obl rfl ?_ | with_reducible refine N.obl ⟨by kernel_rfl, by kernel_rfl⟩ ?_ | with_reducible refine N.alt ?_ | with_reducible refine N.forkT ?_ | with_reducible refine N.forkF ?_ | refine N.forkNo (by decide) ?_ | refine N.forkYes (by decide) ?_ | refine N.forkYes (by rw [decide_eq_true_eq]; omega) ?_ | refine N.forkNo (by rw [decide_eq_false_iff_not]; omega) ?_ | refine N.call (cLenS _ 1 L.length c 0 _ (by rfl) (by rfl) (by decide)) ?_ | refine N.call (cLenN _ 0 _ (by rfl)) ?_ | fail_if_success skip)
      refine N.go ?_
      refine airCloseG 0 [] L 1 c T one_bs one_pc hc1 hlc hT (by rfl) rfl (Nat.le_refl _) rfl (by rfl) (by decide) rfl (Nat.le_refl _) (fun j hj => eqv_of (seg_cell hj)) (fun x hx => by cases hx) (fun x hx => by cases hx) (plain_sc' rfl) ?_
      refine N.obl (.tuple ⟨.agg ⟨.plain rfl, .any (fun _ _ => rfl), .plain rfl, .plain rfl, .plain rfl, trivial⟩, .plain rfl, trivial⟩) ?_
      refine N.obl ⟨⟨_, rfl, fun h => h, Nat.le_refl _, fun j hj => absurd hj (Nat.not_lt_zero j)⟩, trivial⟩ ?_
      refine N.obl trivial ?_
      refine N.obl ⟨⟨.inr ⟨_, rfl, rfl⟩, trivial⟩, trivial⟩ ?_
      exact N.true
end Go.Proofs.Ytgikbmohmomgbaa
