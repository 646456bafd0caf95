
/-
  What changes the document's air, its slice told.
-/
import Derived.Test.YtgikbmohmomgbaaRefB
set_option linter.unusedVariables false
set_option linter.unusedSimpArgs false
namespace Go.Proofs.Ytgikbmohmomgbaa
open Go Go.RowKit Sx

set_option maxRecDepth 100000 in
set_option maxHeartbeats 2000000 in
theorem cQPutY (u0 : Option Sl) (L : List Ml) (hu : UOK u0 L) (to_ at_ tr : Int) (be : Bool) (u : Option Sl) (hl : L.length < 512) (hb : uN u ≤ 1000) (i : Nat) (h : List (Option Chunk)) (hi : h[i]? = some (some (refC u0 L))) : CallAll Try.prog 14 [.pointer (some ⟨i, 0, some 0⟩), mailV to_ u at_ tr be] h (fun v ms => ∃ u2, UOK u2 (L ++ [(Ml.mk to_ u at_ tr be)]) ∧ v = .bool true ∧ ms = [(i, refC u2 (L ++ [(Ml.mk to_ u at_ tr be)]))]) := by
  refine CallAll.to (call_resall (G := tys) (h := h) (vs := [.pointer (some ⟨i, 0, some 0⟩), mailV to_ u at_ tr be]) (airOK L) (airH L) (α := Option Sl) (fun κ => UOK κ (L ++ [(Ml.mk to_ u at_ tr be)])) (fun κ => .bool true) [⟨i, refC u0 L, refC u0 L, refC u0 L⟩] (fun κ => [refC κ (L ++ [(Ml.mk to_ u at_ tr be)])]) (fun κ => []) [.pointer (some ⟨0, 0, some 0⟩), mailV to_ u at_ tr be] tysOK mixed Try.func14 (by rfl) (Try.call14) ⟨hi, trivial⟩ ⟨⟨fun h => ⟨rfl, Nat.le_refl _⟩, Nat.le_refl _, refC_re⟩, trivial⟩ (fun κ _ => ⟨⟨fun h => ⟨rfl, Nat.le_refl _⟩, Nat.le_refl _, refC_re⟩, trivial⟩) (by simp [Apart]) ⟨.inr ⟨rfl, rfl⟩, trivial⟩ (fun κ _ => trivial) ⟨.ptr rfl, mailV_re _ _ _ _ _, trivial⟩ (ref_opens1 hu.1) ?_) ?_
  rotate_left
  · rintro v ms ⟨κ, hκ, rfl, rfl⟩
    exact ⟨κ, hκ, rfl, rfl⟩
  intro β hβ
  cases β with
  | none =>
    obtain rfl : L = [] := hβ
    repeat' (refine N.go ?_; first | with_reducible refine N.obl (by decide) ?_ | with_reducible refine N.obl (flat_wi _ _ _) ?_ | with_reducible refine N.obl (flat_lim _ _) ?_ | with_reducible refine N.eq ?_ | with_reducible refine N.obl rfl ?_ | with_reducible refine N.obl ⟨by kernel_rfl, by kernel_rfl⟩ ?_ | with_reducible refine N.alt ?_ | with_reducible refine N.forkT ?_ | with_reducible refine N.forkF ?_ | refine N.forkNo (by decide) ?_ | refine N.forkYes (by decide) ?_ | refine N.forkYes (by rw [decide_eq_true_eq]; omega) ?_ | refine N.forkNo (by rw [decide_eq_false_iff_not]; omega) ?_ | refine N.op (ok_lenU rfl rfl ⟨_, rfl, _, Try.underlying26⟩) ?_ | refine N.obl (mail_flat _ _ _ _ _) ?_ | fail_if_success skip)
    refine N.go ?_
    refine N.plan [0, 1, 2, 3, 4, 5, 6, 8, 9] [(7, [10])] (by kernel_rfl) ?_
    repeat' (refine N.go ?_; first | with_reducible refine N.obl (by decide) ?_ | with_reducible refine N.obl (flat_wi _ _ _) ?_ | with_reducible refine N.obl (flat_lim _ _) ?_ | with_reducible refine N.eq ?_ | with_reducible refine N.obl rfl ?_ | with_reducible refine N.obl ⟨by kernel_rfl, by kernel_rfl⟩ ?_ | with_reducible refine N.alt ?_ | with_reducible refine N.forkT ?_ | with_reducible refine N.forkF ?_ | refine N.forkNo (by decide) ?_ | refine N.forkYes (by decide) ?_ | refine N.forkYes (by rw [decide_eq_true_eq]; omega) ?_ | refine N.forkNo (by rw [decide_eq_false_iff_not]; omega) ?_ | refine N.op (ok_lenU rfl rfl ⟨_, rfl, _, Try.underlying26⟩) ?_ | refine N.obl (mail_flat _ _ _ _ _) ?_ | fail_if_success skip)
    refine N.go ?_
    refine N.obl (by show midB _ _ _ _ = Bool.true; kernel_rfl) ?_
    refine N.go ?_
    refine App0N.mk1 (Ml.v (Ml.mk to_ u at_ tr be)) ⟨Nat.le_refl _, _, rfl, rfl, fun j hj => by
      match j, hj with
      | 0, _ => rfl
      | 1, _ => rfl
      | 2, _ => rfl
      | 3, _ => rfl
      | 4, _ => rfl⟩ (by decide) (by decide) (by decide) fun c hc => ?_
    repeat' (refine N.go ?_; first | with_reducible refine N.obl (by decide) ?_ | with_reducible refine N.obl (flat_wi _ _ _) ?_ | with_reducible refine N.obl (flat_lim _ _) ?_ | with_reducible refine N.eq ?_ | with_reducible refine N.obl rfl ?_ | with_reducible refine N.obl ⟨by kernel_rfl, by kernel_rfl⟩ ?_ | with_reducible refine N.alt ?_ | with_reducible refine N.forkT ?_ | with_reducible refine N.forkF ?_ | refine N.forkNo (by decide) ?_ | refine N.forkYes (by decide) ?_ | refine N.obl (mail_flat _ _ _ _ _) ?_ | refine N.obl (by show endB _ _ = Bool.true; kernel_rfl) ?_ | fail_if_success skip)
    refine N.go ?_
    refine refCloseS ([] ++ [(Ml.mk to_ u at_ tr be)]) [] 4 c (growM (fun _ => Ml.z) 0 (Ml.mk to_ u at_ tr be)) (fun i hi => .inl (by simpa using hi)) (by show 1 ≤ _; decide) (by decide) (fun x hx => by cases hx) hc (by simpa using hc) (get_app (fun i m hm => by simp at hm) rfl) (by rfl) rfl rfl rfl rfl (by rfl) rfl rfl (Nat.le_refl _) (fun j hj => grown_mlA rfl hc (fun j hj => absurd hj (by omega)) hj) (fun u x hx => by cases hx) (fun u => (plain_sc' rfl)) (fun s hs hsp => ?_)
    refine N.some (some s) ⟨⟨hs, fun s' hs' => by cases hs'; exact hsp⟩, ?_⟩
    refine N.obl (.plain rfl) ?_
    refine N.obl ⟨⟨_, rfl, fun h => h, Nat.le_refl _, refC_re⟩, trivial⟩ ?_
    refine N.obl trivial ?_
    refine N.obl ⟨⟨.inr ⟨_, rfl, rfl⟩, trivial⟩, trivial⟩ ?_
    exact N.true
  | some r =>
    obtain ⟨c, T⟩ := r
    obtain ⟨hc1, hlc, hT⟩ := hβ
    repeat' (refine N.go ?_; first | with_reducible refine N.obl (by decide) ?_ | with_reducible refine N.obl (flat_wi _ _ _) ?_ | with_reducible refine N.obl (flat_lim _ _) ?_ | with_reducible refine N.eq ?_ | with_reducible refine N.obl rfl ?_ | with_reducible refine N.obl ⟨by kernel_rfl, by kernel_rfl⟩ ?_ | with_reducible refine N.alt ?_ | with_reducible refine N.forkT ?_ | with_reducible refine N.forkF ?_ | refine N.forkNo (by decide) ?_ | refine N.forkYes (by decide) ?_ | refine N.forkYes (by rw [decide_eq_true_eq]; omega) ?_ | refine N.forkNo (by rw [decide_eq_false_iff_not]; omega) ?_ | refine N.op (ok_lenU rfl rfl ⟨_, rfl, _, Try.underlying26⟩) ?_ | refine N.obl (mail_flat _ _ _ _ _) ?_ | fail_if_success skip)
    refine N.go ?_
    refine N.plan [0, 1, 2, 3, 4, 5, 6, 8, 9] [(7, [10])] (by kernel_rfl) ?_
    repeat' (refine N.go ?_; first | with_reducible refine N.obl (by decide) ?_ | with_reducible refine N.obl (flat_wi _ _ _) ?_ | with_reducible refine N.obl (flat_lim _ _) ?_ | with_reducible refine N.eq ?_ | with_reducible refine N.obl rfl ?_ | with_reducible refine N.obl ⟨by kernel_rfl, by kernel_rfl⟩ ?_ | with_reducible refine N.alt ?_ | with_reducible refine N.forkT ?_ | with_reducible refine N.forkF ?_ | refine N.forkNo (by decide) ?_ | refine N.forkYes (by decide) ?_ | refine N.forkYes (by rw [decide_eq_true_eq]; omega) ?_ | refine N.forkNo (by rw [decide_eq_false_iff_not]; omega) ?_ | refine N.op (ok_lenU rfl rfl ⟨_, rfl, _, Try.underlying26⟩) ?_ | refine N.obl (mail_flat _ _ _ _ _) ?_ | fail_if_success skip)
    refine N.go ?_
    refine N.obl (by show midB _ _ _ _ = Bool.true; kernel_rfl) ?_
    refine N.go ?_
    refine AppN.mk1 (Ml.v (Ml.mk to_ u at_ tr be)) ⟨Nat.le_refl _, _, rfl, rfl, fun j hj => by
      match j, hj with
      | 0, _ => rfl
      | 1, _ => rfl
      | 2, _ => rfl
      | 3, _ => rfl
      | 4, _ => rfl⟩ (by rfl) (by show L.length * 5 ≤ c * 5; omega) (by omega) (by show (L.length + 1) * 56 ≤ _; omega) (mlA true c (setM1 T L.length (Ml.mk to_ u at_ tr be))) (fun h => wr_mlA rfl (by omega) rfl) (fun hr => ?_) (fun hg cap hcap => ?_)
    · repeat' (refine N.go ?_; first | with_reducible refine N.obl (by decide) ?_ | with_reducible refine N.obl (flat_wi _ _ _) ?_ | with_reducible refine N.obl (flat_lim _ _) ?_ | with_reducible refine N.eq ?_ | with_reducible refine N.obl rfl ?_ | with_reducible refine N.obl ⟨by kernel_rfl, by kernel_rfl⟩ ?_ | with_reducible refine N.alt ?_ | with_reducible refine N.forkT ?_ | with_reducible refine N.forkF ?_ | refine N.forkNo (by decide) ?_ | refine N.forkYes (by decide) ?_ | refine N.obl (mail_flat _ _ _ _ _) ?_ | refine N.obl (by show endB _ _ = Bool.true; kernel_rfl) ?_ | fail_if_success skip)
      refine N.go ?_
      refine refCloseS (L ++ [(Ml.mk to_ u at_ tr be)]) [] 1 c (setM1 T L.length (Ml.mk to_ u at_ tr be)) (fun i hi => .inl (by simpa using hi)) (by show 1 ≤ _; decide) (by decide) (fun x hx => by cases hx) hc1 (by rw [List.length_append]; exact hr) (get_app (fun i m hm => by have := (List.getElem?_eq_some_iff.1 hm).1; rw [← hT i m hm]; exact setM1_ne (by omega)) (setM1_at _ _ _)) (by rfl) rfl rfl rfl (by rw [List.length_append]; rfl) (by rfl) rfl rfl (Nat.le_refl _) (fun j hj => eqv_of (seg_cell hj)) (fun u x hx => by cases hx) (fun u => (plain_sc' rfl)) (fun s hs hsp => ?_)
      refine N.some (some s) ⟨⟨hs, fun s' hs' => by cases hs'; exact hsp⟩, ?_⟩
      refine N.obl (.plain rfl) ?_
      refine N.obl ⟨⟨_, rfl, fun h => h, Nat.le_refl _, refC_re⟩, trivial⟩ ?_
      refine N.obl trivial ?_
      refine N.obl ⟨⟨.inr ⟨_, rfl, rfl⟩, trivial⟩, trivial⟩ ?_
      exact N.true
    · repeat' (refine N.go ?_; first | with_reducible refine N.obl (by decide) ?_ | with_reducible refine N.obl (flat_wi _ _ _) ?_ | with_reducible refine N.obl (flat_lim _ _) ?_ | with_reducible refine N.eq ?_ | with_reducible refine N.obl rfl ?_ | with_reducible refine N.obl ⟨by kernel_rfl, by kernel_rfl⟩ ?_ | with_reducible refine N.alt ?_ | with_reducible refine N.forkT ?_ | with_reducible refine N.forkF ?_ | refine N.forkNo (by decide) ?_ | refine N.forkYes (by decide) ?_ | refine N.obl (mail_flat _ _ _ _ _) ?_ | refine N.obl (by show endB _ _ = Bool.true; kernel_rfl) ?_ | fail_if_success skip)
      refine N.go ?_
      refine refCloseS (L ++ [(Ml.mk to_ u at_ tr be)]) [] 4 cap (growM T L.length (Ml.mk to_ u at_ tr be)) (fun i hi => .inl (by simpa using hi)) (by show 1 ≤ _; decide) (by decide) (fun x hx => by cases hx) (by omega) (by rw [List.length_append]; exact hcap) (get_app (fun i m hm => by have := (List.getElem?_eq_some_iff.1 hm).1; rw [← hT i m hm]; exact growM_lt (by omega)) (by unfold growM; rw [if_neg (Nat.lt_irrefl _), if_pos rfl])) (by rfl) rfl rfl rfl (by rw [List.length_append]; rfl) (by rfl) rfl rfl (Nat.le_refl _) (fun j hj => grown_mlA rfl hcap (fun j hj => seg_cell (by omega)) hj) (fun u x hx => by cases hx) (fun u => (plain_sc' rfl)) (fun s hs hsp => ?_)
      refine N.some (some s) ⟨⟨hs, fun s' hs' => by cases hs'; exact hsp⟩, ?_⟩
      refine N.obl (.plain rfl) ?_
      refine N.obl ⟨⟨_, rfl, fun h => h, Nat.le_refl _, refC_re⟩, trivial⟩ ?_
      refine N.obl trivial ?_
      refine N.obl ⟨⟨.inr ⟨_, rfl, rfl⟩, trivial⟩, trivial⟩ ?_
      exact N.true
set_option maxRecDepth 100000 in
set_option maxHeartbeats 2000000 in
theorem cQDoubleY (u0 : Option Sl) (L : List Ml) (hu : UOK u0 L) (x : Nat) (m : Ml) (hm : L[x]? = some m) (hl : L.length < 512) (hb : uN m.u ≤ 1000) (i : Nat) (h : List (Option Chunk)) (hi : h[i]? = some (some (refC u0 L))) : CallAll Try.prog 18 [.pointer (some ⟨i, 0, some 0⟩), .int .i64 (x : Nat)] h (fun v ms => ∃ u2, UOK u2 (L ++ [(⟨m.to_, m.u, m.at_, m.tr, m.be⟩ : Ml)]) ∧ v = .bool true ∧ ms = [(i, refC u2 (L ++ [(⟨m.to_, m.u, m.at_, m.tr, m.be⟩ : Ml)]))]) := by
  refine CallAll.to (call_resall (G := tys) (h := h) (vs := [.pointer (some ⟨i, 0, some 0⟩), .int .i64 (x : Nat)]) (fun _ : Unit => True) (fun _ => _) (α := Option Sl) (fun κ => UOK κ (L ++ [(⟨m.to_, m.u, m.at_, m.tr, m.be⟩ : Ml)])) (fun κ => .bool true) [⟨i, refC u0 L, refC u0 L, refC u0 L⟩] (fun κ => [refC κ (L ++ [(⟨m.to_, m.u, m.at_, m.tr, m.be⟩ : Ml)])]) (fun κ => []) [.pointer (some ⟨0, 0, some 0⟩), .int .i64 (x : Nat)] tysOK mixed Try.func18 (by rfl) (Try.call18) ⟨hi, trivial⟩ ⟨⟨fun h => ⟨rfl, Nat.le_refl _⟩, Nat.le_refl _, refC_re⟩, trivial⟩ (fun κ _ => ⟨⟨fun h => ⟨rfl, Nat.le_refl _⟩, Nat.le_refl _, refC_re⟩, trivial⟩) (by simp [Apart]) ⟨.inr ⟨rfl, rfl⟩, trivial⟩ (fun κ _ => trivial) ⟨.ptr rfl, .plain rfl, trivial⟩ Opens.same ?_) ?_
  rotate_left
  · rintro v ms ⟨κ, hκ, rfl, rfl⟩
    exact ⟨κ, hκ, rfl, rfl⟩
  rintro ⟨⟩ -
  repeat' (refine N.go ?_; first | with_reducible refine N.obl (by decide) ?_ | with_reducible refine N.obl (flat_wi _ _ _) ?_ | with_reducible refine N.obl (flat_lim _ _) ?_ | with_reducible refine N.eq ?_ | with_reducible refine N.obl rfl ?_ | with_reducible refine N.obl ⟨by kernel_rfl, by kernel_rfl⟩ ?_ | with_reducible refine N.alt ?_ | with_reducible refine N.forkT ?_ | with_reducible refine N.forkF ?_ | refine N.forkNo (by decide) ?_ | refine N.forkYes (by decide) ?_ | refine N.call (cQGetY u0 _ hu x _ hm 0 _ (by rfl)) ?_ | refine N.op (ok_lenU rfl rfl ⟨_, rfl, _, Try.underlying40⟩) ?_ | refine N.op (ok_lenU rfl rfl ⟨_, rfl, _, Try.underlying26⟩) ?_ | refine N.obl (mail_flat _ _ _ _ _) ?_ | refine N.forkYes (decide_eq_true (by show _ ≤ _; rw [hu.1]; omega)) ?_ | refine N.forkNo (decide_eq_false (by show ¬ _ ≤ _; rw [hu.1]; omega)) ?_ | refine N.forkYes (decide_eq_true (by show _ < _; omega)) ?_ | refine N.forkNo (decide_eq_false (by show ¬ _ < _; omega)) ?_ | refine N.forkYes (decide_eq_true (by show _ > _; omega)) ?_ | refine N.forkNo (decide_eq_false (by show ¬ _ > _; omega)) ?_ | refine N.forkYes (by rw [decide_eq_true_eq]; omega) ?_ | refine N.forkNo (by rw [decide_eq_false_iff_not]; omega) ?_ | fail_if_success skip)
  refine N.go ?_
  refine N.callAll (cQPutY u0 L hu m.to_ m.at_ m.tr m.be m.u hl hb 0 _ (by rfl)) fun v ms hR => ?_
  obtain ⟨u2, hu2, rfl, rfl⟩ := hR
  repeat' (refine N.go ?_; first | with_reducible refine N.obl (by decide) ?_ | with_reducible refine N.obl (flat_wi _ _ _) ?_ | with_reducible refine N.obl (flat_lim _ _) ?_ | with_reducible refine N.eq ?_ | with_reducible refine N.obl rfl ?_ | with_reducible refine N.obl ⟨by kernel_rfl, by kernel_rfl⟩ ?_ | with_reducible refine N.alt ?_ | with_reducible refine N.forkT ?_ | with_reducible refine N.forkF ?_ | refine N.forkNo (by decide) ?_ | refine N.forkYes (by decide) ?_ | refine N.op (ok_lenU rfl rfl ⟨_, rfl, _, Try.underlying40⟩) ?_ | refine N.op (ok_lenU rfl rfl ⟨_, rfl, _, Try.underlying26⟩) ?_ | refine N.obl (mail_flat _ _ _ _ _) ?_ | refine N.forkYes (decide_eq_true (by show _ ≤ _; rw [hu.1]; omega)) ?_ | refine N.forkNo (decide_eq_false (by show ¬ _ ≤ _; rw [hu.1]; omega)) ?_ | refine N.forkYes (decide_eq_true (by show _ < _; omega)) ?_ | refine N.forkNo (decide_eq_false (by show ¬ _ < _; omega)) ?_ | refine N.forkYes (decide_eq_true (by show _ > _; omega)) ?_ | refine N.forkNo (decide_eq_false (by show ¬ _ > _; omega)) ?_ | refine N.forkYes (by rw [decide_eq_true_eq]; omega) ?_ | refine N.forkNo (by rw [decide_eq_false_iff_not]; omega) ?_ | fail_if_success skip)
  refine N.go ?_
  refine N.endSame ?_
  refine N.some u2 ⟨hu2, ?_⟩
  refine N.obl (.plain rfl) ?_
  refine N.obl ⟨⟨_, rfl, fun h => h, Nat.le_refl _, refC_re⟩, trivial⟩ ?_
  refine N.obl trivial ?_
  refine N.obl ⟨⟨.inr ⟨_, rfl, rfl⟩, trivial⟩, trivial⟩ ?_
  exact N.true
set_option maxRecDepth 100000 in
set_option maxHeartbeats 2000000 in
theorem cQTakeY (u0 : Option Sl) (L : List Ml) (hu : UOK u0 L) (x : Nat) (m : Ml) (hm : L[x]? = some m) (hl : L.length ≤ 1000) (i : Nat) (h : List (Option Chunk)) (hi : h[i]? = some (some (refC u0 L))) : CallAll Try.prog 16 [.pointer (some ⟨i, 0, some 0⟩), .int .i64 (x : Nat)] h (fun v ms => ∃ u2, UOK u2 (L.eraseIdx x) ∧ v = .tuple ⟨[mailV m.to_ m.u m.at_ m.tr m.be, .bool true]⟩ ∧ ms = [(i, refC u2 (L.eraseIdx x))]) := by
  refine CallAll.to (call_resall (G := tys) (h := h) (vs := [.pointer (some ⟨i, 0, some 0⟩), .int .i64 (x : Nat)]) (airOK L) (airH L) (α := Option Sl) (fun κ => UOK κ (L.eraseIdx x)) (fun κ => .tuple ⟨[mailV m.to_ m.u m.at_ m.tr m.be, .bool true]⟩) [⟨i, refC u0 L, refC u0 L, refC u0 L⟩] (fun κ => [refC κ (L.eraseIdx x)]) (fun κ => []) [.pointer (some ⟨0, 0, some 0⟩), .int .i64 (x : Nat)] tysOK mixed Try.func16 (by rfl) (Try.call16) ⟨hi, trivial⟩ ⟨⟨fun h => ⟨rfl, Nat.le_refl _⟩, Nat.le_refl _, refC_re⟩, trivial⟩ (fun κ _ => ⟨⟨fun h => ⟨rfl, Nat.le_refl _⟩, Nat.le_refl _, refC_re⟩, trivial⟩) (by simp [Apart]) ⟨.inr ⟨rfl, rfl⟩, trivial⟩ (fun κ _ => trivial) ⟨.ptr rfl, .plain rfl, trivial⟩ (ref_opens1 hu.1) ?_) ?_
  rotate_left
  · rintro v ms ⟨κ, hκ, rfl, rfl⟩
    exact ⟨κ, hκ, rfl, rfl⟩
  have hx : x < L.length := (List.getElem?_eq_some_iff.1 hm).1
  have hw : IntKind.i64.wrap ((x : Int) + 1) = (x : Int) + 1 := i64s _ (by omega) (by omega)
  intro β hβ
  cases β with
  | none =>
    obtain rfl : L = [] := hβ
    simp at hx
  | some r =>
    obtain ⟨c, T⟩ := r
    obtain ⟨hc1, hlc, hT⟩ := hβ
    obtain rfl : T x = m := hT x m hm
    have e0 : 0 + (if c = 0 then 0 else 0 * Try.t46.size) = 0 := by split <;> simp
    have e2 : ∃ g, 0 + (if c = x + 1 then 0 else (x + 1) * Try.t46.size) = g ∧ (L.length = x + 1 ∧ g ≤ c * 5 ∨ g = (x + 1) * 5) := by
      by_cases e : c = x + 1
      · exact ⟨0, by rw [if_pos e], .inl ⟨by omega, by omega⟩⟩
      · exact ⟨(x + 1) * 5, by rw [if_neg e]; show 0 + (x + 1) * 5 = _; omega, .inr rfl⟩
    obtain ⟨g, e2, hg⟩ := e2
    repeat' (refine N.go ?_; first | with_reducible refine N.obl (by decide) ?_ | with_reducible refine N.obl (flat_wi _ _ _) ?_ | with_reducible refine N.obl (flat_lim _ _) ?_ | with_reducible refine N.eq ?_ | with_reducible refine N.obl rfl ?_ | with_reducible refine N.obl ⟨by kernel_rfl, by kernel_rfl⟩ ?_ | with_reducible refine N.alt ?_ | with_reducible refine N.forkT ?_ | with_reducible refine N.forkF ?_ | refine N.forkNo (by decide) ?_ | refine N.forkYes (by decide) ?_ | refine N.forkYes (by rw [decide_eq_true_eq]; omega) ?_ | refine N.forkNo (by rw [decide_eq_false_iff_not]; omega) ?_ | refine N.obl (mail_flat _ _ _ _ _) ?_ | refine N.call (cRGetO _ _ L.length c x T hx hlc 0 1 (by decide) _ (by rfl) (by rfl)) ?_ | (refine N.bnd 0 x 0 ⟨rfl, by omega⟩ rfl ?_; rw [e0, show x - 0 = x from by omega, show c - 0 = c from rfl]) | (rw [hw]; refine N.bnd (x + 1) L.length 1 rfl ⟨by rfl, by omega⟩ ?_; rw [e2]) | refine N.obl (by show endB _ _ = Bool.true; kernel_rfl) ?_ | fail_if_success skip)
    refine N.go ?_
    refine N.plan [0, 1, 2, 3, 4, 5, 6, 8, 9, 10, 11, 12, 13, 14, 16, 17] [(7, []), (15, [18])] (by kernel_rfl) ?_
    repeat' (refine N.go ?_; first | with_reducible refine N.obl (by decide) ?_ | with_reducible refine N.obl (flat_wi _ _ _) ?_ | with_reducible refine N.obl (flat_lim _ _) ?_ | with_reducible refine N.eq ?_ | with_reducible refine N.obl rfl ?_ | with_reducible refine N.obl ⟨by kernel_rfl, by kernel_rfl⟩ ?_ | with_reducible refine N.alt ?_ | with_reducible refine N.forkT ?_ | with_reducible refine N.forkF ?_ | refine N.forkNo (by decide) ?_ | refine N.forkYes (by decide) ?_ | refine N.forkYes (by rw [decide_eq_true_eq]; omega) ?_ | refine N.forkNo (by rw [decide_eq_false_iff_not]; omega) ?_ | refine N.obl (mail_flat _ _ _ _ _) ?_ | refine N.call (cRGetO _ _ L.length c x T hx hlc 0 1 (by decide) _ (by rfl) (by rfl)) ?_ | (refine N.bnd 0 x 0 ⟨rfl, by omega⟩ rfl ?_; rw [e0, show x - 0 = x from by omega, show c - 0 = c from rfl]) | (rw [hw]; refine N.bnd (x + 1) L.length 1 rfl ⟨by rfl, by omega⟩ ?_; rw [e2]) | refine N.obl (by show endB _ _ = Bool.true; kernel_rfl) ?_ | fail_if_success skip)
    refine N.go ?_
    by_cases hx0 : x = 0
    · subst hx0
      refine N.mk (.inr ⟨rfl, ?_⟩)
      repeat' (refine N.go ?_; first | with_reducible refine N.obl (by decide) ?_ | with_reducible refine N.obl (flat_wi _ _ _) ?_ | with_reducible refine N.obl (flat_lim _ _) ?_ | with_reducible refine N.eq ?_ | with_reducible refine N.obl rfl ?_ | with_reducible refine N.obl ⟨by kernel_rfl, by kernel_rfl⟩ ?_ | with_reducible refine N.alt ?_ | with_reducible refine N.forkT ?_ | with_reducible refine N.forkF ?_ | refine N.forkNo (by decide) ?_ | refine N.forkYes (by decide) ?_ | refine N.forkYes (by rw [decide_eq_true_eq]; omega) ?_ | refine N.forkNo (by rw [decide_eq_false_iff_not]; omega) ?_ | refine N.obl (mail_flat _ _ _ _ _) ?_ | refine N.call (cRGetO _ _ L.length c x T hx hlc 0 1 (by decide) _ (by rfl) (by rfl)) ?_ | (refine N.bnd 0 x 0 ⟨rfl, by omega⟩ rfl ?_; rw [e0, show x - 0 = x from by omega, show c - 0 = c from rfl]) | (rw [hw]; refine N.bnd (x + 1) L.length 1 rfl ⟨by rfl, by omega⟩ ?_; rw [e2]) | refine N.obl (by show endB _ _ = Bool.true; kernel_rfl) ?_ | fail_if_success skip)
      refine N.go ?_
      by_cases h1 : L.length = 1
      · rw [show L.length - (0 + 1) = 0 from by omega]
        refine N.mk (.inr ⟨rfl, ?_⟩)
        have hL0 : L.eraseIdx 0 = [] := List.length_eq_zero_iff.1 (by rw [List.length_eraseIdx_of_lt hx]; omega)
        rw [hL0]
        repeat' (refine N.go ?_; first | with_reducible refine N.obl (by decide) ?_ | with_reducible refine N.obl (flat_wi _ _ _) ?_ | with_reducible refine N.obl (flat_lim _ _) ?_ | with_reducible refine N.eq ?_ | with_reducible refine N.obl rfl ?_ | with_reducible refine N.obl ⟨by kernel_rfl, by kernel_rfl⟩ ?_ | with_reducible refine N.alt ?_ | with_reducible refine N.forkT ?_ | with_reducible refine N.forkF ?_ | refine N.forkNo (by decide) ?_ | refine N.forkYes (by decide) ?_ | refine N.forkYes (by rw [decide_eq_true_eq]; omega) ?_ | refine N.forkNo (by rw [decide_eq_false_iff_not]; omega) ?_ | refine N.obl (mail_flat _ _ _ _ _) ?_ | refine N.call (cRGetO _ _ L.length c x T hx hlc 0 1 (by decide) _ (by rfl) (by rfl)) ?_ | (refine N.bnd 0 x 0 ⟨rfl, by omega⟩ rfl ?_; rw [e0, show x - 0 = x from by omega, show c - 0 = c from rfl]) | (rw [hw]; refine N.bnd (x + 1) L.length 1 rfl ⟨by rfl, by omega⟩ ?_; rw [e2]) | refine N.obl (by show endB _ _ = Bool.true; kernel_rfl) ?_ | fail_if_success skip)
        refine N.go ?_
        refine N.endSame ?_
        refine N.some none ⟨UOK.nil, ?_⟩
        refine N.obl (.tuple ⟨mailV_re _ _ _ _ _, .plain rfl, trivial⟩) ?_
        refine N.obl ⟨⟨_, rfl, fun h => h, Nat.le_refl _, fun j hj => by
          have hj : j < 1 := hj
          obtain rfl : j = 0 := by omega
          exact .any (fun _ _ => rfl)⟩, trivial⟩ ?_
        refine N.obl trivial ?_
        refine N.obl ⟨⟨.inl rfl, trivial⟩, trivial⟩ ?_
        exact N.true
      · refine App0N.mk1 _ (rd_tailM rfl hlc hx hg) (by omega) (by omega) (by show (L.length - (0 + 1)) * 56 ≤ _; omega) fun cap hcap => ?_
        repeat' (refine N.go ?_; first | with_reducible refine N.obl (by decide) ?_ | with_reducible refine N.obl (flat_wi _ _ _) ?_ | with_reducible refine N.obl (flat_lim _ _) ?_ | with_reducible refine N.eq ?_ | with_reducible refine N.obl rfl ?_ | with_reducible refine N.obl ⟨by kernel_rfl, by kernel_rfl⟩ ?_ | with_reducible refine N.alt ?_ | with_reducible refine N.forkT ?_ | with_reducible refine N.forkF ?_ | refine N.forkNo (by decide) ?_ | refine N.forkYes (by decide) ?_ | refine N.forkYes (by rw [decide_eq_true_eq]; omega) ?_ | refine N.forkNo (by rw [decide_eq_false_iff_not]; omega) ?_ | refine N.obl (mail_flat _ _ _ _ _) ?_ | refine N.call (cRGetO _ _ L.length c x T hx hlc 0 1 (by decide) _ (by rfl) (by rfl)) ?_ | (refine N.bnd 0 x 0 ⟨rfl, by omega⟩ rfl ?_; rw [e0, show x - 0 = x from by omega, show c - 0 = c from rfl]) | (rw [hw]; refine N.bnd (x + 1) L.length 1 rfl ⟨by rfl, by omega⟩ ?_; rw [e2]) | refine N.obl (by show endB _ _ = Bool.true; kernel_rfl) ?_ | fail_if_success skip)
        refine N.go ?_
        refine refCloseS (L.eraseIdx 0) [] 12 cap (cutM T 0 L.length) (fun i hi => .inl (by simpa using hi)) (by show 1 ≤ _; decide) (by decide) (fun x hx => by cases hx) (by omega) (by rw [List.length_eraseIdx_of_lt hx]; omega) (get_cut hx hT) (by rfl) rfl rfl rfl (by rw [List.length_eraseIdx_of_lt hx]; first | rfl | (rw [show x + (L.length - (x + 1)) = L.length - 1 from by omega]; rfl)) (by rfl) rfl rfl (Nat.le_refl _) (fun j hj => grown_cut rfl hx (fun j hj => absurd hj (by omega)) (by omega) hj) (fun u x hx => by cases hx) (fun u => (mail_sc _ _ _ _ _ _)) (fun s hs hsp => ?_)
        refine N.some (some s) ⟨⟨hs, fun s' hs' => by cases hs'; exact hsp⟩, ?_⟩
        refine N.obl (.tuple ⟨mailV_re _ _ _ _ _, .plain rfl, trivial⟩) ?_
        refine N.obl ⟨⟨_, rfl, fun h => h, Nat.le_refl _, refC_re⟩, trivial⟩ ?_
        refine N.obl trivial ?_
        refine N.obl ⟨⟨.inr ⟨_, rfl, rfl⟩, trivial⟩, trivial⟩ ?_
        exact N.true
    · refine App0N.mk1 _ (rd_headM rfl (by omega) rfl) (by omega) (by omega) (by show x * 56 ≤ _; omega) fun cap hcap => ?_
      repeat' (refine N.go ?_; first | with_reducible refine N.obl (by decide) ?_ | with_reducible refine N.obl (flat_wi _ _ _) ?_ | with_reducible refine N.obl (flat_lim _ _) ?_ | with_reducible refine N.eq ?_ | with_reducible refine N.obl rfl ?_ | with_reducible refine N.obl ⟨by kernel_rfl, by kernel_rfl⟩ ?_ | with_reducible refine N.alt ?_ | with_reducible refine N.forkT ?_ | with_reducible refine N.forkF ?_ | refine N.forkNo (by decide) ?_ | refine N.forkYes (by decide) ?_ | refine N.forkYes (by rw [decide_eq_true_eq]; omega) ?_ | refine N.forkNo (by rw [decide_eq_false_iff_not]; omega) ?_ | refine N.obl (mail_flat _ _ _ _ _) ?_ | refine N.call (cRGetO _ _ L.length c x T hx hlc 0 1 (by decide) _ (by rfl) (by rfl)) ?_ | (refine N.bnd 0 x 0 ⟨rfl, by omega⟩ rfl ?_; rw [e0, show x - 0 = x from by omega, show c - 0 = c from rfl]) | (rw [hw]; refine N.bnd (x + 1) L.length 1 rfl ⟨by rfl, by omega⟩ ?_; rw [e2]) | refine N.obl (by show endB _ _ = Bool.true; kernel_rfl) ?_ | fail_if_success skip)
      refine N.go ?_
      refine AppN.mk1 _ (rd_tailM rfl hlc hx hg) (fl_segM (T := fun i => T (i + (x + 1))) rfl) (by show x * 5 ≤ cap * 5; omega) (by omega) (by show (x + (L.length - (x + 1))) * 56 ≤ _; omega) (roomC _ x L.length cap T) (fun hr => wr_room rfl rfl rfl hx hr rfl rfl) (fun hr => ?_) (fun hg cap2 hcap2 => ?_)
      · repeat' (refine N.go ?_; first | with_reducible refine N.obl (by decide) ?_ | with_reducible refine N.obl (flat_wi _ _ _) ?_ | with_reducible refine N.obl (flat_lim _ _) ?_ | with_reducible refine N.eq ?_ | with_reducible refine N.obl rfl ?_ | with_reducible refine N.obl ⟨by kernel_rfl, by kernel_rfl⟩ ?_ | with_reducible refine N.alt ?_ | with_reducible refine N.forkT ?_ | with_reducible refine N.forkF ?_ | refine N.forkNo (by decide) ?_ | refine N.forkYes (by decide) ?_ | refine N.forkYes (by rw [decide_eq_true_eq]; omega) ?_ | refine N.forkNo (by rw [decide_eq_false_iff_not]; omega) ?_ | refine N.obl (mail_flat _ _ _ _ _) ?_ | refine N.call (cRGetO _ _ L.length c x T hx hlc 0 1 (by decide) _ (by rfl) (by rfl)) ?_ | (refine N.bnd 0 x 0 ⟨rfl, by omega⟩ rfl ?_; rw [e0, show x - 0 = x from by omega, show c - 0 = c from rfl]) | (rw [hw]; refine N.bnd (x + 1) L.length 1 rfl ⟨by rfl, by omega⟩ ?_; rw [e2]) | refine N.obl (by show endB _ _ = Bool.true; kernel_rfl) ?_ | fail_if_success skip)
        refine N.go ?_
        refine refCloseS (L.eraseIdx x) [] 8 cap (cutM T x L.length) (fun i hi => .inl (by simpa using hi)) (by show 1 ≤ _; decide) (by decide) (fun x hx => by cases hx) (by omega) (by rw [List.length_eraseIdx_of_lt hx]; omega) (get_cut hx hT) (by rfl) rfl rfl rfl (by rw [List.length_eraseIdx_of_lt hx]; first | rfl | (rw [show x + (L.length - (x + 1)) = L.length - 1 from by omega]; rfl)) (by rfl) rfl rfl (Nat.le_refl _) (fun j hj => room_cut hx hr (fun j hj => eqv_of (headM rfl hj)) (fun j h1 h2 => headZ rfl h1 h2) hj) (fun u x hx => by cases hx) (fun u => (mail_sc _ _ _ _ _ _)) (fun s hs hsp => ?_)
        refine N.some (some s) ⟨⟨hs, fun s' hs' => by cases hs'; exact hsp⟩, ?_⟩
        refine N.obl (.tuple ⟨mailV_re _ _ _ _ _, .plain rfl, trivial⟩) ?_
        refine N.obl ⟨⟨_, rfl, fun h => h, Nat.le_refl _, refC_re⟩, trivial⟩ ?_
        refine N.obl trivial ?_
        refine N.obl ⟨⟨.inr ⟨_, rfl, rfl⟩, trivial⟩, trivial⟩ ?_
        exact N.true
      · repeat' (refine N.go ?_; first | with_reducible refine N.obl (by decide) ?_ | with_reducible refine N.obl (flat_wi _ _ _) ?_ | with_reducible refine N.obl (flat_lim _ _) ?_ | with_reducible refine N.eq ?_ | with_reducible refine N.obl rfl ?_ | with_reducible refine N.obl ⟨by kernel_rfl, by kernel_rfl⟩ ?_ | with_reducible refine N.alt ?_ | with_reducible refine N.forkT ?_ | with_reducible refine N.forkF ?_ | refine N.forkNo (by decide) ?_ | refine N.forkYes (by decide) ?_ | refine N.forkYes (by rw [decide_eq_true_eq]; omega) ?_ | refine N.forkNo (by rw [decide_eq_false_iff_not]; omega) ?_ | refine N.obl (mail_flat _ _ _ _ _) ?_ | refine N.call (cRGetO _ _ L.length c x T hx hlc 0 1 (by decide) _ (by rfl) (by rfl)) ?_ | (refine N.bnd 0 x 0 ⟨rfl, by omega⟩ rfl ?_; rw [e0, show x - 0 = x from by omega, show c - 0 = c from rfl]) | (rw [hw]; refine N.bnd (x + 1) L.length 1 rfl ⟨by rfl, by omega⟩ ?_; rw [e2]) | refine N.obl (by show endB _ _ = Bool.true; kernel_rfl) ?_ | fail_if_success skip)
        refine N.go ?_
        refine refCloseS (L.eraseIdx x) [] 12 cap2 (cutM T x L.length) (fun i hi => .inl (by simpa using hi)) (by show 1 ≤ _; decide) (by decide) (fun x hx => by cases hx) (by omega) (by rw [List.length_eraseIdx_of_lt hx]; omega) (get_cut hx hT) (by rfl) rfl rfl rfl (by rw [List.length_eraseIdx_of_lt hx]; first | rfl | (rw [show x + (L.length - (x + 1)) = L.length - 1 from by omega]; rfl)) (by rfl) rfl rfl (Nat.le_refl _) (fun j hj => grown_cut rfl hx (fun j hj => eqv_of (headM rfl hj)) (by omega) hj) (fun u x hx => by cases hx) (fun u => (mail_sc _ _ _ _ _ _)) (fun s hs hsp => ?_)
        refine N.some (some s) ⟨⟨hs, fun s' hs' => by cases hs'; exact hsp⟩, ?_⟩
        refine N.obl (.tuple ⟨mailV_re _ _ _ _ _, .plain rfl, trivial⟩) ?_
        refine N.obl ⟨⟨_, rfl, fun h => h, Nat.le_refl _, refC_re⟩, trivial⟩ ?_
        refine N.obl trivial ?_
        refine N.obl ⟨⟨.inr ⟨_, rfl, rfl⟩, trivial⟩, trivial⟩ ?_
        exact N.true
set_option maxRecDepth 100000 in
set_option maxHeartbeats 2000000 in
theorem cQBendY (W : World) (F : List By) (u0 : Option Sl) (L : List Ml) (hu : UOK u0 L) (x q : Nat) (b : Int) (to_ at_ tr : Int) (u : Option Sl) (bs : List Int) (hm : L[x]? = some ⟨to_, u, at_, tr, false⟩) (hs : Src W F u bs) (hq : q < bs.length) (hbs : bs.length ≤ 1048576) (hb : b ≠ 0) (hl : L.length ≤ 1000) (i j : Nat) (hij : i ≠ j) (h : List (Option Chunk)) (hi : h[i]? = some (some (refC u0 L))) (hj : h[j]? = some (some (memC W F))) :
    CallAll Try.prog 19 [.pointer (some ⟨i, 0, some 0⟩), .int .i64 (x : Nat), .int .i64 (q : Nat), .int .u8 b] h (fun v ms => ∃ g k u2, g ∉ F.map By.b ∧ UOK u2 (L.set x ⟨to_, (By.mk g k bs).s, at_, tr, true⟩) ∧ v = .int .i64 0 ∧ ms = [(i, refC u2 (L.set x ⟨to_, (By.mk g k bs).s, at_, tr, true⟩)), (j, memC W (setB (⟨g, k, bs⟩ :: F) g q (bendV (bs.getD q 0) b)))]) := by
  refine CallAll.to (call_resall (G := tys) (h := h) (vs := [.pointer (some ⟨i, 0, some 0⟩), .int .i64 (x : Nat), .int .i64 (q : Nat), .int .u8 b]) (airOK L) (airO W F L) (α := (Nat × Nat) × Option Sl) (fun κ => κ.1.1 ∉ F.map By.b ∧ UOK κ.2 (L.set x ⟨to_, (By.mk κ.1.1 κ.1.2 bs).s, at_, tr, true⟩)) (fun κ => .int .i64 0) [⟨i, refC u0 L, refC u0 L, refC u0 L⟩, ⟨j, memC W F, memC W F, memC W F⟩] (fun κ => [refC κ.2 (L.set x ⟨to_, (By.mk κ.1.1 κ.1.2 bs).s, at_, tr, true⟩), memC W (setB (⟨κ.1.1, κ.1.2, bs⟩ :: F) κ.1.1 q (bendV (bs.getD q 0) b))]) (fun κ => []) [.pointer (some ⟨0, 0, some 0⟩), .int .i64 (x : Nat), .int .i64 (q : Nat), .int .u8 b] tysOK mixed Try.func19 (by rfl) (Try.call19) ⟨hi, hj, trivial⟩ ⟨⟨fun h => ⟨rfl, Nat.le_refl _⟩, Nat.le_refl _, refC_re⟩, ⟨fun h => ⟨rfl, Nat.le_refl _⟩, Nat.le_refl _, fun j hj => absurd hj (Nat.not_lt_zero j)⟩, trivial⟩ (fun κ _ => ⟨⟨fun h => ⟨rfl, Nat.le_refl _⟩, Nat.le_refl _, refC_re⟩, ⟨fun h => ⟨rfl, Nat.le_refl _⟩, Nat.le_refl _, fun j hj => absurd hj (Nat.not_lt_zero j)⟩, trivial⟩) (by simp [Apart, hij]) ⟨.inr ⟨rfl, rfl⟩, .inr ⟨rfl, rfl⟩, trivial⟩ (fun κ _ => trivial) ⟨.ptr rfl, .plain rfl, .plain rfl, .plain rfl, trivial⟩ (ref_opens2 hu.1) ?_) ?_
  rotate_left
  · rintro v ms ⟨κ, hκ, rfl, rfl⟩
    exact ⟨κ.1.1, κ.1.2, κ.2, hκ.1, hκ.2, rfl, rfl⟩
  intro β hβ
  have hx : x < L.length := (List.getElem?_eq_some_iff.1 hm).1
  have hlen := hs.len
  have hne : bs ≠ [] := fun e => by rw [e] at hq; simp at hq
  cases β with
  | none =>
    obtain rfl : L = [] := hβ
    simp at hx
  | some r =>
    obtain ⟨c, T⟩ := r
    obtain ⟨hc1, hlc, hT⟩ := hβ
    have hTx := hT x _ hm
    repeat' (refine N.go ?_; first | with_reducible refine N.obl (by decide) ?_ | with_reducible refine N.obl (flat_wi _ _ _) ?_ | with_reducible refine N.obl (flat_lim _ _) ?_ | with_reducible refine N.eq ?_ | with_reducible refine N.obl rfl ?_ | with_reducible refine N.obl ⟨by kernel_rfl, by kernel_rfl⟩ ?_ | with_reducible refine N.alt ?_ | with_reducible refine N.forkT ?_ | with_reducible refine N.forkF ?_ | refine N.forkNo (by decide) ?_ | refine N.forkYes (by decide) ?_ | refine N.forkYes (by rw [decide_eq_true_eq]; omega) ?_ | refine N.forkNo (by rw [decide_eq_false_iff_not]; omega) ?_ | refine N.obl (mail_flat _ _ _ _ _) ?_ | (refine N.call (cRGetO _ _ L.length c x T hx hlc 0 2 (by decide) _ (by rfl) (by rfl)) ?_; rw [hTx]) | refine N.op (ok_lenU rfl rfl ⟨_, rfl, _, Try.underlying26⟩) ?_ | refine N.forkNo (decide_eq_false (by show ¬ (uN u : Int) ≤ q; omega)) ?_ | refine N.forkNo (beq_false_of_ne hb) ?_ | fail_if_success skip)
    refine N.go ?_
    refine N.mk (eff_appN (i := 1) (F := F) (bs := bs) rfl ⟨rfl, rfl⟩ rfl (by rfl) hs hbs hne (fun g k hg => ?_))
    repeat' (refine N.go ?_; first | with_reducible refine N.obl (by decide) ?_ | with_reducible refine N.obl (flat_wi _ _ _) ?_ | with_reducible refine N.obl (flat_lim _ _) ?_ | with_reducible refine N.eq ?_ | with_reducible refine N.obl rfl ?_ | with_reducible refine N.obl ⟨by kernel_rfl, by kernel_rfl⟩ ?_ | with_reducible refine N.alt ?_ | with_reducible refine N.forkT ?_ | with_reducible refine N.forkF ?_ | refine N.forkNo (by decide) ?_ | refine N.forkYes (by decide) ?_ | refine N.forkYes (by rw [decide_eq_true_eq]; omega) ?_ | refine N.forkNo (by rw [decide_eq_false_iff_not]; omega) ?_ | refine N.obl (mail_flat _ _ _ _ _) ?_ | refine N.op (ok_idxR (sz := 1) (g := q) tysOK rfl rfl (fun ρ => uV_den (By.mk g k bs).s ρ) rfl (by exact rfl) (by omega) (by show (q : Int) < (bs.length : Nat); omega) (by simp; first | done | fail)) ?_ | refine N.op (ok_loadR (i := 1) (F := ⟨g, k, bs⟩ :: F) (v := .int .u8 (bs.getD q 0)) tysOK rfl rfl (by rfl) (by exact rfl) rfl (known_src (s := ⟨g, 0, bs.length, k, none⟩) (.own (e := ⟨g, k, bs⟩) (List.mem_cons_self ..)) hq (by simp; first | done | fail))) ?_ | refine N.op (ok_storeB (i := 1) (F := ⟨g, k, bs⟩ :: F) (e := ⟨g, k, bs⟩) (j := q) tysOK rfl rfl rfl (by rfl) (by exact rfl) (List.mem_cons_self ..) hq) ?_ | fail_if_success skip)
    refine N.go ?_
    refine App0N.mk1 _ (rd_headM rfl hlc rfl) (by omega) (by omega) (by show L.length * 56 ≤ _; omega) fun cap hcap => ?_
    repeat' (refine N.go ?_; first | with_reducible refine N.obl (by decide) ?_ | with_reducible refine N.obl (flat_wi _ _ _) ?_ | with_reducible refine N.obl (flat_lim _ _) ?_ | with_reducible refine N.eq ?_ | with_reducible refine N.obl rfl ?_ | with_reducible refine N.obl ⟨by kernel_rfl, by kernel_rfl⟩ ?_ | with_reducible refine N.alt ?_ | with_reducible refine N.forkT ?_ | with_reducible refine N.forkF ?_ | refine N.forkNo (by decide) ?_ | refine N.forkYes (by decide) ?_ | refine N.forkYes (by rw [decide_eq_true_eq]; omega) ?_ | refine N.forkNo (by rw [decide_eq_false_iff_not]; omega) ?_ | refine N.obl (mail_flat _ _ _ _ _) ?_ | refine N.idx x 1 rfl (by omega) ?_ | refine N.store _ (wr_putC (y := ⟨to_, (By.mk g k bs).s, at_, tr, true⟩) rfl (by rfl) rfl (by omega) rfl rfl rfl) ?_ | fail_if_success skip)
    refine N.go ?_
    refine refCloseS (L.set x ⟨to_, (By.mk g k bs).s, at_, tr, true⟩) [1] 8 cap (putM T L.length x ⟨to_, (By.mk g k bs).s, at_, tr, true⟩) (two_bs rfl) (by show 2 ≤ 8; decide) (by decide) (fun y hy => by obtain rfl := List.mem_singleton.1 hy; decide) (by omega) (by rw [List.length_set]; exact hcap) (get_put hT) (by rfl) rfl rfl rfl (by rw [List.length_set]; rfl) (by rfl) rfl rfl (Nat.le_refl _) (fun j hj => put_cells hx (fun j hj => eqv_of (headM rfl hj)) (fun j h1 h2 => headZ rfl h1 h2) hj) (fun u => safeM (W := W) (F := setB (⟨g, k, bs⟩ :: F) g q (bendV (bs.getD q 0) b)) (by rfl)) (fun u => plain_sc' rfl) (fun s hs hsp => ?_)
    refine N.some ((g, k), some s) ⟨⟨hg, hs, fun s' hs' => by cases hs'; exact hsp⟩, ?_⟩
    refine N.obl (.plain rfl) ?_
    refine N.obl ⟨⟨_, rfl, fun h => h, Nat.le_refl _, refC_re⟩, ⟨_, rfl, fun h => h, Nat.le_refl _, fun j hj => absurd hj (Nat.not_lt_zero j)⟩, trivial⟩ ?_
    refine N.obl trivial ?_
    refine N.obl ⟨⟨.inr ⟨_, rfl, rfl⟩, .inr ⟨_, rfl, rfl⟩, trivial⟩, trivial⟩ ?_
    exact N.true
end Go.Proofs.Ytgikbmohmomgbaa
