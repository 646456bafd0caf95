
/-
  The walk of the document's air: Take.
-/
import Derived.Test.YtgikbmohmomgbaaAirX
set_option linter.unusedVariables false
set_option linter.unusedSimpArgs false
namespace Go.Proofs.Ytgikbmohmomgbaa
open Go Go.RowKit Sx

/-- The mails but one, in new memory. -/
def cutM (T : Nat → Ml) (x n i : Nat) : Ml := if i < x then T i else if i < n - 1 then T (i + 1) else Ml.z
theorem get_cut {L : List Ml} {x : Nat} {T : Nat → Ml} (hx : x < L.length) (hT : ∀ i m, L[i]? = some m → T i = m) : ∀ i m, (L.eraseIdx x)[i]? = some m → cutM T x L.length i = m := fun i m hm => by
  have hl := (List.getElem?_eq_some_iff.1 hm).1
  rw [List.length_eraseIdx_of_lt hx] at hl
  rw [List.getElem?_eraseIdx] at hm
  unfold cutM
  split at hm
  · rw [if_pos (by omega)]; exact hT i m hm
  · rw [if_neg (by omega), if_pos (by omega)]; exact hT _ m hm
theorem rd_headM {o : Bool} {c x p sz : Nat} {T : Nat → Ml} (hs : sz = 5) (hx : x ≤ c) (e : p = 0) : Reads (mlA o c T) p true (x * sz) (.agg ⟨segL (x * 5) (fun j => mlc (T (j / 5)) (j % 5))⟩) := by
  subst hs e
  refine ⟨by show 0 + _ ≤ c * 5; omega, _, rfl, segL_len _ _, fun j hj => ?_⟩
  show _ = (segL _ _).getD j undef
  rw [segL_get hj, seg_cell (by omega), Nat.zero_add]
theorem headM {x c : Nat} {T : Nat → Ml} {z : Value} (hz : z = (.agg #[.int .i64 0, .slice none 0 0, .int .i64 0, .int .i64 0, .bool false])) {j : Nat} (hj : j < x * 5) : (grown ⟨true, 0, []⟩ 0 x 5 (.agg ⟨segL (x * 5) (fun j => mlc (T (j / 5)) (j % 5))⟩) z c).f j = mlc (T (j / 5)) (j % 5) := by
  have := grown_new (ci := ⟨true, 0, []⟩) (l := 0) (m := x) (size := 5) (cap := c) (v := .agg ⟨segL (x * 5) (fun j => mlc (T (j / 5)) (j % 5))⟩) (z := z) (j := j) hj
  rw [show 0 * 5 + j = j from by omega] at this
  rw [this]
  show (segL _ _).getD j undef = _
  rw [segL_get hj]
theorem headZ {x c : Nat} {T : Nat → Ml} {z : Value} (hz : z = (.agg #[.int .i64 0, .slice none 0 0, .int .i64 0, .int .i64 0, .bool false])) {j : Nat} (h1 : x * 5 ≤ j) (hj : j < c * 5) : Eqv ((grown ⟨true, 0, []⟩ 0 x 5 (.agg ⟨segL (x * 5) (fun j => mlc (T (j / 5)) (j % 5))⟩) z c).f j) (mlc Ml.z (j % 5)) := by
  subst hz
  rw [grown_zero (by omega) hj]; exact mlc_zero j
theorem grown_cut {ci : Chunk} {x n cap : Nat} {T : Nat → Ml} {z : Value} (hz : z = (.agg #[.int .i64 0, .slice none 0 0, .int .i64 0, .int .i64 0, .bool false])) (hx : x < n) (hc : ∀ j, j < x * 5 → Eqv (ci.f j) (mlc (T (j / 5)) (j % 5))) (hcap : n - 1 ≤ cap) {j : Nat} (hj : j < cap * 5) : Eqv ((grown ci x (n - (x + 1)) 5 (.agg ⟨segL ((n - (x + 1)) * 5) (fun j => mlc (T (j / 5 + (x + 1))) (j % 5))⟩) z cap).f j) (mlc (cutM T x n (j / 5)) (j % 5)) := by
  subst hz
  unfold cutM
  by_cases h1 : j < x * 5
  · rw [grown_old h1, if_pos (by omega)]; exact hc j h1
  · rw [if_neg (by omega)]
    by_cases h2 : j < (n - 1) * 5
    · have := grown_new (ci := ci) (l := x) (m := n - (x + 1)) (size := 5) (cap := cap) (v := (.agg ⟨segL ((n - (x + 1)) * 5) (fun j => mlc (T (j / 5 + (x + 1))) (j % 5))⟩)) (z := (.agg #[.int .i64 0, .slice none 0 0, .int .i64 0, .int .i64 0, .bool false])) (j := j - x * 5) (by omega)
      rw [show x * 5 + (j - x * 5) = j from by omega] at this
      rw [this, if_pos (by omega)]
      refine eqv_of ?_
      show (segL _ _).getD (j - x * 5) undef = _
      rw [segL_get (by omega), show (j - x * 5) / 5 + (x + 1) = j / 5 + 1 from by omega, show (j - x * 5) % 5 = j % 5 from by omega]
    · rw [grown_zero (by omega) hj, if_neg (by omega)]; exact mlc_zero j
/-- The mails behind one, written behind those ahead of it. -/
abbrev roomC (ci : Chunk) (x n c : Nat) (T : Nat → Ml) : Chunk := ⟨true, c * 5, [(0, c * 5, .agg ⟨segL (c * 5) (fun j => if x * 5 ≤ j ∧ j < x * 5 + (n - (x + 1)) * 5 then mlc (T ((j - x * 5) / 5 + (x + 1))) ((j - x * 5) % 5) else ci.f j)⟩)]⟩
theorem wr_room {ci : Chunk} {x n c p m : Nat} {T : Nat → Ml} (ho : ci.own = true) (hn : ci.n = c * 5) (hxx : ci.x = Ext.none) (hx : x < n) (hr : x + (n - (x + 1)) ≤ c) (hm : m = (n - (x + 1)) * 5) (e : p = x * 5) : Writes ci p m (.agg ⟨segL ((n - (x + 1)) * 5) (fun j => mlc (T (j / 5 + (x + 1))) (j % 5))⟩) (roomC ci x n c T) := by
  subst e hm
  refine ⟨ho, by omega, by rw [hn, hxx], fun j hj => ?_⟩
  rw [hn] at hj
  rw [seg_cell hj]
  by_cases e : x * 5 ≤ j ∧ j < x * 5 + (n - (x + 1)) * 5
  · rw [if_pos e, if_pos e]
    show _ = (segL _ _).getD (j - x * 5) undef
    rw [segL_get (by omega)]
  · rw [if_neg e, if_neg e]
theorem room_cut {ci : Chunk} {x n c : Nat} {T : Nat → Ml} (hx : x < n) (hr : x + (n - (x + 1)) ≤ c) (hc : ∀ j, j < x * 5 → Eqv (ci.f j) (mlc (T (j / 5)) (j % 5))) (hz : ∀ j, x * 5 ≤ j → j < c * 5 → Eqv (ci.f j) (mlc Ml.z (j % 5))) {j : Nat} (hj : j < c * 5) : Eqv ((roomC ci x n c T).f j) (mlc (cutM T x n (j / 5)) (j % 5)) := by
  rw [seg_cell hj]
  unfold cutM
  by_cases h1 : j < x * 5
  · rw [if_neg (by omega), if_pos (by omega)]; exact hc j h1
  · rw [if_neg (show ¬ j / 5 < x by omega)]
    by_cases h2 : j < x * 5 + (n - (x + 1)) * 5
    · rw [if_pos (by omega), if_pos (by omega)]
      refine eqv_of ?_
      rw [show (j - x * 5) / 5 + (x + 1) = j / 5 + 1 from by omega, show (j - x * 5) % 5 = j % 5 from by omega]
    · rw [if_neg (by omega), if_neg (by omega)]; exact hz j (by omega) hj
set_option maxRecDepth 100000 in
set_option maxHeartbeats 2000000 in
theorem cRTakeY (L : List Ml) (x : Nat) (m : Ml) (hm : L[x]? = some m) (hl : L.length ≤ 1000) (i : Nat) (h : List (Option Chunk)) (hi : h[i]? = some (some (airP L))) : CallOK Try.prog 16 [.pointer (some ⟨i, 0, some 0⟩), .int .i64 (x : Nat)] h (.tuple ⟨[mailV m.to_ m.u m.at_ m.tr m.be, .bool true]⟩) [(i, airP (L.eraseIdx x))] [] := by
  refine call_res (G := tys) (airOK L) (airH L) [⟨i, airP L, airP L, airP (L.eraseIdx x)⟩] [] [.pointer (some ⟨0, 0, some 0⟩), .int .i64 (x : Nat)] tysOK mixed Try.func16 (by rfl) (Try.call16) ⟨hi, trivial⟩ ⟨⟨fun h => ⟨rfl, Nat.le_refl _⟩, Nat.le_refl _, fun j hj => absurd hj (Nat.not_lt_zero j)⟩, trivial⟩ (by simp [Apart]) ⟨.inr ⟨rfl, rfl⟩, trivial⟩ trivial ⟨.ptr rfl, .plain rfl, trivial⟩ pack_opens ?_
  have hx : x < L.length := (List.getElem?_eq_some_iff.1 hm).1
  have hw : IntKind.i64.wrap ((x : Int) + 1) = (x : Int) + 1 := i64s _ (by omega) (by omega)
  intro β hβ
  cases β with
  | none =>
    obtain rfl : L = [] := hβ
    simp at hx
  | some r =>
    obtain ⟨c, T⟩ := r
    obtain ⟨hc1, hlc, hT⟩ := hβ
    obtain rfl : T x = m := hT x m hm
    have e0 : 0 + (if c = 0 then 0 else 0 * Try.t46.size) = 0 := by split <;> simp
    have e2 : ∃ g, 0 + (if c = x + 1 then 0 else (x + 1) * Try.t46.size) = g ∧ (L.length = x + 1 ∧ g ≤ c * 5 ∨ g = (x + 1) * 5) := by
      by_cases e : c = x + 1
      · exact ⟨0, by rw [if_pos e], .inl ⟨by omega, by omega⟩⟩
      · exact ⟨(x + 1) * 5, by rw [if_neg e]; show 0 + (x + 1) * 5 = _; omega, .inr rfl⟩
    obtain ⟨g, e2, hg⟩ := e2
    repeat' (refine N.go ?_; first | with_reducible refine N.obl (by decide) ?_ | with_reducible refine N.obl (flat_wi _ _ _) ?_ | with_reducible refine N.obl (flat_lim _ _) ?_ | with_reducible refine N.eq ?_ | with_reducible refine N.obl rfl ?_ | with_reducible refine N.obl ⟨by kernel_rfl, by kernel_rfl⟩ ?_ | with_reducible refine N.alt ?_ | with_reducible refine N.forkT ?_ | with_reducible refine N.forkF ?_ | refine N.forkNo (by decide) ?_ | refine N.forkYes (by decide) ?_ | refine N.forkYes (by rw [decide_eq_true_eq]; omega) ?_ | refine N.forkNo (by rw [decide_eq_false_iff_not]; omega) ?_ | refine N.obl (mail_flat _ _ _ _ _) ?_ | refine N.call (cRGetO _ _ L.length c x T hx hlc 0 1 (by decide) _ (by rfl) (by rfl)) ?_ | (refine N.bnd 0 x 0 ⟨rfl, by omega⟩ rfl ?_; rw [e0, show x - 0 = x from by omega, show c - 0 = c from rfl]) | (rw [hw]; refine N.bnd (x + 1) L.length 1 rfl ⟨by rfl, by omega⟩ ?_; rw [e2]) | refine N.obl (by show endB _ _ = Bool.true; kernel_rfl) ?_ | fail_if_success skip)
    refine N.go ?_
    refine N.plan [0, 1, 2, 3, 4, 5, 6, 8, 9, 10, 11, 12, 13, 14, 16, 17] [(7, []), (15, [18])] (by kernel_rfl) ?_
    repeat' (refine N.go ?_; first | with_reducible refine N.obl (by decide) ?_ | with_reducible refine N.obl (flat_wi _ _ _) ?_ | with_reducible refine N.obl (flat_lim _ _) ?_ | with_reducible refine N.eq ?_ | with_reducible refine N.obl rfl ?_ | with_reducible refine N.obl ⟨by kernel_rfl, by kernel_rfl⟩ ?_ | with_reducible refine N.alt ?_ | with_reducible refine N.forkT ?_ | with_reducible refine N.forkF ?_ | refine N.forkNo (by decide) ?_ | refine N.forkYes (by decide) ?_ | refine N.forkYes (by rw [decide_eq_true_eq]; omega) ?_ | refine N.forkNo (by rw [decide_eq_false_iff_not]; omega) ?_ | refine N.obl (mail_flat _ _ _ _ _) ?_ | refine N.call (cRGetO _ _ L.length c x T hx hlc 0 1 (by decide) _ (by rfl) (by rfl)) ?_ | (refine N.bnd 0 x 0 ⟨rfl, by omega⟩ rfl ?_; rw [e0, show x - 0 = x from by omega, show c - 0 = c from rfl]) | (rw [hw]; refine N.bnd (x + 1) L.length 1 rfl ⟨by rfl, by omega⟩ ?_; rw [e2]) | refine N.obl (by show endB _ _ = Bool.true; kernel_rfl) ?_ | fail_if_success skip)
    refine N.go ?_
    by_cases hx0 : x = 0
    · subst hx0
      refine N.mk (.inr ⟨rfl, ?_⟩)
      repeat' (refine N.go ?_; first | with_reducible refine N.obl (by decide) ?_ | with_reducible refine N.obl (flat_wi _ _ _) ?_ | with_reducible refine N.obl (flat_lim _ _) ?_ | with_reducible refine N.eq ?_ | with_reducible refine N.obl rfl ?_ | with_reducible refine N.obl ⟨by kernel_rfl, by kernel_rfl⟩ ?_ | with_reducible refine N.alt ?_ | with_reducible refine N.forkT ?_ | with_reducible refine N.forkF ?_ | refine N.forkNo (by decide) ?_ | refine N.forkYes (by decide) ?_ | refine N.forkYes (by rw [decide_eq_true_eq]; omega) ?_ | refine N.forkNo (by rw [decide_eq_false_iff_not]; omega) ?_ | refine N.obl (mail_flat _ _ _ _ _) ?_ | refine N.call (cRGetO _ _ L.length c x T hx hlc 0 1 (by decide) _ (by rfl) (by rfl)) ?_ | (refine N.bnd 0 x 0 ⟨rfl, by omega⟩ rfl ?_; rw [e0, show x - 0 = x from by omega, show c - 0 = c from rfl]) | (rw [hw]; refine N.bnd (x + 1) L.length 1 rfl ⟨by rfl, by omega⟩ ?_; rw [e2]) | refine N.obl (by show endB _ _ = Bool.true; kernel_rfl) ?_ | fail_if_success skip)
      refine N.go ?_
      by_cases h1 : L.length = 1
      · rw [show L.length - (0 + 1) = 0 from by omega]
        refine N.mk (.inr ⟨rfl, ?_⟩)
        have hL0 : L.eraseIdx 0 = [] := List.length_eq_zero_iff.1 (by rw [List.length_eraseIdx_of_lt hx]; omega)
        rw [hL0]
        repeat' (refine N.go ?_; first | with_reducible refine N.obl (by decide) ?_ | with_reducible refine N.obl (flat_wi _ _ _) ?_ | with_reducible refine N.obl (flat_lim _ _) ?_ | with_reducible refine N.eq ?_ | with_reducible refine N.obl rfl ?_ | with_reducible refine N.obl ⟨by kernel_rfl, by kernel_rfl⟩ ?_ | with_reducible refine N.alt ?_ | with_reducible refine N.forkT ?_ | with_reducible refine N.forkF ?_ | refine N.forkNo (by decide) ?_ | refine N.forkYes (by decide) ?_ | refine N.forkYes (by rw [decide_eq_true_eq]; omega) ?_ | refine N.forkNo (by rw [decide_eq_false_iff_not]; omega) ?_ | refine N.obl (mail_flat _ _ _ _ _) ?_ | refine N.call (cRGetO _ _ L.length c x T hx hlc 0 1 (by decide) _ (by rfl) (by rfl)) ?_ | (refine N.bnd 0 x 0 ⟨rfl, by omega⟩ rfl ?_; rw [e0, show x - 0 = x from by omega, show c - 0 = c from rfl]) | (rw [hw]; refine N.bnd (x + 1) L.length 1 rfl ⟨by rfl, by omega⟩ ?_; rw [e2]) | refine N.obl (by show endB _ _ = Bool.true; kernel_rfl) ?_ | fail_if_success skip)
        refine N.go ?_
        refine airClose0G 0 [] one_bs (fun _ => ⟨_, rfl, airP_ne _, packX_selfish⟩) (by rfl) rfl (Nat.le_refl _) rfl (fun x hx => by cases hx) (fun x hx => by cases hx) (mail_sc _ _ _ _ _ _) ?_
        refine N.obl (.tuple ⟨mailV_re _ _ _ _ _, .plain rfl, trivial⟩) ?_
        refine N.obl ⟨⟨_, rfl, fun h => h, Nat.le_refl _, fun j hj => absurd hj (Nat.not_lt_zero j)⟩, trivial⟩ ?_
        refine N.obl trivial ?_
        refine N.obl ⟨⟨.inr ⟨_, rfl, rfl⟩, trivial⟩, trivial⟩ ?_
        exact N.true
      · refine App0N.mk1 _ (rd_tailM rfl hlc hx hg) (by omega) (by omega) (by show (L.length - (0 + 1)) * 56 ≤ _; omega) fun cap hcap => ?_
        repeat' (refine N.go ?_; first | with_reducible refine N.obl (by decide) ?_ | with_reducible refine N.obl (flat_wi _ _ _) ?_ | with_reducible refine N.obl (flat_lim _ _) ?_ | with_reducible refine N.eq ?_ | with_reducible refine N.obl rfl ?_ | with_reducible refine N.obl ⟨by kernel_rfl, by kernel_rfl⟩ ?_ | with_reducible refine N.alt ?_ | with_reducible refine N.forkT ?_ | with_reducible refine N.forkF ?_ | refine N.forkNo (by decide) ?_ | refine N.forkYes (by decide) ?_ | refine N.forkYes (by rw [decide_eq_true_eq]; omega) ?_ | refine N.forkNo (by rw [decide_eq_false_iff_not]; omega) ?_ | refine N.obl (mail_flat _ _ _ _ _) ?_ | refine N.call (cRGetO _ _ L.length c x T hx hlc 0 1 (by decide) _ (by rfl) (by rfl)) ?_ | (refine N.bnd 0 x 0 ⟨rfl, by omega⟩ rfl ?_; rw [e0, show x - 0 = x from by omega, show c - 0 = c from rfl]) | (rw [hw]; refine N.bnd (x + 1) L.length 1 rfl ⟨by rfl, by omega⟩ ?_; rw [e2]) | refine N.obl (by show endB _ _ = Bool.true; kernel_rfl) ?_ | fail_if_success skip)
        refine N.go ?_
        refine airCloseG 0 [] (L.eraseIdx 0) 12 cap (cutM T 0 L.length) one_bs one_pc (by omega) (by rw [List.length_eraseIdx_of_lt hx]; omega) (get_cut hx hT) (by rfl) rfl (Nat.le_refl _) (by rw [List.length_eraseIdx_of_lt hx]; first | rfl | (rw [show x + (L.length - (x + 1)) = L.length - 1 from by omega]; rfl)) (by rfl) (by decide) rfl (Nat.le_refl _) (fun j hj => grown_cut rfl hx (fun j hj => absurd hj (by omega)) (by omega) hj) (fun x hx => by cases hx) (fun x hx => by cases hx) (mail_sc _ _ _ _ _ _) ?_
        refine N.obl (.tuple ⟨mailV_re _ _ _ _ _, .plain rfl, trivial⟩) ?_
        refine N.obl ⟨⟨_, rfl, fun h => h, Nat.le_refl _, fun j hj => absurd hj (Nat.not_lt_zero j)⟩, trivial⟩ ?_
        refine N.obl trivial ?_
        refine N.obl ⟨⟨.inr ⟨_, rfl, rfl⟩, trivial⟩, trivial⟩ ?_
        exact N.true
    · refine App0N.mk1 _ (rd_headM rfl (by omega) rfl) (by omega) (by omega) (by show x * 56 ≤ _; omega) fun cap hcap => ?_
      repeat' (refine N.go ?_; first | with_reducible refine N.obl (by decide) ?_ | with_reducible refine N.obl (flat_wi _ _ _) ?_ | with_reducible refine N.obl (flat_lim _ _) ?_ | with_reducible refine N.eq ?_ | with_reducible refine N.obl rfl ?_ | with_reducible refine N.obl ⟨by kernel_rfl, by kernel_rfl⟩ ?_ | with_reducible refine N.alt ?_ | with_reducible refine N.forkT ?_ | with_reducible refine N.forkF ?_ | refine N.forkNo (by decide) ?_ | refine N.forkYes (by decide) ?_ | refine N.forkYes (by rw [decide_eq_true_eq]; omega) ?_ | refine N.forkNo (by rw [decide_eq_false_iff_not]; omega) ?_ | refine N.obl (mail_flat _ _ _ _ _) ?_ | refine N.call (cRGetO _ _ L.length c x T hx hlc 0 1 (by decide) _ (by rfl) (by rfl)) ?_ | (refine N.bnd 0 x 0 ⟨rfl, by omega⟩ rfl ?_; rw [e0, show x - 0 = x from by omega, show c - 0 = c from rfl]) | (rw [hw]; refine N.bnd (x + 1) L.length 1 rfl ⟨by rfl, by omega⟩ ?_; rw [e2]) | refine N.obl (by show endB _ _ = Bool.true; kernel_rfl) ?_ | fail_if_success skip)
      refine N.go ?_
      refine AppN.mk1 _ (rd_tailM rfl hlc hx hg) (fl_segM (T := fun i => T (i + (x + 1))) rfl) (by show x * 5 ≤ cap * 5; omega) (by omega) (by show (x + (L.length - (x + 1))) * 56 ≤ _; omega) (roomC _ x L.length cap T) (fun hr => wr_room rfl rfl rfl hx hr rfl rfl) (fun hr => ?_) (fun hg cap2 hcap2 => ?_)
      · repeat' (refine N.go ?_; first | with_reducible refine N.obl (by decide) ?_ | with_reducible refine N.obl (flat_wi _ _ _) ?_ | with_reducible refine N.obl (flat_lim _ _) ?_ | with_reducible refine N.eq ?_ | with_reducible refine N.obl rfl ?_ | with_reducible refine N.obl ⟨by kernel_rfl, by kernel_rfl⟩ ?_ | with_reducible refine N.alt ?_ | with_reducible refine N.forkT ?_ | with_reducible refine N.forkF ?_ | refine N.forkNo (by decide) ?_ | refine N.forkYes (by decide) ?_ | refine N.forkYes (by rw [decide_eq_true_eq]; omega) ?_ | refine N.forkNo (by rw [decide_eq_false_iff_not]; omega) ?_ | refine N.obl (mail_flat _ _ _ _ _) ?_ | refine N.call (cRGetO _ _ L.length c x T hx hlc 0 1 (by decide) _ (by rfl) (by rfl)) ?_ | (refine N.bnd 0 x 0 ⟨rfl, by omega⟩ rfl ?_; rw [e0, show x - 0 = x from by omega, show c - 0 = c from rfl]) | (rw [hw]; refine N.bnd (x + 1) L.length 1 rfl ⟨by rfl, by omega⟩ ?_; rw [e2]) | refine N.obl (by show endB _ _ = Bool.true; kernel_rfl) ?_ | fail_if_success skip)
        refine N.go ?_
        refine airCloseG 0 [] (L.eraseIdx x) 8 cap (cutM T x L.length) one_bs one_pc (by omega) (by rw [List.length_eraseIdx_of_lt hx]; omega) (get_cut hx hT) (by rfl) rfl (Nat.le_refl _) (by rw [List.length_eraseIdx_of_lt hx]; first | rfl | (rw [show x + (L.length - (x + 1)) = L.length - 1 from by omega]; rfl)) (by rfl) (by decide) rfl (Nat.le_refl _) (fun j hj => room_cut hx hr (fun j hj => eqv_of (headM rfl hj)) (fun j h1 h2 => headZ rfl h1 h2) hj) (fun x hx => by cases hx) (fun x hx => by cases hx) (mail_sc _ _ _ _ _ _) ?_
        refine N.obl (.tuple ⟨mailV_re _ _ _ _ _, .plain rfl, trivial⟩) ?_
        refine N.obl ⟨⟨_, rfl, fun h => h, Nat.le_refl _, fun j hj => absurd hj (Nat.not_lt_zero j)⟩, trivial⟩ ?_
        refine N.obl trivial ?_
        refine N.obl ⟨⟨.inr ⟨_, rfl, rfl⟩, trivial⟩, trivial⟩ ?_
        exact N.true
      · repeat' (refine N.go ?_; first | with_reducible refine N.obl (by decide) ?_ | with_reducible refine N.obl (flat_wi _ _ _) ?_ | with_reducible refine N.obl (flat_lim _ _) ?_ | with_reducible refine N.eq ?_ | with_reducible refine N.obl rfl ?_ | with_reducible refine N.obl ⟨by kernel_rfl, by kernel_rfl⟩ ?_ | with_reducible refine N.alt ?_ | with_reducible refine N.forkT ?_ | with_reducible refine N.forkF ?_ | refine N.forkNo (by decide) ?_ | refine N.forkYes (by decide) ?_ | refine N.forkYes (by rw [decide_eq_true_eq]; omega) ?_ | refine N.forkNo (by rw [decide_eq_false_iff_not]; omega) ?_ | refine N.obl (mail_flat _ _ _ _ _) ?_ | refine N.call (cRGetO _ _ L.length c x T hx hlc 0 1 (by decide) _ (by rfl) (by rfl)) ?_ | (refine N.bnd 0 x 0 ⟨rfl, by omega⟩ rfl ?_; rw [e0, show x - 0 = x from by omega, show c - 0 = c from rfl]) | (rw [hw]; refine N.bnd (x + 1) L.length 1 rfl ⟨by rfl, by omega⟩ ?_; rw [e2]) | refine N.obl (by show endB _ _ = Bool.true; kernel_rfl) ?_ | fail_if_success skip)
        refine N.go ?_
        refine airCloseG 0 [] (L.eraseIdx x) 12 cap2 (cutM T x L.length) one_bs one_pc (by omega) (by rw [List.length_eraseIdx_of_lt hx]; omega) (get_cut hx hT) (by rfl) rfl (Nat.le_refl _) (by rw [List.length_eraseIdx_of_lt hx]; first | rfl | (rw [show x + (L.length - (x + 1)) = L.length - 1 from by omega]; rfl)) (by rfl) (by decide) rfl (Nat.le_refl _) (fun j hj => grown_cut rfl hx (fun j hj => eqv_of (headM rfl hj)) (by omega) hj) (fun x hx => by cases hx) (fun x hx => by cases hx) (mail_sc _ _ _ _ _ _) ?_
        refine N.obl (.tuple ⟨mailV_re _ _ _ _ _, .plain rfl, trivial⟩) ?_
        refine N.obl ⟨⟨_, rfl, fun h => h, Nat.le_refl _, fun j hj => absurd hj (Nat.not_lt_zero j)⟩, trivial⟩ ?_
        refine N.obl trivial ?_
        refine N.obl ⟨⟨.inr ⟨_, rfl, rfl⟩, trivial⟩, trivial⟩ ?_
        exact N.true
end Go.Proofs.Ytgikbmohmomgbaa
