
/-
  The walks of air at mails with bytes.
-/
import Derived.Test.YtgikbmohmomgbaaAirQ
set_option linter.unusedVariables false
set_option linter.unusedSimpArgs false
namespace Go.Proofs.Ytgikbmohmomgbaa
open Go Go.RowKit Sx

theorem CallAll.to {P : Program} {g : FuncId} {vs : List Value} {h : List (Option Chunk)} {R R' : Value → List (Nat × Chunk) → Prop} (k : CallAll P g vs h R) (hR : ∀ v ms, R v ms → R' v ms) : CallAll P g vs h R' := by
  intro X ρ w xs H hx
  rcases k X ρ w xs H hx with ⟨v, w', hr, u, ms, ρ', hq, ha⟩ | ⟨hr, hcl⟩
  · exact .inl ⟨v, w', hr, _, _, ρ', hR _ _ hq, ha⟩
  · refine .inr ⟨hr, hcl.mono ?_⟩
    rintro e w' ⟨y, he, u, ms, ρ', hq, ha⟩
    exact ⟨y, he, _, _, ρ', hR _ _ hq, ha⟩
theorem setM1_at (T : Nat → Ml) (l : Nat) (x : Ml) : setM1 T l x l = x := if_pos rfl
theorem setM1_ne {T : Nat → Ml} {l i : Nat} {x : Ml} (h : i ≠ l) : setM1 T l x i = T i := if_neg h
theorem growM_lt {T : Nat → Ml} {l i : Nat} {x : Ml} (h : i < l) : growM T l x i = T i := if_pos h
theorem Sx.Src.len {W : World} {F : List By} {u : Option Sl} {bs : List Int} (h : Src W F u bs) : bs.length = uN u := by
  cases h with
  | nil => rfl
  | own he => rfl
  | old hn hc => exact hn
theorem air_pc {i j : Nat} {c d c2 d2 : Chunk} {W : World} {F : List By} {L : List Ml} : ∀ l, l < 2 → ∃ s, [(⟨i, c, airP L, d⟩ : Piece), ⟨j, c2, memC W F, d2⟩][l]? = some s ∧ s.e.x ≠ Ext.none ∧ Selfish s.e.x := fun l hl => by
  match l, hl with
  | 0, _ => exact ⟨_, rfl, airP_ne L, packX_selfish⟩
  | 1, _ => exact ⟨_, rfl, memC_ne W F, memX_selfish⟩
theorem get_app {L : List Ml} {x : Ml} {T : Nat → Ml} (hT : ∀ i m, L[i]? = some m → T i = m) (hx : T L.length = x) : ∀ i m, (L ++ [x])[i]? = some m → T i = m := fun i m hm => by
  by_cases h : i < L.length
  · rw [List.getElem?_append_left h] at hm; exact hT i m hm
  · rw [List.getElem?_append_right (by omega)] at hm
    have : i - L.length = 0 := by
      have := (List.getElem?_eq_some_iff.1 hm).1
      simp at this; omega
    rw [this] at hm
    have e : i = L.length := by omega
    subst e
    rw [hx]; simpa using hm
set_option maxRecDepth 100000 in
set_option maxHeartbeats 2000000 in
theorem cPutM (W : World) (F : List By) (L : List Ml) (to_ at_ tr : Int) (be : Bool) (u : Option Sl) (bs : List Int) (i j : Nat) (hij : i ≠ j) (h : List (Option Chunk)) (hi : h[i]? = some (some (airP L))) (hj : h[j]? = some (some (memC W F))) (hs : Src W F u bs) (hb : bs.length ≤ 1000) (hl : L.length < 512) :
    CallAll Try.prog 9 [.pointer (some ⟨i, 0, some 0⟩), mailV to_ u at_ tr be] h (fun v ms => ∃ u' F', Made F bs u' F' ∧ v = .bool true ∧ ms = [(i, airP (L ++ [⟨to_, u', at_, tr, be⟩])), (j, memC W F')]) := by
  refine CallAll.to (call_resall (G := tys) (h := h) (vs := [.pointer (some ⟨i, 0, some 0⟩), mailV to_ u at_ tr be]) (airOK L) (airO W F L) (α := Option Sl × List By) (fun κ => Made F bs κ.1 κ.2) (fun κ => .bool true) [⟨i, airP L, airP L, airP L⟩, ⟨j, memC W F, memC W F, memC W F⟩] (fun κ => [airP (L ++ [⟨to_, κ.1, at_, tr, be⟩]), memC W (κ.2)]) (fun κ => []) [.pointer (some ⟨0, 0, some 0⟩), mailV to_ u at_ tr be] tysOK mixed Try.func9 (by rfl) (Try.call9) ⟨hi, hj, trivial⟩ ⟨⟨fun h => ⟨rfl, Nat.le_refl _⟩, Nat.le_refl _, fun j hj => absurd hj (Nat.not_lt_zero j)⟩, ⟨fun h => ⟨rfl, Nat.le_refl _⟩, Nat.le_refl _, fun j hj => absurd hj (Nat.not_lt_zero j)⟩, trivial⟩ (fun κ _ => ⟨⟨fun h => ⟨rfl, Nat.le_refl _⟩, Nat.le_refl _, fun j hj => absurd hj (Nat.not_lt_zero j)⟩, ⟨fun h => ⟨rfl, Nat.le_refl _⟩, Nat.le_refl _, fun j hj => absurd hj (Nat.not_lt_zero j)⟩, trivial⟩) (by simp [Apart, hij]) ⟨.inr ⟨rfl, rfl⟩, .inr ⟨rfl, rfl⟩, trivial⟩ (fun κ _ => trivial) ⟨.ptr rfl, mailV_re _ _ _ _ _, trivial⟩ air_opens2 ?_) ?_
  rotate_left
  · rintro v ms ⟨κ, hκ, rfl, rfl⟩
    exact ⟨κ.1, κ.2, hκ, rfl, rfl⟩
  intro β hβ
  have hlen := hs.len
  cases β with
  | none =>
    obtain rfl : L = [] := hβ
    repeat' (refine N.go ?_; first | with_reducible refine N.obl (by decide) ?_ | with_reducible refine N.obl (flat_wi _ _ _) ?_ | with_reducible refine N.obl (flat_lim _ _) ?_ | with_reducible refine N.eq ?_ | with_reducible refine N.obl rfl ?_ | with_reducible refine N.obl ⟨by kernel_rfl, by kernel_rfl⟩ ?_ | with_reducible refine N.alt ?_ | with_reducible refine N.forkT ?_ | with_reducible refine N.forkF ?_ | refine N.forkNo (by decide) ?_ | refine N.forkYes (by decide) ?_ | refine N.forkYes (by rw [decide_eq_true_eq]; omega) ?_ | refine N.forkNo (by rw [decide_eq_false_iff_not]; omega) ?_ | refine N.op (ok_lenU rfl rfl ⟨_, rfl, _, Try.underlying26⟩) ?_ | refine N.obl (mail_flat _ _ _ _ _) ?_ | refine N.obl (by show endB _ _ = Bool.true; kernel_rfl) ?_ | fail_if_success skip)
    refine N.go ?_
    refine N.plan [0, 1, 2, 3, 4, 5, 9, 10] [(6, [7]), (8, [11])] (by kernel_rfl) ?_
    repeat' (refine N.go ?_; first | with_reducible refine N.obl (by decide) ?_ | with_reducible refine N.obl (flat_wi _ _ _) ?_ | with_reducible refine N.obl (flat_lim _ _) ?_ | with_reducible refine N.eq ?_ | with_reducible refine N.obl rfl ?_ | with_reducible refine N.obl ⟨by kernel_rfl, by kernel_rfl⟩ ?_ | with_reducible refine N.alt ?_ | with_reducible refine N.forkT ?_ | with_reducible refine N.forkF ?_ | refine N.forkNo (by decide) ?_ | refine N.forkYes (by decide) ?_ | refine N.forkYes (by rw [decide_eq_true_eq]; omega) ?_ | refine N.forkNo (by rw [decide_eq_false_iff_not]; omega) ?_ | refine N.op (ok_lenU rfl rfl ⟨_, rfl, _, Try.underlying26⟩) ?_ | refine N.obl (mail_flat _ _ _ _ _) ?_ | refine N.obl (by show endB _ _ = Bool.true; kernel_rfl) ?_ | fail_if_success skip)
    refine N.go ?_
    refine N.callM [1] _ (by kernel_rfl) (fun h₂ hh => cOwnM W F _ bs hs (by omega) to_ at_ tr be 1 h₂ ((hh 1 (by simp)).trans rfl)) fun v ms hR => ?_
    obtain ⟨u', F', hM, rfl, rfl⟩ := hR
    refine ⟨by simp, ?_⟩
    repeat' (refine N.go ?_; first | with_reducible refine N.obl (by decide) ?_ | with_reducible refine N.obl (flat_wi _ _ _) ?_ | with_reducible refine N.obl (flat_lim _ _) ?_ | with_reducible refine N.eq ?_ | with_reducible refine N.obl rfl ?_ | with_reducible refine N.obl ⟨by kernel_rfl, by kernel_rfl⟩ ?_ | with_reducible refine N.alt ?_ | with_reducible refine N.forkT ?_ | with_reducible refine N.forkF ?_ | refine N.forkNo (by decide) ?_ | refine N.forkYes (by decide) ?_ | refine N.forkYes (by rw [decide_eq_true_eq]; omega) ?_ | refine N.forkNo (by rw [decide_eq_false_iff_not]; omega) ?_ | refine N.op (ok_lenU rfl rfl ⟨_, rfl, _, Try.underlying26⟩) ?_ | refine N.obl (mail_flat _ _ _ _ _) ?_ | refine N.obl (by show endB _ _ = Bool.true; kernel_rfl) ?_ | fail_if_success skip)
    refine N.go ?_
    refine N.obl (by show midB _ _ _ _ = Bool.true; kernel_rfl) ?_
    refine N.go ?_
    refine App0N.mk1 (Ml.v (Ml.mk to_ (u') at_ tr be)) ⟨Nat.le_refl _, _, rfl, rfl, fun j hj => by
      match j, hj with
      | 0, _ => rfl
      | 1, _ => rfl
      | 2, _ => rfl
      | 3, _ => rfl
      | 4, _ => rfl⟩ (by decide) (by decide) (by decide) fun c hc => ?_
    repeat' (refine N.go ?_; first | with_reducible refine N.obl (by decide) ?_ | with_reducible refine N.obl (flat_wi _ _ _) ?_ | with_reducible refine N.obl (flat_lim _ _) ?_ | with_reducible refine N.eq ?_ | with_reducible refine N.obl rfl ?_ | with_reducible refine N.obl ⟨by kernel_rfl, by kernel_rfl⟩ ?_ | with_reducible refine N.alt ?_ | with_reducible refine N.forkT ?_ | with_reducible refine N.forkF ?_ | refine N.forkNo (by decide) ?_ | refine N.forkYes (by decide) ?_ | refine N.forkYes (by rw [decide_eq_true_eq]; omega) ?_ | refine N.forkNo (by rw [decide_eq_false_iff_not]; omega) ?_ | refine N.op (ok_lenU rfl rfl ⟨_, rfl, _, Try.underlying26⟩) ?_ | refine N.obl (mail_flat _ _ _ _ _) ?_ | refine N.obl (by show endB _ _ = Bool.true; kernel_rfl) ?_ | fail_if_success skip)
    refine N.go ?_
    refine airClose ([] ++ [(Ml.mk to_ (u') at_ tr be)]) 9 c (growM (fun _ => Ml.z) 0 (Ml.mk to_ (u') at_ tr be)) rfl air_pc hc (by simpa using hc) (get_app (fun i m hm => by simp at hm) rfl) (by rfl) rfl (Nat.le_refl _) rfl (by rfl) (by rfl) (by decide) rfl (Nat.le_refl _) (fun j hj => grown_mlA rfl hc (fun j hj => absurd hj (by omega)) hj) (fun ρ ρ' _ => rfl) ?_
    refine N.some (u', F') ⟨hM, ?_⟩
    refine N.obl (.plain rfl) ?_
    refine N.obl ⟨⟨_, rfl, fun h => h, Nat.le_refl _, fun j hj => absurd hj (Nat.not_lt_zero j)⟩, ⟨_, rfl, fun h => h, Nat.le_refl _, fun j hj => absurd hj (Nat.not_lt_zero j)⟩, trivial⟩ ?_
    refine N.obl trivial ?_
    refine N.obl ⟨⟨.inr ⟨_, rfl, rfl⟩, .inr ⟨_, rfl, rfl⟩, trivial⟩, trivial⟩ ?_
    exact N.true
  | some q =>
    obtain ⟨c, T⟩ := q
    obtain ⟨hc1, hlc, hT⟩ := hβ
    repeat' (refine N.go ?_; first | with_reducible refine N.obl (by decide) ?_ | with_reducible refine N.obl (flat_wi _ _ _) ?_ | with_reducible refine N.obl (flat_lim _ _) ?_ | with_reducible refine N.eq ?_ | with_reducible refine N.obl rfl ?_ | with_reducible refine N.obl ⟨by kernel_rfl, by kernel_rfl⟩ ?_ | with_reducible refine N.alt ?_ | with_reducible refine N.forkT ?_ | with_reducible refine N.forkF ?_ | refine N.forkNo (by decide) ?_ | refine N.forkYes (by decide) ?_ | refine N.forkYes (by rw [decide_eq_true_eq]; omega) ?_ | refine N.forkNo (by rw [decide_eq_false_iff_not]; omega) ?_ | refine N.op (ok_lenU rfl rfl ⟨_, rfl, _, Try.underlying26⟩) ?_ | refine N.obl (mail_flat _ _ _ _ _) ?_ | refine N.obl (by show endB _ _ = Bool.true; kernel_rfl) ?_ | fail_if_success skip)
    refine N.go ?_
    refine N.plan [0, 1, 2, 3, 4, 5, 9, 10] [(6, [7]), (8, [11])] (by kernel_rfl) ?_
    repeat' (refine N.go ?_; first | with_reducible refine N.obl (by decide) ?_ | with_reducible refine N.obl (flat_wi _ _ _) ?_ | with_reducible refine N.obl (flat_lim _ _) ?_ | with_reducible refine N.eq ?_ | with_reducible refine N.obl rfl ?_ | with_reducible refine N.obl ⟨by kernel_rfl, by kernel_rfl⟩ ?_ | with_reducible refine N.alt ?_ | with_reducible refine N.forkT ?_ | with_reducible refine N.forkF ?_ | refine N.forkNo (by decide) ?_ | refine N.forkYes (by decide) ?_ | refine N.forkYes (by rw [decide_eq_true_eq]; omega) ?_ | refine N.forkNo (by rw [decide_eq_false_iff_not]; omega) ?_ | refine N.op (ok_lenU rfl rfl ⟨_, rfl, _, Try.underlying26⟩) ?_ | refine N.obl (mail_flat _ _ _ _ _) ?_ | refine N.obl (by show endB _ _ = Bool.true; kernel_rfl) ?_ | fail_if_success skip)
    refine N.go ?_
    refine N.callM [1] _ (by kernel_rfl) (fun h₂ hh => cOwnM W F _ bs hs (by omega) to_ at_ tr be 1 h₂ ((hh 1 (by simp)).trans rfl)) fun v ms hR => ?_
    obtain ⟨u', F', hM, rfl, rfl⟩ := hR
    refine ⟨by simp, ?_⟩
    repeat' (refine N.go ?_; first | with_reducible refine N.obl (by decide) ?_ | with_reducible refine N.obl (flat_wi _ _ _) ?_ | with_reducible refine N.obl (flat_lim _ _) ?_ | with_reducible refine N.eq ?_ | with_reducible refine N.obl rfl ?_ | with_reducible refine N.obl ⟨by kernel_rfl, by kernel_rfl⟩ ?_ | with_reducible refine N.alt ?_ | with_reducible refine N.forkT ?_ | with_reducible refine N.forkF ?_ | refine N.forkNo (by decide) ?_ | refine N.forkYes (by decide) ?_ | refine N.forkYes (by rw [decide_eq_true_eq]; omega) ?_ | refine N.forkNo (by rw [decide_eq_false_iff_not]; omega) ?_ | refine N.op (ok_lenU rfl rfl ⟨_, rfl, _, Try.underlying26⟩) ?_ | refine N.obl (mail_flat _ _ _ _ _) ?_ | refine N.obl (by show endB _ _ = Bool.true; kernel_rfl) ?_ | fail_if_success skip)
    refine N.go ?_
    refine N.obl (by show midB _ _ _ _ = Bool.true; kernel_rfl) ?_
    refine N.go ?_
    refine AppN.mk1 (Ml.v (Ml.mk to_ (u') at_ tr be)) ⟨Nat.le_refl _, _, rfl, rfl, fun j hj => by
      match j, hj with
      | 0, _ => rfl
      | 1, _ => rfl
      | 2, _ => rfl
      | 3, _ => rfl
      | 4, _ => rfl⟩ (by rfl) (by show L.length * 5 ≤ c * 5; omega) (by omega) (by show (L.length + 1) * 56 ≤ _; omega) (mlA true c (setM1 T L.length (Ml.mk to_ (u') at_ tr be))) (fun h => wr_mlA rfl (by omega) rfl) (fun hr => ?_) (fun hg cap hcap => ?_)
    · repeat' (refine N.go ?_; first | with_reducible refine N.obl (by decide) ?_ | with_reducible refine N.obl (flat_wi _ _ _) ?_ | with_reducible refine N.obl (flat_lim _ _) ?_ | with_reducible refine N.eq ?_ | with_reducible refine N.obl rfl ?_ | with_reducible refine N.obl ⟨by kernel_rfl, by kernel_rfl⟩ ?_ | with_reducible refine N.alt ?_ | with_reducible refine N.forkT ?_ | with_reducible refine N.forkF ?_ | refine N.forkNo (by decide) ?_ | refine N.forkYes (by decide) ?_ | refine N.forkYes (by rw [decide_eq_true_eq]; omega) ?_ | refine N.forkNo (by rw [decide_eq_false_iff_not]; omega) ?_ | refine N.op (ok_lenU rfl rfl ⟨_, rfl, _, Try.underlying26⟩) ?_ | refine N.obl (mail_flat _ _ _ _ _) ?_ | refine N.obl (by show endB _ _ = Bool.true; kernel_rfl) ?_ | fail_if_success skip)
      refine N.go ?_
      refine airClose (L ++ [(Ml.mk to_ (u') at_ tr be)]) 2 c (setM1 T L.length (Ml.mk to_ (u') at_ tr be)) rfl air_pc hc1 (by rw [List.length_append]; exact hr) (get_app (fun i m hm => by have := (List.getElem?_eq_some_iff.1 hm).1; rw [← hT i m hm]; exact setM1_ne (by omega)) (setM1_at _ _ _)) (by rfl) rfl (Nat.le_refl _) (by rw [List.length_append]; rfl) (by rfl) (by rfl) (by decide) rfl (Nat.le_refl _) (fun j hj => eqv_of (seg_cell hj)) (fun ρ ρ' _ => rfl) ?_
      refine N.some (u', F') ⟨hM, ?_⟩
      refine N.obl (.plain rfl) ?_
      refine N.obl ⟨⟨_, rfl, fun h => h, Nat.le_refl _, fun j hj => absurd hj (Nat.not_lt_zero j)⟩, ⟨_, rfl, fun h => h, Nat.le_refl _, fun j hj => absurd hj (Nat.not_lt_zero j)⟩, trivial⟩ ?_
      refine N.obl trivial ?_
      refine N.obl ⟨⟨.inr ⟨_, rfl, rfl⟩, .inr ⟨_, rfl, rfl⟩, trivial⟩, trivial⟩ ?_
      exact N.true
    · repeat' (refine N.go ?_; first | with_reducible refine N.obl (by decide) ?_ | with_reducible refine N.obl (flat_wi _ _ _) ?_ | with_reducible refine N.obl (flat_lim _ _) ?_ | with_reducible refine N.eq ?_ | with_reducible refine N.obl rfl ?_ | with_reducible refine N.obl ⟨by kernel_rfl, by kernel_rfl⟩ ?_ | with_reducible refine N.alt ?_ | with_reducible refine N.forkT ?_ | with_reducible refine N.forkF ?_ | refine N.forkNo (by decide) ?_ | refine N.forkYes (by decide) ?_ | refine N.forkYes (by rw [decide_eq_true_eq]; omega) ?_ | refine N.forkNo (by rw [decide_eq_false_iff_not]; omega) ?_ | refine N.op (ok_lenU rfl rfl ⟨_, rfl, _, Try.underlying26⟩) ?_ | refine N.obl (mail_flat _ _ _ _ _) ?_ | refine N.obl (by show endB _ _ = Bool.true; kernel_rfl) ?_ | fail_if_success skip)
      refine N.go ?_
      refine airClose (L ++ [(Ml.mk to_ (u') at_ tr be)]) 9 cap (growM T L.length (Ml.mk to_ (u') at_ tr be)) rfl air_pc (by omega) (by rw [List.length_append]; exact hcap) (get_app (fun i m hm => by have := (List.getElem?_eq_some_iff.1 hm).1; rw [← hT i m hm]; exact growM_lt (by omega)) (by unfold growM; rw [if_neg (Nat.lt_irrefl _), if_pos rfl])) (by rfl) rfl (Nat.le_refl _) (by rw [List.length_append]; rfl) (by rfl) (by rfl) (by decide) rfl (Nat.le_refl _) (fun j hj => grown_mlA rfl hcap (fun j hj => seg_cell (by omega)) hj) (fun ρ ρ' _ => rfl) ?_
      refine N.some (u', F') ⟨hM, ?_⟩
      refine N.obl (.plain rfl) ?_
      refine N.obl ⟨⟨_, rfl, fun h => h, Nat.le_refl _, fun j hj => absurd hj (Nat.not_lt_zero j)⟩, ⟨_, rfl, fun h => h, Nat.le_refl _, fun j hj => absurd hj (Nat.not_lt_zero j)⟩, trivial⟩ ?_
      refine N.obl trivial ?_
      refine N.obl ⟨⟨.inr ⟨_, rfl, rfl⟩, .inr ⟨_, rfl, rfl⟩, trivial⟩, trivial⟩ ?_
      exact N.true
end Go.Proofs.Ytgikbmohmomgbaa
