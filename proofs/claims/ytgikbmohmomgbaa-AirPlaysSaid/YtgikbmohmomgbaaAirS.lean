
/-
  The walks of air at mails with bytes: Len, New, Get.
-/
import Derived.Test.YtgikbmohmomgbaaAirR
set_option linter.unusedVariables false
set_option linter.unusedSimpArgs false
namespace Go.Proofs.Ytgikbmohmomgbaa
open Go Go.RowKit Sx

theorem one_bs {s : Piece} : ∀ i, i < [s].length → i = 0 ∨ i ∈ ([] : List Nat) := fun i hi => .inl (by simpa using hi)
theorem one_pc {i k : Nat} {c d : Chunk} {L : List Ml} : ∀ l, (l = 0 ∨ l = k) → l < [(⟨i, c, airP L, d⟩ : Piece)].length → ∃ s, [(⟨i, c, airP L, d⟩ : Piece)][l]? = some s ∧ s.e.x ≠ Ext.none ∧ Selfish s.e.x := fun l _ hl => by
  obtain rfl : l = 0 := by simpa using hl
  exact ⟨_, rfl, airP_ne L, packX_selfish⟩
abbrev nC : Chunk := ⟨false, 0, []⟩
set_option maxRecDepth 100000 in
set_option maxHeartbeats 2000000 in
theorem cLenN (o : Bool) (i : Nat) (h : List (Option Chunk)) (hi : h[i]? = some (some (airC o (.slice none 0 0)))) : CallOK Try.prog 12 [.pointer (some ⟨i, 0, some 0⟩)] h (.int .i64 0) [] [i] := by
  refine call_sub (G := tys) [⟨i, _, airC false (.slice none 0 0), nC⟩] [] [.pointer (some ⟨0, 0, some 0⟩)] tysOK mixed Try.func12 (by rfl) (Try.call12) ⟨hi, trivial⟩ ⟨⟨fun h => (by cases h), Nat.le_refl _, fun j hj => by
    match j, hj with
    | 0, _ => exact .plain rfl⟩, trivial⟩ (by simp [Apart]) trivial ⟨.ptr rfl, trivial⟩ ?_
  repeat' (refine N.go ?_; first | with_reducible refine N.obl (by decide) ?_ | with_reducible refine N.obl (flat_wi _ _ _) ?_ | with_reducible refine N.obl (flat_lim _ _) ?_ | with_reducible refine N.eq ?_ | with_reducible refine N.obl rfl ?_ | with_reducible refine N.obl ⟨by kernel_rfl, by kernel_rfl⟩ ?_ | with_reducible refine N.alt ?_ | with_reducible refine N.forkT ?_ | with_reducible refine N.forkF ?_ | refine N.forkNo (by decide) ?_ | refine N.forkYes (by decide) ?_ | refine N.obl (.plain rfl) ?_ | refine N.obl trivial ?_ | exact N.true | fail_if_success skip)
set_option maxRecDepth 100000 in
set_option maxHeartbeats 2000000 in
theorem cLenS (o : Bool) (k n c i : Nat) (h : List (Option Chunk)) {b : Chunk} (hi : h[i]? = some (some (airC o (.slice (some ⟨k, 0, some 0⟩) n c)))) (hk : h[k]? = some (some b)) (hik : i ≠ k) : CallOK Try.prog 12 [.pointer (some ⟨i, 0, some 0⟩)] h (.int .i64 (n : Nat)) [] [i, k] := by
  refine call_sub (G := tys) [⟨i, _, airC false (.slice (some ⟨1, 0, some 0⟩) n c), nC⟩, ⟨k, b, nC, nC⟩] [] [.pointer (some ⟨0, 0, some 0⟩)] tysOK mixed Try.func12 (by rfl) (Try.call12) ⟨hi, hk, trivial⟩ ⟨⟨fun h => (by cases h), Nat.le_refl _, fun j hj => by
    match j, hj with
    | 0, _ => exact .slice rfl⟩, ⟨fun h => (by cases h), Nat.zero_le _, fun j hj => absurd hj (Nat.not_lt_zero j)⟩, trivial⟩ (by simp [Apart, hik]) trivial ⟨.ptr rfl, trivial⟩ ?_
  repeat' (refine N.go ?_; first | with_reducible refine N.obl (by decide) ?_ | with_reducible refine N.obl (flat_wi _ _ _) ?_ | with_reducible refine N.obl (flat_lim _ _) ?_ | with_reducible refine N.eq ?_ | with_reducible refine N.obl rfl ?_ | with_reducible refine N.obl ⟨by kernel_rfl, by kernel_rfl⟩ ?_ | with_reducible refine N.alt ?_ | with_reducible refine N.forkT ?_ | with_reducible refine N.forkF ?_ | refine N.forkNo (by decide) ?_ | refine N.forkYes (by decide) ?_ | refine N.obl (.plain rfl) ?_ | refine N.obl trivial ?_ | exact N.true | fail_if_success skip)
set_option maxRecDepth 100000 in
set_option maxHeartbeats 2000000 in
theorem cLenM (L : List Ml) (i : Nat) (h : List (Option Chunk)) (hi : h[i]? = some (some (airP L))) : CallOK Try.prog 12 [.pointer (some ⟨i, 0, some 0⟩)] h (.int .i64 (L.length : Nat)) [(i, airP L)] [] := by
  refine call_res (G := tys) (airOK L) (airH L) [⟨i, airP L, airP L, airP L⟩] [] [.pointer (some ⟨0, 0, some 0⟩)] tysOK mixed Try.func12 (by rfl) (Try.call12) ⟨hi, trivial⟩ ⟨⟨fun h => ⟨rfl, Nat.le_refl _⟩, Nat.le_refl _, fun j hj => absurd hj (Nat.not_lt_zero j)⟩, trivial⟩ (by simp [Apart]) ⟨.inr ⟨rfl, rfl⟩, trivial⟩ trivial ⟨.ptr rfl, trivial⟩ pack_opens ?_
  intro β hβ
  cases β with
  | none =>
    obtain rfl : L = [] := hβ
    repeat' (refine N.go ?_; first | with_reducible refine N.obl (by decide) ?_ | with_reducible refine N.obl (flat_wi _ _ _) ?_ | with_reducible refine N.obl (flat_lim _ _) ?_ | with_reducible refine N.eq ?_ | with_reducible refine N.obl rfl ?_ | with_reducible refine N.obl ⟨by kernel_rfl, by kernel_rfl⟩ ?_ | with_reducible refine N.alt ?_ | with_reducible refine N.forkT ?_ | with_reducible refine N.forkF ?_ | refine N.forkNo (by decide) ?_ | refine N.forkYes (by decide) ?_ | fail_if_success skip)
    refine N.go ?_
    refine airClose0G 0 [] one_bs (fun _ => ⟨_, rfl, airP_ne [], packX_selfish⟩) (by rfl) rfl (Nat.le_refl _) rfl (fun x hx => by cases hx) (fun x hx => by cases hx) (fun ρ ρ' _ => rfl) ?_
    refine N.obl (.plain rfl) ?_
    refine N.obl ⟨⟨_, rfl, fun h => h, Nat.le_refl _, fun j hj => absurd hj (Nat.not_lt_zero j)⟩, trivial⟩ ?_
    refine N.obl trivial ?_
    refine N.obl ⟨⟨.inr ⟨_, rfl, rfl⟩, trivial⟩, trivial⟩ ?_
    exact N.true
  | some q =>
    obtain ⟨c, T⟩ := q
    obtain ⟨hc1, hlc, hT⟩ := hβ
    repeat' (refine N.go ?_; first | with_reducible refine N.obl (by decide) ?_ | with_reducible refine N.obl (flat_wi _ _ _) ?_ | with_reducible refine N.obl (flat_lim _ _) ?_ | with_reducible refine N.eq ?_ | with_reducible refine N.obl rfl ?_ | with_reducible refine N.obl ⟨by kernel_rfl, by kernel_rfl⟩ ?_ | with_reducible refine N.alt ?_ | with_reducible refine N.forkT ?_ | with_reducible refine N.forkF ?_ | refine N.forkNo (by decide) ?_ | refine N.forkYes (by decide) ?_ | fail_if_success skip)
    refine N.go ?_
    refine airCloseG 0 [] L 1 c T one_bs one_pc hc1 hlc hT (by rfl) rfl (Nat.le_refl _) rfl (by rfl) (by decide) rfl (Nat.le_refl _) (fun j hj => eqv_of (seg_cell hj)) (fun x hx => by cases hx) (fun x hx => by cases hx) (fun ρ ρ' _ => rfl) ?_
    refine N.obl (.plain rfl) ?_
    refine N.obl ⟨⟨_, rfl, fun h => h, Nat.le_refl _, fun j hj => absurd hj (Nat.not_lt_zero j)⟩, trivial⟩ ?_
    refine N.obl trivial ?_
    refine N.obl ⟨⟨.inr ⟨_, rfl, rfl⟩, trivial⟩, trivial⟩ ?_
    exact N.true
set_option maxRecDepth 100000 in
set_option maxHeartbeats 2000000 in
theorem cNewM (K : Nat) (h : List (Option Chunk)) (hK : h[K]? = some none) : CallOK Try.prog 8 [] h (.pointer (some ⟨K, 0, some 0⟩)) [(K, airP [])] [] := by
  refine call_res (G := tys) (fun _ : Unit => True) (fun _ => []) [] [⟨K, 0, airP []⟩] [] tysOK mixed Try.func8 (by rfl) (Try.call8) trivial trivial trivial trivial ⟨⟨hK, rfl, .inr packX_selfish, by simp⟩, trivial⟩ trivial Opens.same ?_
  rintro ⟨⟩ -
  repeat' (refine N.go ?_; first | with_reducible refine N.obl (by decide) ?_ | with_reducible refine N.obl (flat_wi _ _ _) ?_ | with_reducible refine N.obl (flat_lim _ _) ?_ | with_reducible refine N.eq ?_ | with_reducible refine N.obl rfl ?_ | with_reducible refine N.obl ⟨by kernel_rfl, by kernel_rfl⟩ ?_ | with_reducible refine N.alt ?_ | with_reducible refine N.forkT ?_ | with_reducible refine N.forkF ?_ | refine N.forkNo (by decide) ?_ | refine N.forkYes (by decide) ?_ | fail_if_success skip)
  refine N.go ?_
  refine airClose0G 0 [] (fun i hi => absurd hi (by simp)) (fun hi => absurd hi (by simp)) (by rfl) rfl (Nat.le_refl _) rfl (fun x hx => by cases hx) (fun x hx => by cases hx) (fun ρ ρ' ha => by have := ha 0 ⟨_, rfl⟩; simp [den, den2, den1, den0, denA, this]) ?_
  refine N.obl (.one (.ptr rfl)) ?_
  refine N.obl trivial ?_
  refine N.obl ⟨⟨Nat.zero_le _, _, rfl, fun h => h, Nat.le_refl _, fun j hj => absurd hj (Nat.not_lt_zero j)⟩, trivial⟩ ?_
  refine N.obl ⟨trivial, .inr ⟨_, rfl, rfl⟩, trivial⟩ ?_
  exact N.true
end Go.Proofs.Ytgikbmohmomgbaa
