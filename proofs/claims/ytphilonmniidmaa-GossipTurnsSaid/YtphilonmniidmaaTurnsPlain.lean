/-
  Plain laws: Next, called again and again, meets each number once.
-/
import Derived.Test.YtphilonmniidmaaNextPlain
set_option linter.unusedVariables false
namespace Go.Proofs.Ytphilonmniidmaa

/-- Who has had a turn: the round began behind a0 and has come to cur; ph: it has begun anew at the least. -/
def vis (a0 : Int) (ph : Bool) (cur n : Int) : Bool := if ph = true then decide (a0 < n ∨ n ≤ cur) else decide (a0 < n ∧ n ≤ cur)
def visOk (a0 : Int) (ph : Bool) (cur : Int) : Prop := if ph = true then cur ≤ a0 else a0 ≤ cur

theorem vis_start (a0 n : Int) : vis a0 false a0 n = false := by
  unfold vis; simp
theorem visOk_start (a0 : Int) : visOk a0 false a0 := by unfold visOk; simp

theorem vis_next (ids : List Int) (a0 : Int) (ph : Bool) (cur m : Int) (hok : visOk a0 ph cur) (hm : m ∈ ids) (hv : vis a0 ph cur m = false) :
    nextN ids cur ∈ ids ∧ vis a0 ph cur (nextN ids cur) = false ∧ ∃ ph', visOk a0 ph' (nextN ids cur) ∧ ∀ x ∈ ids, vis a0 ph' (nextN ids cur) x = (vis a0 ph cur x || x == nextN ids cur) := by
  have hne : ids ≠ [] := by rintro rfl; cases hm
  have hmem := nextN_mem ids cur hne
  have hbool : ∀ {p q r : Prop} [Decidable p] [Decidable q] [Decidable r], (p ↔ q ∨ r) → decide p = (decide q || decide r) := by
    intro p q r _ _ _ h
    by_cases hq : q <;> by_cases hr : r <;> simp [h, hq, hr]
  have hbeq : ∀ x : Int, (x == nextN ids cur) = decide (x = nextN ids cur) := fun x => by
    by_cases h : x = nextN ids cur <;> simp [h]
  cases ph with
  | false =>
    have hok : a0 ≤ cur := by simpa [visOk] using hok
    have hv : ¬ (a0 < m ∧ m ≤ cur) := by simpa [vis] using hv
    by_cases hup : ∃ u ∈ ids, cur < u
    · obtain ⟨u, hu, hcu⟩ := hup
      have h1 := (nextN_up ids cur u hu hcu).1
      have h2 : ∀ x ∈ ids, cur < x → nextN ids cur ≤ x := fun x hx hcx => (nextN_up ids cur x hx hcx).2
      generalize hn : nextN ids cur = n at *
      refine ⟨hmem, ?_, false, ?_, ?_⟩
      · simp [vis]; omega
      · simp [visOk]; omega
      · intro x hx
        have h3 := h2 x hx
        rw [hbeq]
        simp only [vis]
        refine hbool ?_
        constructor
        · intro h; by_cases hc : cur < x
          · right; have := h3 hc; omega
          · left; omega
        · intro h; omega
    · have hall : ∀ x ∈ ids, x ≤ cur := fun x hx => by
        rcases Int.lt_or_le cur x with h | h
        · exact absurd ⟨x, hx, h⟩ hup
        · exact h
      have h2 := nextN_least ids cur hall
      have h3 := h2 m hm
      have h4 := hall m hm
      generalize hn : nextN ids cur = n at *
      refine ⟨hmem, ?_, true, ?_, ?_⟩
      · simp [vis]; omega
      · simp [visOk]; omega
      · intro x hx
        have h5 := h2 x hx
        have h6 := hall x hx
        rw [hbeq]
        simp only [vis]
        refine hbool ?_
        constructor <;> intro h <;> omega
  | true =>
    have hok : cur ≤ a0 := by simpa [visOk] using hok
    have hv : ¬ (a0 < m ∨ m ≤ cur) := by simpa [vis] using hv
    have h1 := (nextN_up ids cur m hm (by omega)).1
    have h2 : ∀ x ∈ ids, cur < x → nextN ids cur ≤ x := fun x hx hcx => (nextN_up ids cur x hx hcx).2
    have h3 := h2 m hm (by omega)
    generalize hn : nextN ids cur = n at *
    refine ⟨hmem, ?_, true, ?_, ?_⟩
    · simp [vis]; omega
    · simp [visOk]; omega
    · intro x hx
      have h5 := h2 x hx
      rw [hbeq]
      simp only [vis]
      refine hbool ?_
      constructor
      · intro h; by_cases hc : cur < x
        · have := h5 hc; omega
        · omega
      · intro h; omega
end Go.Proofs.Ytphilonmniidmaa
