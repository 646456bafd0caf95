/-
  Plain laws of Next: no program in sight.
-/
set_option linter.unusedVariables false
namespace Go.Proofs.Ytphilonmniidmaa

/-- One round of Next: least, next, any, behind. -/
structure Nx where
  least : Int
  next : Int
  any : Bool
  behind : Bool

def Nx.init : Nx := ⟨0, 0, false, false⟩

def Nx.step (after : Int) (s : Nx) (n : Int) : Nx :=
  ⟨if s.any = false ∨ n < s.least then n else s.least,
   if n > after ∧ (s.behind = false ∨ n < s.next) then n else s.next,
   true,
   if n > after ∧ (s.behind = false ∨ n < s.next) then true else s.behind⟩

def Nx.of (after : Int) (l : List Int) : Nx := l.foldl (Nx.step after) Nx.init

def nextN (l : List Int) (after : Int) : Int := if (Nx.of after l).behind = true then (Nx.of after l).next else (Nx.of after l).least
def nextB (l : List Int) (after : Int) : Bool := if (Nx.of after l).behind = true then true else (Nx.of after l).any

theorem Nx.of_snoc (after : Int) (l : List Int) (n : Int) : Nx.of after (l ++ [n]) = Nx.step after (Nx.of after l) n := by
  simp [Nx.of, List.foldl_append]

theorem Nx.of_nil (after : Int) : Nx.of after [] = Nx.init := rfl

/-- What holds of the four after any list. -/
structure Nx.Good (after : Int) (l : List Int) (s : Nx) : Prop where
  any : s.any = !l.isEmpty
  leastMem : l ≠ [] → s.least ∈ l
  leastLe : ∀ n ∈ l, s.least ≤ n
  nextMem : s.behind = true → s.next ∈ l ∧ after < s.next
  nextLe : ∀ n ∈ l, after < n → s.behind = true ∧ s.next ≤ n
  leastZero : l = [] → s.least = 0
  nextZero : s.behind = false → s.next = 0

theorem Nx.good_nil (after : Int) : Nx.Good after [] Nx.init :=
  ⟨rfl, by simp, by simp, by simp [Nx.init], by simp, fun _ => rfl, fun _ => rfl⟩

theorem Nx.good_snoc (after : Int) (l : List Int) (s : Nx) (n : Int) (h : Nx.Good after l s) : Nx.Good after (l ++ [n]) (Nx.step after s n) := by
  obtain ⟨least, next, any, behind⟩ := s
  obtain ⟨h1, h2, h3, h4, h5, h6, h7⟩ := h
  simp only at h1 h2 h3 h4 h5 h6 h7
  have hany : any = false ↔ l = [] := by rw [h1]; simp
  refine ⟨?_, ?_, ?_, ?_, ?_, ?_, ?_⟩
  · simp [Nx.step]
  · intro _
    simp only [Nx.step]
    split
    · simp
    · rename_i hc
      have : l ≠ [] := fun e => hc (.inl (hany.2 e))
      exact List.mem_append_left _ (h2 this)
  · intro m hm
    simp only [Nx.step]
    rcases List.mem_append.1 hm with hm | hm
    · have := h3 m hm
      split
      · rename_i hc
        rcases hc with hc | hc
        · rw [hany.1 hc] at hm; simp at hm
        · omega
      · exact this
    · obtain rfl : m = n := by simpa using hm
      split
      · omega
      · rename_i hc
        have : ¬ m < least := fun e => hc (.inr e)
        omega
  · simp only [Nx.step]
    split
    · rename_i hc
      intro _
      exact ⟨by simp, hc.1⟩
    · intro hb
      obtain ⟨h8, h9⟩ := h4 hb
      exact ⟨List.mem_append_left _ h8, h9⟩
  · intro m hm ha
    simp only [Nx.step]
    rcases List.mem_append.1 hm with hm | hm
    · obtain ⟨h8, h9⟩ := h5 m hm ha
      split
      · rename_i hc
        rcases hc with ⟨_, hc | hc⟩
        · rw [h8] at hc; cases hc
        · exact ⟨rfl, by omega⟩
      · exact ⟨h8, h9⟩
    · obtain rfl : m = n := by simpa using hm
      split
      · exact ⟨rfl, by omega⟩
      · rename_i hc
        cases behind with
        | false => exact absurd ⟨ha, .inl rfl⟩ hc
        | true => exact ⟨rfl, by have : ¬ m < next := fun e => hc ⟨ha, .inr e⟩; omega⟩
  · simp
  · simp only [Nx.step]
    split
    · simp
    · exact h7

theorem Nx.good (after : Int) (l : List Int) : Nx.Good after l (Nx.of after l) := by
  suffices h : ∀ l' l : List Int, l = l'.reverse → Nx.Good after l (Nx.of after l) from h l.reverse l (by simp)
  intro l'
  induction l' with
  | nil => intro l e; subst e; exact Nx.good_nil after
  | cons n l' ih =>
    intro l e
    subst e
    rw [List.reverse_cons, Nx.of_snoc]
    exact Nx.good_snoc after _ _ n (ih _ rfl)

theorem nextB_eq (l : List Int) (after : Int) : nextB l after = !l.isEmpty := by
  have h := Nx.good after l
  unfold nextB
  split
  · rename_i hb
    have := (h.nextMem hb).1
    cases l with
    | nil => simp at this
    | cons a l => rfl
  · exact h.any

theorem nextN_mem (l : List Int) (after : Int) (hl : l ≠ []) : nextN l after ∈ l := by
  have h := Nx.good after l
  unfold nextN
  split
  · rename_i hb; exact (h.nextMem hb).1
  · exact h.leastMem hl

theorem nextN_nil (after : Int) : nextN [] after = 0 := rfl
theorem nextB_nil (after : Int) : nextB [] after = false := rfl

/-- Where some number is behind: the least such. -/
theorem nextN_up (l : List Int) (after : Int) (m : Int) (hm : m ∈ l) (ha : after < m) : after < nextN l after ∧ nextN l after ≤ m := by
  have h := Nx.good after l
  obtain ⟨hb, hle⟩ := h.nextLe m hm ha
  unfold nextN
  rw [if_pos hb]
  exact ⟨(h.nextMem hb).2, hle⟩

/-- Where none is behind: the least of all. -/
theorem nextN_least (l : List Int) (after : Int) (hno : ∀ m ∈ l, m ≤ after) : ∀ m ∈ l, nextN l after ≤ m := by
  have h := Nx.good after l
  intro m hm
  unfold nextN
  split
  · rename_i hb
    obtain ⟨h1, h2⟩ := h.nextMem hb
    have := hno _ h1
    omega
  · exact h.leastLe m hm

/-- The reference's round: best, least, more; the first by its place. -/
structure Rx where
  best : Int
  least : Int
  more : Bool

def Rx.init : Rx := ⟨0, 0, false⟩
def Rx.step (after : Int) (first : Bool) (s : Rx) (n : Int) : Rx :=
  ⟨if n > after ∧ (s.more = false ∨ n < s.best) then n else s.best,
   if first = true ∨ n < s.least then n else s.least,
   if n > after ∧ (s.more = false ∨ n < s.best) then true else s.more⟩

/-- The reference computes the same four. -/
def Rx.of (after : Int) (l : List Int) : Rx := ⟨(Nx.of after l).next, (Nx.of after l).least, (Nx.of after l).behind⟩

theorem Rx.of_snoc (after : Int) (l : List Int) (n : Int) : Rx.of after (l ++ [n]) = Rx.step after l.isEmpty (Rx.of after l) n := by
  have h := (Nx.good after l).any
  simp only [Rx.of, Nx.of_snoc, Nx.step, Rx.step]
  have : ((Nx.of after l).any = false) ↔ (l.isEmpty = true) := by rw [h]; cases l.isEmpty <;> simp
  simp only [this]
  congr

end Go.Proofs.Ytphilonmniidmaa
