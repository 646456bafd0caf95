/-
  What the two maps of the law GossipTurns read as; counting who has come and who has had a turn.
-/
import Derived.Test.YtphilonmniidmaaTurnsPlain
import Derived.Maps.RangeWalk
import Derived.Maps.OwnOps
set_option linter.unusedVariables false
namespace Go.Proofs.Ytphilonmniidmaa
open Go.Maps

/-- A key. -/
def ik (x : Int) : Lit := .int .i64 x
theorem ik_same (x y : Int) : (ik x).sameKey (ik y) = (x == y) := by
  by_cases h : x = y
  · subst h; simp [ik, Lit.sameKey]
  · have : ik x ≠ ik y := fun e => h (by injection e)
    rw [sameKey_ne this]; simp [h]
theorem ik_key (x : Int) : WideAt.IsKeyLit (ik x) := by unfold ik; trivial

/-- want: each number at 1. -/
def wantD (zs : List Int) : DataW Unit := setOf (.lit (.int .i64 1)) (zs.map ik)
theorem wantD_snoc (zs : List Int) (x : Int) : wantD (zs ++ [x]) = (wantD zs).put (ik x) (.lit (.int .i64 1)) := by
  unfold wantD; rw [List.map_append]; exact setOf_snoc _ _ _
theorem keys_ok (zs : List Int) : ∀ x ∈ zs.map ik, WideAt.IsKeyLit x := by
  intro x hx; obtain ⟨y, _, rfl⟩ := List.mem_map.1 hx; exact ik_key y
theorem wantD_isMap (zs : List Int) : IsMap (wantD zs) := (tidy_setOf _ _ (keys_ok zs)).isMap
theorem wantD_has (zs : List Int) (x : Int) : Maps.has (wantD zs) (ik x) = decide (x ∈ zs) := by
  unfold wantD
  rw [has_setOf _ _ _ (keys_ok zs), List.any_map, Bool.eq_iff_iff, List.any_eq_true, decide_eq_true_iff]
  simp only [Function.comp_def, ik_same]
  constructor
  · rintro ⟨y, hy, e⟩
    have : y = x := by simpa using e
    exact this ▸ hy
  · intro h; exact ⟨x, h, by simp⟩
theorem wantD_at (zs : List Int) (x : Int) (h : x ∈ zs) (z : DataW Unit) : (wantD zs).atKey (ik x) z = .lit (.int .i64 1) := by
  suffices H : ∀ l zs : List Int, zs = l.reverse → x ∈ zs → (wantD zs).atKey (ik x) z = .lit (.int .i64 1) from H zs.reverse zs (by simp) h
  intro l
  induction l with
  | nil => intro zs e hx; subst e; simp at hx
  | cons a l ih =>
    intro zs e hx
    subst e
    rw [List.reverse_cons] at hx ⊢
    rw [wantD_snoc]
    by_cases he : x = a
    · subst he; exact atKey_put_same (wantD_isMap _) (ik_key _) _ _
    · have hne : ik x ≠ ik a := fun e => he (by injection e)
      rw [atKey_put_other hne]
      exact ih _ rfl (by simpa [he] using hx)

/-- Counting over a list without repeats. -/
theorem count_more (ks : List Int) (hd : ks.Nodup) (p : Int → Bool) (n : Int) (hn : n ∈ ks) (hp : p n = false) : ks.countP (fun x => p x || x == n) = ks.countP p + 1 := by
  induction ks with
  | nil => cases hn
  | cons a l ih =>
    obtain ⟨h1, h2⟩ := List.nodup_cons.1 hd
    rw [List.countP_cons, List.countP_cons]
    by_cases ha : a = n
    · subst ha
      have : l.countP (fun x => p x || x == a) = l.countP p := by
        apply List.countP_congr
        intro x hx
        have : x ≠ a := fun e => h1 (e ▸ hx)
        simp [this]
      rw [this, hp]; simp
    · have hn' : n ∈ l := by
        rcases List.mem_cons.1 hn with h | h
        · exact absurd h.symm ha
        · exact h
      rw [ih h2 hn']
      simp [ha]; omega
theorem count_all (ks : List Int) (p : Int → Bool) (h : ks.countP p = ks.length) : ∀ x ∈ ks, p x = true := List.countP_eq_length.1 h
theorem count_some (ks : List Int) (p : Int → Bool) (h : ks.countP p < ks.length) : ∃ x ∈ ks, p x = false := by
  refine Classical.byContradiction fun hc => ?_
  have : ks.countP p = ks.length := List.countP_eq_length.2 fun x hx => by
    cases hp : p x
    · exact absurd ⟨x, hx, hp⟩ hc
    · rfl
  omega
theorem count_lt (ks : List Int) (p : Int → Bool) (x : Int) (hx : x ∈ ks) (hp : p x = false) : ks.countP p < ks.length := by
  rcases Nat.lt_or_ge (ks.countP p) ks.length with h | h
  · exact h
  · have h2 := List.countP_le_length (p := p) (l := ks)
    have := count_all ks p (by omega) x hx
    rw [hp] at this; cases this
theorem exists_nodup : ∀ zs : List Int, ∃ ks : List Int, ks.Nodup ∧ (∀ x, x ∈ ks ↔ x ∈ zs) ∧ ks.length ≤ zs.length
  | [] => ⟨[], List.nodup_nil, fun _ => Iff.rfl, Nat.le_refl _⟩
  | a :: l => by
    obtain ⟨ks, h1, h2, h3⟩ := exists_nodup l
    by_cases ha : a ∈ l
    · refine ⟨ks, h1, fun x => ?_, by simp; omega⟩
      rw [h2, List.mem_cons]
      constructor
      · exact .inr
      · rintro (rfl | h)
        · exact ha
        · exact h
    · refine ⟨a :: ks, List.nodup_cons.2 ⟨fun h => ha ((h2 a).1 h), h1⟩, fun x => ?_, by simp; omega⟩
      rw [List.mem_cons, List.mem_cons, h2]

/-- How often each has had a turn, as the map got reads. -/
def gotAt (zs : List Int) (a0 : Int) (ph : Bool) (cur x : Int) : Int := if x ∈ zs ∧ vis a0 ph cur x = true then 1 else 0
def Got (G : DataW Unit) (zs : List Int) (a0 : Int) (ph : Bool) (cur : Int) : Prop := ∀ x, G.atKey (ik x) (.lit (.int .i64 0)) = .lit (.int .i64 (gotAt zs a0 ph cur x))

theorem got_start (zs : List Int) (a0 : Int) : Got (.map []) zs a0 false a0 := by
  intro x
  unfold gotAt
  rw [vis_start, if_neg (by simp)]
  rfl

/-- One turn. -/
theorem got_step {G : DataW Unit} {zs : List Int} {a0 : Int} {ph ph' : Bool} {cur n : Int} (hG : Got G zs a0 ph cur) (hM : IsMap G) (hn : n ∈ zs) (hv : vis a0 ph cur n = false) (h : ∀ x ∈ zs, vis a0 ph' n x = (vis a0 ph cur x || x == n)) :
    gotAt zs a0 ph cur n = 0 ∧ Got (G.put (ik n) (.lit (.int .i64 1))) zs a0 ph' n := by
  refine ⟨by unfold gotAt; rw [hv]; simp, fun x => ?_⟩
  by_cases hx : x = n
  · subst hx
    rw [atKey_put_same hM (ik_key _)]
    unfold gotAt
    rw [if_pos ⟨hn, by rw [h x hn]; simp⟩]
  · have hne : ik x ≠ ik n := fun e => hx (by injection e)
    rw [atKey_put_other hne, hG x]
    unfold gotAt
    by_cases hz : x ∈ zs
    · have : vis a0 ph' n x = vis a0 ph cur x := by rw [h x hz]; simp [hx]
      rw [this]
    · simp [hz]

/-- The state of the second loop, in plain words. -/
structure Turn (zs ks : List Int) (a0 : Int) (left : Lit → Bool) (ph : Bool) (cur : Int) : Prop where
  ok : visOk a0 ph cur
  count : ks.countP (fun x => !left (ik x)) = ks.countP (vis a0 ph cur)

theorem turn_start (zs ks : List Int) (a0 : Int) (hk : ∀ x, x ∈ ks ↔ x ∈ zs) : Turn zs ks a0 (Maps.has (wantD zs)) false a0 := by
  refine ⟨visOk_start a0, ?_⟩
  have h1 : ks.countP (fun x => !Maps.has (wantD zs) (ik x)) = 0 := List.countP_eq_zero.2 fun x hx => by rw [wantD_has]; simp [(hk x).1 hx]
  have h2 : ks.countP (vis a0 false a0) = 0 := List.countP_eq_zero.2 fun x hx => by rw [vis_start]; simp
  rw [h1, h2]

/-- One round: an entry x has come; Next gives n. -/
theorem turn_step {zs ks : List Int} {a0 : Int} {left : Lit → Bool} {ph : Bool} {cur x : Int} (hnd : ks.Nodup) (hk : ∀ x, x ∈ ks ↔ x ∈ zs) (hT : Turn zs ks a0 left ph cur) (hx : x ∈ zs) (hl : left (ik x) = true) :
    nextN zs cur ∈ zs ∧ vis a0 ph cur (nextN zs cur) = false ∧ nextB zs cur = true ∧ ∃ ph', (∀ y ∈ zs, vis a0 ph' (nextN zs cur) y = (vis a0 ph cur y || y == nextN zs cur)) ∧
      Turn zs ks a0 (fun z => left z && !z.sameKey (ik x)) ph' (nextN zs cur) ∧ ks.countP (vis a0 ph' (nextN zs cur)) = ks.countP (vis a0 ph cur) + 1 := by
  have h1 : ks.countP (fun x => !left (ik x)) < ks.length := count_lt ks _ x ((hk x).2 hx) (by simp [hl])
  rw [hT.count] at h1
  obtain ⟨m, hm, hv⟩ := count_some ks _ h1
  obtain ⟨a, b, ph', c, d⟩ := vis_next zs a0 ph cur m hT.ok ((hk m).1 hm) hv
  have hne : zs ≠ [] := by rintro rfl; cases hx
  have hb : nextB zs cur = true := by rw [nextB_eq]; cases zs with | nil => exact absurd rfl hne | cons _ _ => rfl
  have hc2 : ks.countP (vis a0 ph' (nextN zs cur)) = ks.countP (vis a0 ph cur) + 1 := by
    rw [← count_more ks hnd (vis a0 ph cur) (nextN zs cur) ((hk _).2 a) b]
    exact List.countP_congr fun y hy => by rw [d y ((hk y).1 hy)]
  refine ⟨a, b, hb, ph', d, ⟨c, ?_⟩, hc2⟩
  rw [hc2, ← hT.count, ← count_more ks hnd (fun x => !left (ik x)) x ((hk x).2 hx) (by simp [hl])]
  refine List.countP_congr fun y hy => ?_
  rw [ik_same]
  cases left (ik y) <;> simp

/-- At the end all have had a turn. -/
theorem turn_end {zs ks : List Int} {a0 : Int} {left : Lit → Bool} {ph : Bool} {cur : Int} (hk : ∀ x, x ∈ ks ↔ x ∈ zs) (hT : Turn zs ks a0 left ph cur) (h0 : ∀ z, left z = false) : ∀ x ∈ zs, gotAt zs a0 ph cur x = 1 := by
  have h1 : ks.countP (fun x => !left (ik x)) = ks.length := List.countP_eq_length.2 fun x hx => by simp [h0]
  rw [hT.count] at h1
  intro x hx
  unfold gotAt
  rw [if_pos ⟨hx, count_all ks _ h1 x ((hk x).2 hx)⟩]

end Go.Proofs.Ytphilonmniidmaa
