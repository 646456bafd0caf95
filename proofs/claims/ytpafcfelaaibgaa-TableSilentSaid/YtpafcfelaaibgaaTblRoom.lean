/-
  The plain law of TableRoom: who is heard stands first, and the last of a full row goes.
-/
import Derived.Test.YtpafcfelaaibgaaTbl10
set_option linter.unusedVariables false
set_option linter.unusedSimpArgs false
namespace Go.Proofs.Ytpafcfelaaibgaa
open Go Go.RowKit Sx

theorem nodup_le : ∀ {a b : List Int}, a.Nodup → (∀ x ∈ a, x ∈ b) → a.length ≤ b.length
  | [], _, _, _ => Nat.zero_le _
  | x :: a, b, hn, h => by
    have hn := List.nodup_cons.1 hn
    have hx := h x (List.mem_cons_self ..)
    have := nodup_le (b := b.erase x) hn.2 fun y hy => (List.mem_erase_of_ne (by rintro rfl; exact hn.1 hy)).2 (h y (List.mem_cons_of_mem _ hy))
    rw [List.length_erase_of_mem hx] at this
    have := List.length_pos_of_mem hx
    simp only [List.length_cons]; omega
def hd (E : List (Int × Ent)) (k : Int) : Int := ((dGet E k).getD Ent.zero).heard
theorem cmp_heard {a b : Ent} (h : ¬ cmpE a b < 0) : b.heard ≤ a.heard := by
  unfold cmpE cmpI at h
  repeat' split at h
  all_goals omega
theorem cmp_heard' {a b : Ent} (h : cmpE a b < 0) : a.heard ≤ b.heard := by
  unfold cmpE cmpI at h
  repeat' split at h
  all_goals omega
theorem minT_le (T : Nat → Ent) : ∀ n j, j < n → (minT T n).heard ≤ (T j).heard
  | 0, j, h => absurd h (Nat.not_lt_zero j)
  | 1, j, h => by obtain rfl : j = 0 := by omega
                  exact Int.le_refl _
  | r + 2, j, h => by
    rw [minT_step T (r + 1) (by omega)]
    by_cases hc : cmpE (T (r + 1)) (minT T (r + 1)) < 0
    · rw [if_pos hc]
      by_cases e : j = r + 1
      · rw [e]; exact Int.le_refl _
      · exact Int.le_trans (cmp_heard' hc) (minT_le T (r + 1) j (by omega))
    · rw [if_neg hc]
      by_cases e : j = r + 1
      · rw [e]; exact cmp_heard hc
      · exact minT_le T (r + 1) j (by omega)
theorem elder_le {E : List (Int × Ent)} {k : Int} {x : Ent} (h : dGet E k = some x) : (minT (entT E) E.length).heard ≤ x.heard := by
  have hm : k ∈ sortK E := (sortK_perm E).mem_iff.2 (List.mem_map.2 ⟨(k, x), dGet_some h, rfl⟩)
  obtain ⟨j, hj, e⟩ := List.getElem_of_mem hm
  have hj2 : j < E.length := by rw [sortK_len] at hj; exact hj
  have := minT_le (entT E) E.length j hj2
  rwa [entT_in (i := j) (k := k) (e := x) (by simp [hj, e]) h] at this
/-- A table, the row of who is in it, and how often was heard. -/
structure Room (T : Tbl) (R : List Int) (i : Nat) : Prop where
  ok : TOK T
  ek : EOK T.E
  nd : R.Nodup
  mem : ∀ k, k ∈ R ↔ dGet T.E k ≠ none
  tm : R.Pairwise (fun a b => hd T.E b < hd T.E a)
  bf : ∀ k ∈ R, hd T.E k < i
  lv : ∀ k l, T.lives k = some l → l.boot = 0 ∧ l.left = false ∧ l.W.any = true ∧ 0 ≤ l.W.last ∧ l.W.last < i
  el : ∀ k ∈ R, T.lives k ≠ none
theorem Room.len {T : Tbl} {R : List Int} {i : Nat} (h : Room T R i) : T.E.length = R.length := by
  have hk : ∀ k, k ∈ T.E.map (·.1) ↔ k ∈ R := fun k => by
    rw [h.mem]
    constructor
    · intro hm
      obtain ⟨q, hq, rfl⟩ := List.mem_map.1 hm
      obtain ⟨e, he⟩ := dGet_has (show (q.1, q.2) ∈ T.E from hq)
      rw [he]; simp
    · intro hn
      cases hg : dGet T.E k with
      | none => exact absurd hg hn
      | some e => exact List.mem_map.2 ⟨(k, e), dGet_some hg, rfl⟩
  have h1 := nodup_le h.nd fun x hx => (hk x).2 hx
  have h2 := nodup_le h.ek.nodup fun x hx => (hk x).1 hx
  rw [List.length_map] at h1 h2
  omega
/-- The row when somebody was heard. -/
def rowS (m : Nat) (n : Int) (R : List Int) : List Int := (n :: R.filter (fun x => decide (x ≠ n))).take m
theorem room_hear {T : Tbl} {R : List Int} {i : Nat} {n : Int} (h : Room T R i) (hn : 0 ≤ n ∧ n < 64) (hi : i < 150) :
    ∃ W : Win, W.any = true ∧ W.last = i ∧ hearT T n 0 i i = (0, T.win n 0 i T.E W) := by
  have ha : argsOK n 0 i i := ⟨hn, ⟨by decide, by decide⟩, ⟨by omega, by omega⟩, by omega, by omega⟩
  cases hl : T.lives n with
  | none =>
    refine ⟨⟨true, i, 1⟩, rfl, rfl, hear_new ha hl ?_⟩
    cases hg : dGet T.E n with
    | none => rfl
    | some e => exact absurd hl (h.el n ((h.mem n).2 (by rw [hg]; simp)))
  | some l =>
    obtain ⟨l1, l2, l3, l4, l5⟩ := h.lv n l hl
    have hs : serD l.W.last i = i - l.W.last := by
      unfold serD serOK; rw [if_pos (by omega), if_neg (by omega)]; omega
    have hw : whear l.W i = (0, ⟨true, i, (l.W.seen * 2 ^ (serD l.W.last i).toNat % 18446744073709551616) ||| 1⟩) := by
      unfold whear
      rw [if_neg (by rw [l3]; simp), if_neg (by omega), if_pos (by omega)]
    refine ⟨⟨true, i, (l.W.seen * 2 ^ (serD l.W.last i).toNat % 18446744073709551616) ||| 1⟩, rfl, rfl, ?_⟩
    · unfold hearT
      rw [if_pos ha, hl]
      simp only [if_pos l1, if_neg (show ¬ l.left = true by rw [l2]; simp), hw, if_true]
theorem hd_some {E : List (Int × Ent)} {k : Int} {e : Ent} (h : dGet E k = some e) : hd E k = e.heard := by unfold hd; rw [h]; rfl
theorem hd_of {E E' : List (Int × Ent)} {k : Int} (h : dGet E' k = dGet E k) : hd E' k = hd E k := by unfold hd; rw [h]
theorem room_step {T : Tbl} {R : List Int} {i m : Nat} {n : Int} (h : Room T R i) (hm : T.most = m) (hn : 0 ≤ n ∧ n < 64) (hi : i < 150) :
    ∃ T', hearT T n 0 i i = (0, T') ∧ T'.most = m ∧ Room T' (rowS m n R) (i + 1) := by
  obtain ⟨W, w1, w2, he⟩ := room_hear h hn hi
  obtain ⟨k1, k2, k3⟩ := hearT_ok h.ok h.ek he
  refine ⟨_, he, k3.trans hm, ?_⟩
  have hlen := h.len
  have hle := h.ok.len
  have hmp := h.ok.most
  -- what is true however it goes
  have fin : ∀ R0 : List Int, R0.Sublist R → n ∉ R0 → (∀ k, k ≠ n → (k ∈ R0 ↔ dGet (heardE T.most T.E n 0 i) k ≠ none)) → (∀ k ∈ R0, dGet (heardE T.most T.E n 0 i) k = dGet T.E k) → (∃ e, dGet (heardE T.most T.E n 0 i) n = some e ∧ e.heard = i) →
      Room (T.win n 0 i T.E W) (n :: R0) (i + 1) := fun R0 hs hni hmem hsame hself => by
    obtain ⟨e, he1, he2⟩ := hself
    have hhn : hd (heardE T.most T.E n 0 i) n = i := (hd_some he1).trans he2
    have hbf : ∀ k ∈ R0, hd (heardE T.most T.E n 0 i) k < i := fun k hk => by rw [hd_of (hsame k hk)]; exact h.bf k (hs.subset hk)
    refine ⟨k1, k2, List.nodup_cons.2 ⟨hni, hs.nodup h.nd⟩, fun k => ?_, List.pairwise_cons.2 ⟨fun b hb => ?_, ?_⟩, fun k hk => ?_, fun k l hl => ?_, fun k hk => ?_⟩
    · show k ∈ n :: R0 ↔ dGet (heardE T.most T.E n 0 i) k ≠ none
      by_cases e1 : k = n
      · subst e1; rw [he1]; simp
      · rw [← hmem k e1]; simp [e1]
    · show hd (heardE T.most T.E n 0 i) b < hd (heardE T.most T.E n 0 i) n
      rw [hhn]; exact hbf b hb
    · refine (h.tm.sublist hs).imp_of_mem fun {a b} ha hb hab => ?_
      show hd (heardE T.most T.E n 0 i) b < hd (heardE T.most T.E n 0 i) a
      rw [hd_of (hsame a ha), hd_of (hsame b hb)]; exact hab
    · show hd (heardE T.most T.E n 0 i) k < ((i + 1 : Nat) : Int)
      rcases List.mem_cons.1 hk with rfl | hk
      · rw [hhn]; omega
      · have := hbf k hk; omega
    · have hl : setL T.lives n ⟨0, false, W⟩ k = some l := hl
      unfold setL at hl
      split at hl
      · obtain rfl : _ = l := by simpa using hl
        exact ⟨rfl, rfl, w1, by rw [w2]; omega, by rw [w2]; omega⟩
      · obtain ⟨a1, a2, a3, a4, a5⟩ := h.lv k l hl
        exact ⟨a1, a2, a3, a4, by omega⟩
    · show setL T.lives n ⟨0, false, W⟩ k ≠ none
      unfold setL
      split
      · simp
      · rename_i e1
        rcases List.mem_cons.1 hk with e2 | hk
        · exact absurd e2 e1
        · exact h.el k (hs.subset hk)
  have hfil : (R.filter (fun x => decide (x ≠ n))).Sublist R := List.filter_sublist
  have hnf : n ∉ R.filter (fun x => decide (x ≠ n)) := by simp
  by_cases hin : n ∈ R
  · obtain ⟨e, hg⟩ : ∃ e, dGet T.E n = some e := by
      cases hg : dGet T.E n with
      | none => exact absurd hg ((h.mem n).1 hin)
      | some e => exact ⟨e, rfl⟩
    have hx := heard_there (most := T.most) (boot := 0) (now := i) hg
    have hlt : (R.filter (fun x => decide (x ≠ n))).length < R.length := by
      have := nodup_le (a := n :: R.filter (fun x => decide (x ≠ n))) (b := R) (List.nodup_cons.2 ⟨hnf, hfil.nodup h.nd⟩) fun x hx => by
        rcases List.mem_cons.1 hx with rfl | hx
        · exact hin
        · exact hfil.subset hx
      simp only [List.length_cons] at this; omega
    have e1 : rowS m n R = n :: R.filter (fun x => decide (x ≠ n)) := by unfold rowS; exact List.take_of_length_le (by simp only [List.length_cons]; omega)
    rw [e1]
    refine fin _ hfil hnf (fun k hk => ?_) (fun k hk => ?_) ⟨_, by rw [hx]; exact dGet_put_same _ _ _, rfl⟩
    · rw [hx, dGet_put_ne _ _ hk, ← h.mem]; simp [hk]
    · rw [hx, dGet_put_ne _ _ (by rintro rfl; exact hnf hk)]
  · have hg : dGet T.E n = none := by
      cases hg : dGet T.E n with
      | none => rfl
      | some e => exact absurd ((h.mem n).2 (by rw [hg]; simp)) hin
    have hf : R.filter (fun x => decide (x ≠ n)) = R := List.filter_eq_self.2 fun x hx => by simp; rintro rfl; exact hin hx
    by_cases hr : (T.E.length : Int) < T.most
    · have hx := heard_room (boot := 0) (now := i) hg hr
      have e1 : rowS m n R = n :: R := by unfold rowS; rw [hf]; exact List.take_of_length_le (by simp only [List.length_cons]; omega)
      rw [e1]
      refine fin _ (List.Sublist.refl _) hin (fun k hk => ?_) (fun k hk => ?_) ⟨_, by rw [hx]; exact dGet_put_same _ _ _, rfl⟩
      · rw [hx, dGet_put_ne _ _ hk, ← h.mem]
      · rw [hx, dGet_put_ne _ _ (by rintro rfl; exact hin hk)]
    · have hx := heard_full (most := T.most) (boot := 0) (now := i) hg (by omega)
      have hRm : R.length = m := by omega
      obtain ⟨z, hz, hz2⟩ := elder_in h.ek (by omega)
      have hle2 : ∀ k x, dGet T.E k = some x → z.heard ≤ x.heard := fun k x hk => by
        have := elder_le hk
        rwa [hz2] at this
      rw [hz2] at hz
      obtain ⟨A, y, hA⟩ : ∃ A y, R = A ++ [y] := by
        rcases List.eq_nil_or_concat R with e | ⟨A, y, e⟩
        · rw [e] at hRm; simp at hRm; omega
        · exact ⟨A, y, by simpa using e⟩
      have hyz : z.node = y := by
        have hzm : z.node ∈ R := (h.mem _).2 (by rw [hz]; simp)
        rw [hA] at hzm
        rcases List.mem_append.1 hzm with hzA | hzy
        · have hp := h.tm
          rw [hA, List.pairwise_append] at hp
          have h3 := hp.2.2 _ hzA y (List.mem_singleton.2 rfl)
          have hym : y ∈ R := by rw [hA]; simp
          cases hgy : dGet T.E y with
          | none => exact absurd hgy ((h.mem y).1 hym)
          | some x =>
            have := hle2 y x hgy
            rw [hd_some hgy, hd_some hz] at h3; omega
        · simpa using hzy
      have hlA : A.length + 1 = m := by rw [← hRm, hA]; simp
      have e1 : rowS m n R = n :: A := by
        unfold rowS
        rw [hf, hA, ← hlA, List.take_succ_cons]
        congr 1
        simp
      rw [e1]
      have hyA : y ∉ A := by
        have := h.nd
        rw [hA] at this
        intro hy
        exact (List.nodup_append.1 this).2.2 y hy y (List.mem_singleton.2 rfl) rfl
      have hsub : A.Sublist R := by rw [hA]; exact List.sublist_append_left _ _
      have hnA : n ∉ A := fun hh => hin (hsub.subset hh)
      rw [hz2, hyz] at hx
      refine fin _ hsub hnA (fun k hk => ?_) (fun k hk => ?_) ⟨_, by rw [hx]; exact dGet_put_same _ _ _, rfl⟩
      · rw [hx, dGet_put_ne _ _ hk]
        by_cases e2 : k = y
        · subst e2; rw [dGet_del_same]; simp [hyA]
        · rw [dGet_del_ne _ e2, ← h.mem, hA]; simp [e2]
      · rw [hx, dGet_put_ne _ _ (by rintro rfl; exact hnA hk), dGet_del_ne _ (by rintro rfl; exact hyA hk)]
theorem room_new {m : Int} (hm : 1 ≤ m ∧ m ≤ 64) : Room (Tbl.new m) [] 0 := by
  obtain ⟨a, b⟩ := new_ok m
  exact ⟨a, b, List.nodup_nil, fun k => by simp [Tbl.new, dGet], List.Pairwise.nil, fun k hk => (by cases hk), fun k l hl => (by cases hl), fun k hk => (by cases hk)⟩
end Go.Proofs.Ytpafcfelaaibgaa
