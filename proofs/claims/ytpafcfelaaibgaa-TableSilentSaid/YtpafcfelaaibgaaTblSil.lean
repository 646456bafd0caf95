/-
  The plain law of TableSilent: who goes when the silent are let go.
-/
import Derived.Test.YtpafcfelaaibgaaTblRoom
import Derived.Test.YtpafcfelaaibgaaTblOnce
set_option linter.unusedVariables false
set_option linter.unusedSimpArgs false
namespace Go.Proofs.Ytpafcfelaaibgaa
open Go Go.RowKit Sx

structure SilT (T : Tbl) (x : Int) : Prop where
  ok : TOK T
  ek : EOK T.E
  mo : T.most = 64
  lv : ∀ k l, T.lives k = some l → l.boot = 0 ∧ l.left = false ∧ l.W.any = true ∧ 0 ≤ l.W.last ∧ l.W.last < x
  el : ∀ k, dGet T.E k ≠ none → T.lives k ≠ none
  ks : ∀ k, dGet T.E k ≠ none → 0 ≤ k ∧ k < 16
theorem SilT.len {T : Tbl} {x : Int} (h : SilT T x) : T.E.length ≤ 16 := by
  have := nodup_le (b := (List.range 16).map fun i : Nat => (i : Int)) h.ek.nodup fun k hk => by
    obtain ⟨q, hq, rfl⟩ := List.mem_map.1 hk
    obtain ⟨e, he⟩ := dGet_has (show (q.1, q.2) ∈ T.E from hq)
    obtain ⟨h1, h2⟩ := h.ks q.1 (by rw [he]; simp)
    exact List.mem_map.2 ⟨q.1.toNat, List.mem_range.2 (by omega), by omega⟩
  simpa using this
theorem silT_new : SilT (Tbl.new 64) 0 := by
  obtain ⟨a, b⟩ := new_ok 64
  exact ⟨a, b, rfl, fun k l h => (by cases h), fun k h => absurd rfl h, fun k h => absurd rfl h⟩
theorem silT_hear {T : Tbl} {x q n t : Int} (h : SilT T x) (h0 : 0 ≤ x) (hx : x ≤ q) (hq : q ≤ 1000) (hn : 0 ≤ n ∧ n < 16) (ht : 0 ≤ t ∧ t ≤ 1000000) :
    ∃ T', hearT T n 0 q t = (0, T') ∧ SilT T' (q + 1) ∧ (∃ e, dGet T'.E n = some e ∧ e.heard = t) ∧ ∀ k, k ≠ n → dGet T'.E k = dGet T.E k := by
  have ha : argsOK n 0 q t := ⟨by omega, ⟨by decide, by decide⟩, ⟨by omega, by omega⟩, by omega, by omega⟩
  have hW : ∃ W : Win, W.any = true ∧ W.last = q ∧ hearT T n 0 q t = (0, T.win n 0 t T.E W) := by
    cases hl : T.lives n with
    | none =>
      refine ⟨⟨true, q, 1⟩, rfl, rfl, hear_new ha hl ?_⟩
      cases hg : dGet T.E n with
      | none => rfl
      | some e => exact absurd hl (h.el n (by rw [hg]; simp))
    | some l =>
      obtain ⟨l1, l2, l3, l4, l5⟩ := h.lv n l hl
      have hs : serD l.W.last q = q - l.W.last := by
        unfold serD serOK; rw [if_pos (by omega), if_neg (by omega)]; omega
      have hw : whear l.W q = (0, ⟨true, q, (l.W.seen * 2 ^ (serD l.W.last q).toNat % 18446744073709551616) ||| 1⟩) := by
        unfold whear
        rw [if_neg (by rw [l3]; simp), if_neg (by omega), if_pos (by omega)]
      refine ⟨⟨true, q, (l.W.seen * 2 ^ (serD l.W.last q).toNat % 18446744073709551616) ||| 1⟩, rfl, rfl, ?_⟩
      unfold hearT
      rw [if_pos ha, hl]
      simp only [if_pos l1, if_neg (show ¬ l.left = true by rw [l2]; simp), hw, if_true]
  obtain ⟨W, w1, w2, he⟩ := hW
  obtain ⟨k1, k2, k3⟩ := hearT_ok h.ok h.ek he
  have hlen := h.len
  have hE : ∃ e, e.heard = t ∧ (T.win n 0 t T.E W).E = dPut T.E n e := by
    cases hg : dGet T.E n with
    | some e => exact ⟨_, rfl, heard_there hg⟩
    | none => exact ⟨_, rfl, heard_room hg (by rw [h.mo]; omega)⟩
  obtain ⟨e, e1, e2⟩ := hE
  have hsame : dGet (T.win n 0 t T.E W).E n = some e := by rw [e2, dGet_put_same]
  have hoth : ∀ k, k ≠ n → dGet (T.win n 0 t T.E W).E k = dGet T.E k := fun k hk => by rw [e2, dGet_put_ne _ _ hk]
  refine ⟨_, he, ⟨k1, k2, k3.trans h.mo, fun k l hl => ?_, fun k hk => ?_, fun k hk => ?_⟩, ⟨e, hsame, e1⟩, hoth⟩
  · by_cases hkn : k = n
    · subst hkn
      rw [win_lives'] at hl
      obtain rfl := Option.some.inj hl
      exact ⟨rfl, rfl, w1, by show 0 ≤ W.last; omega, by show W.last < q + 1; omega⟩
    · rw [win_ne hkn] at hl
      obtain ⟨l1, l2, l3, l4, l5⟩ := h.lv k l hl
      exact ⟨l1, l2, l3, l4, by omega⟩
  · by_cases hkn : k = n
    · subst hkn; rw [win_lives']; simp
    · rw [win_ne hkn]; rw [hoth k hkn] at hk; exact h.el k hk
  · by_cases hkn : k = n
    · subst hkn; exact hn
    · rw [hoth k hkn] at hk; exact h.ks k hk
/-! ### Who goes -/
theorem sortK_lt {α : Type} {D : List (Int × α)} (h : (D.map (·.1)).Nodup) : (sortK D).Pairwise (· < ·) := by
  have h1 : (sortK D).Pairwise (fun a b => leZ a b = true) := List.pairwise_mergeSort (le := leZ) (fun a b c h1 h2 => by unfold leZ at *; simp only [decide_eq_true_eq] at *; omega) (fun a b => by unfold leZ; simp only [Bool.or_eq_true, decide_eq_true_eq]; omega) _
  have h2 : (sortK D).Nodup := (sortK_perm D).nodup_iff.2 h
  refine (h1.and h2).imp fun {a b} hab => ?_
  have := hab.1
  unfold leZ at this
  simp only [decide_eq_true_eq] at this
  have := hab.2
  omega
theorem evL_is {E : List (Int × Ent)} (h : EOK E) (p : Ent → Bool) : ∀ r, r ≤ E.length → evL E p r = ((sortK E).take r).filter fun k => p ((dGet E k).getD Ent.zero)
  | 0, _ => rfl
  | r + 1, hr => by
    obtain ⟨k, e, hk, he, hent⟩ := entT_at (E := E) (j := r) (by omega)
    have ih := evL_is h p r (by omega)
    have ht : (sortK E).take (r + 1) = (sortK E).take r ++ [k] := by rw [List.take_add_one, hk]; rfl
    unfold evL
    rw [ht, List.filter_append, ih, hent, h.key k e he]
    by_cases hp : p e = true
    · rw [if_pos hp]; simp [he, hp]
    · rw [if_neg hp]; simp [he, hp]
theorem evE_is {E : List (Int × Ent)} (h : EOK E) (p : Ent → Bool) (k : Int) : ∀ r, r ≤ E.length → dGet (evE E p r) k = if k ∈ ((sortK E).take r).filter (fun k => p ((dGet E k).getD Ent.zero)) then none else dGet E k
  | 0, _ => by simp [evE]
  | r + 1, hr => by
    obtain ⟨k0, e, hk, he, hent⟩ := entT_at (E := E) (j := r) (by omega)
    have ih := evE_is h p k r (by omega)
    have ht : (sortK E).take (r + 1) = (sortK E).take r ++ [k0] := by rw [List.take_add_one, hk]; rfl
    unfold evE
    rw [ht, List.filter_append, hent, h.key k0 e he]
    by_cases hp : p e = true
    · rw [if_pos hp]
      by_cases hkk : k = k0
      · subst hkk
        rw [dGet_del_same, if_pos (by simp [he, hp])]
      · rw [dGet_del_ne _ hkk, ih]
        have : (k ∈ List.filter (fun k => p ((dGet E k).getD Ent.zero)) (List.take r (sortK E)) ++ List.filter (fun k => p ((dGet E k).getD Ent.zero)) [k0]) ↔ k ∈ List.filter (fun k => p ((dGet E k).getD Ent.zero)) (List.take r (sortK E)) := by
          rw [List.mem_append]
          refine or_iff_left fun hm => ?_
          exact hkk (by simpa using (List.mem_filter.1 hm).1)
        simp only [this]
    · rw [if_neg hp, ih]
      have : List.filter (fun k => p ((dGet E k).getD Ent.zero)) [k0] = [] := by simp [he, hp]
      rw [this, List.append_nil]
theorem mem_sortK {α : Type} {E : List (Int × α)} {k : Int} : k ∈ sortK E ↔ ∃ e, dGet E k = some e := by
  rw [(sortK_perm E).mem_iff]
  constructor
  · intro h
    obtain ⟨q, hq, rfl⟩ := List.mem_map.1 h
    exact dGet_has (show (q.1, q.2) ∈ E from hq)
  · rintro ⟨e, he⟩
    exact List.mem_map.2 ⟨(k, e), dGet_some he, rfl⟩
theorem evict_mem {T : Tbl} (h : EOK T.E) (now s k : Int) : k ∈ evictL T now s ↔ ∃ e, dGet T.E k = some e ∧ evP now s e = true := by
  unfold evictL
  rw [evL_is h _ _ (Nat.le_refl _), List.mem_filter, List.take_of_length_le (by rw [sortK_len]; exact Nat.le_refl _), mem_sortK]
  constructor
  · rintro ⟨⟨e, he⟩, hp⟩; rw [he] at hp; exact ⟨e, he, hp⟩
  · rintro ⟨e, he, hp⟩; exact ⟨⟨e, he⟩, by rw [he]; exact hp⟩
theorem evict_lt {T : Tbl} (h : EOK T.E) (now s : Int) : (evictL T now s).Pairwise (· < ·) := by
  unfold evictL
  rw [evL_is h _ _ (Nat.le_refl _), List.take_of_length_le (by rw [sortK_len]; exact Nat.le_refl _)]
  exact (sortK_lt h.nodup).sublist List.filter_sublist
theorem evict_get {T : Tbl} (h : EOK T.E) (now s k : Int) : dGet (T.ev now s).E k = if k ∈ evictL T now s then none else dGet T.E k := by
  show dGet (evE _ _ _) k = _
  rw [evE_is h _ k _ (Nat.le_refl _)]
  unfold evictL
  rw [evL_is h _ _ (Nat.le_refl _)]
theorem silT_ev {T : Tbl} {x : Int} (h : SilT T x) (now s : Int) : SilT (T.ev now s) x := by
  have hm : ∀ k, dGet (T.ev now s).E k ≠ none → dGet T.E k ≠ none := fun k hk => by
    rw [evict_get h.ek] at hk
    split at hk
    · exact absurd rfl hk
    · exact hk
  obtain ⟨e1, e2⟩ := evE_ok h.ek (evP now s) T.E.length
  exact ⟨⟨h.ok.most, by have := h.ok.len; show ((evE _ _ _).length : Int) ≤ _; have : (T.ev now s).most = T.most := rfl; omega, h.ok.seen⟩, e1, h.mo, h.lv, fun k hk => h.el k (hm k hk), fun k hk => h.ks k (hm k hk)⟩
/-- A table and when they were heard. -/
structure Sil (T : Tbl) (D : List (Int × Int)) (x : Nat) (t : Int) : Prop where
  st : SilT T x
  he : ∀ k, dGet D k = (dGet T.E k).map (·.heard)
  dn : (D.map (·.1)).Nodup
  hb : ∀ k v, dGet D k = some v → 0 ≤ v ∧ v ≤ t
theorem sil_new : Sil (Tbl.new 64) [] 0 0 := ⟨silT_new, fun k => rfl, List.nodup_nil, fun k v h => by cases h⟩
theorem sil_hear {T : Tbl} {D : List (Int × Int)} {x : Nat} {t n t' : Int} (h : Sil T D x t) (hx : x ≤ 1000) (hn : 0 ≤ n ∧ n < 16) (ht : 0 ≤ t' ∧ t' ≤ 1000000) (htt : t ≤ t') :
    ∃ T', hearT T n 0 x t' = (0, T') ∧ Sil T' (dPut D n t') (x + 1) t' := by
  obtain ⟨T', e1, e2, ⟨e, e3, e4⟩, e5⟩ := silT_hear (q := x) h.st (by omega) (Int.le_refl _) (by omega) hn ht
  refine ⟨T', e1, by simpa using e2, fun k => ?_, put_nodup h.dn, fun k v hv => ?_⟩
  · by_cases hk : k = n
    · subst hk; rw [dGet_put_same, e3]; simp [e4]
    · rw [dGet_put_ne _ _ hk, e5 k hk]; exact h.he k
  · by_cases hk : k = n
    · subst hk; rw [dGet_put_same] at hv; obtain rfl := Option.some.inj hv; omega
    · rw [dGet_put_ne _ _ hk] at hv; have := h.hb k v hv; omega
theorem sil_gone {T : Tbl} {D : List (Int × Int)} {x : Nat} {t now s : Int} (h : Sil T D x t) (hs : 1 ≤ s) (k : Int) : k ∈ evictL T now s ↔ ∃ v, dGet D k = some v ∧ v + s ≤ now := by
  rw [evict_mem h.st.ek]
  constructor
  · rintro ⟨e, he, hp⟩
    unfold evP at hp
    simp only [Bool.and_eq_true, decide_eq_true_eq] at hp
    exact ⟨e.heard, by rw [h.he k, he]; rfl, by omega⟩
  · rintro ⟨v, hv, hp⟩
    rw [h.he k] at hv
    cases he : dGet T.E k with
    | none => rw [he] at hv; cases hv
    | some e =>
      have hv0 := (h.hb k e.heard (by rw [h.he k, he]; rfl)).1
      rw [he] at hv
      simp only [Option.map_some, Option.some.injEq] at hv
      refine ⟨e, rfl, ?_⟩
      unfold evP
      simp only [Bool.and_eq_true, decide_eq_true_eq]
      omega
end Go.Proofs.Ytpafcfelaaibgaa
