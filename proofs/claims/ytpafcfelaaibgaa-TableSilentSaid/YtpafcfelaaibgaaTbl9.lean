/-
  Hear, told by one function; what every program must know of tables.
-/
import Derived.Test.YtpafcfelaaibgaaTbl8
set_option linter.unusedVariables false
set_option linter.unusedSimpArgs false
namespace Go.Proofs.Ytpafcfelaaibgaa
open Go Go.RowKit Sx

instance (n boot seq now : Int) : Decidable (argsOK n boot seq now) := by unfold argsOK; infer_instance
/-- A table as it may be. -/
structure TOK (T : Tbl) : Prop where
  most : 1 ≤ T.most ∧ T.most ≤ 64
  len : T.E.length ≤ T.most
  seen : ∀ n l, T.lives n = some l → l.W.seen < 18446744073709551616
def Tbl.win (T : Tbl) (n boot now : Int) (E : List (Int × Ent)) (W : Win) : Tbl := ⟨T.most, heardE T.most E n boot now, setL T.lives n ⟨boot, false, W⟩⟩
/-- What Hear answers, and the table then. -/
def hearT (T : Tbl) (n boot seq now : Int) : Int × Tbl :=
  if argsOK n boot seq now then
    match T.lives n with
    | none => (0, T.win n boot now (begE T.E n) ⟨true, seq, 1⟩)
    | some l =>
      if l.boot = boot then
        if l.left = true then (9, T)
        else if (whear l.W seq).1 = 0 then (0, T.win n boot now T.E (whear l.W seq).2)
        else (9, ⟨T.most, T.E, setL T.lives n ⟨boot, false, (whear l.W seq).2⟩⟩)
      else if 0 < serD l.boot boot ∧ serD l.boot boot < 32768 then (0, T.win n boot now (begE T.E n) ⟨true, seq, 1⟩)
      else (9, T)
  else (1, T)
theorem whear_err (W : Win) (q : Int) : (whear W q).1 = 0 ∨ (whear W q).1 = 9 := by
  unfold whear
  split
  · exact .inl rfl
  split
  · exact .inr rfl
  split
  · exact .inl rfl
  split
  · exact .inr rfl
  · exact .inl rfl
theorem whear_seen (W : Win) (q : Int) (h : W.seen < 18446744073709551616) : (whear W q).2.seen < 18446744073709551616 := by
  unfold whear
  split
  · show 1 < _; decide
  split
  · exact h
  split
  · exact Nat.or_lt_two_pow (n := 64) (Nat.mod_lt _ (by decide)) (by decide)
  split
  · exact h
  · exact Nat.or_lt_two_pow (n := 64) h (bitW_lt _ _)
theorem len_put {α : Type} (D : List (Int × α)) (k : Int) (a : α) : (dPut D k a).length = if dGet D k = none then D.length + 1 else D.length := by
  unfold dPut
  cases hg : dGet D k with
  | none => simp
  | some b => simp
theorem len_del_le {α : Type} (D : List (Int × α)) (k : Int) : (dDel D k).length ≤ D.length := List.length_filter_le _ _
theorem heard_there {most : Int} {E : List (Int × Ent)} {n boot now : Int} {e : Ent} (h : dGet E n = some e) : heardE most E n boot now = dPut E n ⟨n, boot, now, e.has, e.x, e.y, e.a, e.b, e.d, e.when_⟩ := by
  unfold heardE
  rw [if_neg (by rw [h]; simp), h]; rfl
theorem heard_room {most : Int} {E : List (Int × Ent)} {n boot now : Int} (h : dGet E n = none) (hl : (E.length : Int) < most) : heardE most E n boot now = dPut E n ⟨n, boot, now, false, 0, 0, 0, 0, 0, 0⟩ := by
  unfold heardE
  rw [if_neg (by omega), h]; rfl
theorem heard_full {most : Int} {E : List (Int × Ent)} {n boot now : Int} (h : dGet E n = none) (hl : most ≤ (E.length : Int)) : heardE most E n boot now = dPut (dDel E (minT (entT E) E.length).node) n ⟨n, boot, now, false, 0, 0, 0, 0, 0, 0⟩ := by
  unfold heardE
  rw [if_pos ⟨h, hl⟩, h]; rfl
theorem beg_len (E : List (Int × Ent)) (n : Int) : (begE E n).length = E.length := by
  unfold begE
  cases h : dGet E n with
  | none => rfl
  | some e => simp only; rw [len_put, h]; simp
theorem beg_none {E : List (Int × Ent)} {n : Int} (h : dGet E n = none) : begE E n = E := by unfold begE; rw [h]
theorem beg_some {E : List (Int × Ent)} {n : Int} {e : Ent} (h : dGet E n = some e) : begE E n = dPut E n ⟨n, e.boot, e.heard, false, 0, 0, 0, 0, 0, 0⟩ := by unfold begE; rw [h]
set_option maxHeartbeats 1000000 in
theorem cHear (T : Tbl) (ok : TOK T) (n boot seq now e : Int) (T' : Tbl) (he : hearT T n boot seq now = (e, T')) (i : Nat) (h : List (Option Chunk)) (hi : h[i]? = some (some (tblC T))) :
    CallOK Try.prog 10 [.pointer (some ⟨i, 0, some 0⟩), .int .i64 n, .int .i64 boot, .int .i64 seq, .int .i64 now] h (.int .i64 e) [(i, tblC T')] [] := by
  obtain ⟨m1, m2⟩ := ok.most
  have hlen := ok.len
  have hl64 : T.E.length ≤ 64 := by omega
  unfold hearT at he
  by_cases ha : argsOK n boot seq now
  · rw [if_pos ha] at he
    cases hl : T.lives n with
    | none =>
      rw [hl] at he
      obtain ⟨rfl, rfl⟩ := Prod.mk.inj he
      unfold Tbl.win
      cases hE : dGet T.E n with
      | some e0 => rw [beg_some hE]; exact cHearNYthere T n boot seq now ha hl e0 hE _ (heard_there (dGet_put_same _ _ _)) i h hi
      | none =>
        rw [beg_none hE]
        by_cases hr : (T.E.length : Int) < T.most
        · exact cHearNNroom T n boot seq now ha hl hE hr _ (heard_room hE hr) i h hi
        · exact cHearNNfull T n boot seq now ha hl hE (by omega) hl64 (by omega) _ (heard_full hE (by omega)) i h hi
    | some l =>
      rw [hl] at he
      simp only at he
      have hs := ok.seen n l hl
      by_cases hb : l.boot = boot
      · rw [if_pos hb] at he
        cases hlf : l.left with
        | true =>
          rw [if_pos hlf] at he
          obtain ⟨rfl, rfl⟩ := Prod.mk.inj he
          exact cHearA T n boot seq now ha l hl hb hlf i h hi
        | false =>
          rw [if_neg (by rw [hlf]; decide)] at he
          obtain ⟨e1, W1, hw⟩ : ∃ e1 W1, whear l.W seq = (e1, W1) := ⟨_, _, rfl⟩
          have herr := whear_err l.W seq
          rw [hw] at he herr
          simp only at he herr
          rcases herr with rfl | rfl
          · rw [if_pos rfl] at he
            obtain ⟨rfl, rfl⟩ := Prod.mk.inj he
            unfold Tbl.win
            cases hE : dGet T.E n with
            | some e0 => exact cHearKthere T n boot seq now ha l hl hb hlf hs W1 hw e0 hE _ (heard_there hE) i h hi
            | none =>
              by_cases hr : (T.E.length : Int) < T.most
              · exact cHearKroom T n boot seq now ha l hl hb hlf hs W1 hw hE hr _ (heard_room hE hr) i h hi
              · exact cHearKfull T n boot seq now ha l hl hb hlf hs W1 hw hE (by omega) hl64 (by omega) _ (heard_full hE (by omega)) i h hi
          · rw [if_neg (by decide)] at he
            obtain ⟨rfl, rfl⟩ := Prod.mk.inj he
            exact cHearDup T n boot seq now ha l hl hb hlf hs W1 hw i h hi
      · rw [if_neg hb] at he
        by_cases hsd : 0 < serD l.boot boot ∧ serD l.boot boot < 32768
        · rw [if_pos hsd] at he
          obtain ⟨rfl, rfl⟩ := Prod.mk.inj he
          unfold Tbl.win
          cases hE : dGet T.E n with
          | some e0 => rw [beg_some hE]; exact cHearOYthere T n boot seq now ha l hl hb hsd e0 hE _ (heard_there (dGet_put_same _ _ _)) i h hi
          | none =>
            rw [beg_none hE]
            by_cases hr : (T.E.length : Int) < T.most
            · exact cHearONroom T n boot seq now ha l hl hb hsd hE hr _ (heard_room hE hr) i h hi
            · exact cHearONfull T n boot seq now ha l hl hb hsd hE (by omega) hl64 (by omega) _ (heard_full hE (by omega)) i h hi
        · rw [if_neg hsd] at he
          obtain ⟨rfl, rfl⟩ := Prod.mk.inj he
          exact cHearC T n boot seq now ha l hl hb hsd i h hi
  · rw [if_neg ha] at he
    obtain ⟨rfl, rfl⟩ := Prod.mk.inj he
    exact cHearArg T n boot seq now ha i h hi
/-- Entries as they may be: no node twice, each under its own. -/
structure EOK (E : List (Int × Ent)) : Prop where
  nodup : (E.map (·.1)).Nodup
  key : ∀ k e, dGet E k = some e → e.node = k
theorem put_nodup {α : Type} {D : List (Int × α)} {k : Int} {a : α} (h : (D.map (·.1)).Nodup) : ((dPut D k a).map (·.1)).Nodup := by
  unfold dPut
  cases hg : dGet D k with
  | none =>
    simp only [List.map_append, List.map_cons, List.map_nil]
    refine List.nodup_append.2 ⟨h, by simp, fun x hx y hy e => ?_⟩
    simp only [List.mem_singleton] at hy
    obtain ⟨q, hq, rfl⟩ := List.mem_map.1 hx
    exact dGet_none.1 hg q hq (e.trans hy)
  | some b =>
    simp only [List.map_map]
    have : (fun q : Int × α => (if q.1 = k then (k, a) else q).1) = fun q => q.1 := by
      funext q
      by_cases e : q.1 = k
      · rw [if_pos e, e]
      · rw [if_neg e]
    simpa [Function.comp_def, this] using h
theorem del_nodup {α : Type} {D : List (Int × α)} {k : Int} (h : (D.map (·.1)).Nodup) : ((dDel D k).map (·.1)).Nodup := (List.filter_sublist.map _).nodup h
theorem EOK.put {E : List (Int × Ent)} (h : EOK E) (e : Ent) : EOK (dPut E e.node e) := ⟨put_nodup h.nodup, fun k x hx => by
  by_cases hk : k = e.node
  · subst hk; rw [dGet_put_same] at hx; obtain rfl : e = x := by simpa using hx
    rfl
  · rw [dGet_put_ne _ _ hk] at hx; exact h.key k x hx⟩
theorem EOK.del {E : List (Int × Ent)} (h : EOK E) (n : Int) : EOK (dDel E n) := ⟨del_nodup h.nodup, fun k x hx => by
  by_cases hk : k = n
  · subst hk; rw [dGet_del_same] at hx; cases hx
  · rw [dGet_del_ne _ hk] at hx; exact h.key k x hx⟩
theorem EOK.nil : EOK [] := ⟨List.nodup_nil, fun k e h => by simp [dGet] at h⟩
theorem EOK.beg {E : List (Int × Ent)} (h : EOK E) (n : Int) : EOK (begE E n) := by
  cases hg : dGet E n with
  | none => rw [beg_none hg]; exact h
  | some e => rw [beg_some hg]; exact h.put ⟨n, e.boot, e.heard, false, 0, 0, 0, 0, 0, 0⟩
theorem minT_mem (T : Nat → Ent) : ∀ n, 1 ≤ n → ∃ j, j < n ∧ minT T n = T j
  | 0, h => absurd h (by decide)
  | 1, _ => ⟨0, by decide, rfl⟩
  | r + 2, _ => by
    obtain ⟨j, hj, e⟩ := minT_mem T (r + 1) (by omega)
    rw [minT_step T (r + 1) (by omega)]
    split
    · exact ⟨r + 1, by omega, rfl⟩
    · exact ⟨j, by omega, e⟩
theorem entT_at {E : List (Int × Ent)} {j : Nat} (h : j < E.length) : ∃ k e, (sortK E)[j]? = some k ∧ dGet E k = some e ∧ entT E j = e := by
  obtain ⟨k, hk, e0, he0⟩ := sortK_get h
  obtain ⟨e, he⟩ := dGet_has he0
  exact ⟨k, e, hk, he, entT_in hk he⟩
/-- The eldest is there. -/
theorem elder_in {E : List (Int × Ent)} (h : EOK E) (hp : 0 < E.length) : ∃ e, dGet E (minT (entT E) E.length).node = some e ∧ minT (entT E) E.length = e := by
  obtain ⟨j, hj, e1⟩ := minT_mem (entT E) E.length hp
  obtain ⟨k, e, _, he, e2⟩ := entT_at hj
  rw [e1, e2, h.key k e he]; exact ⟨e, he, rfl⟩
theorem del_len {α : Type} {D : List (Int × α)} {k : Int} {a : α} (h : dGet D k = some a) : (dDel D k).length < D.length := by
  have hm := dGet_some h
  induction D with
  | nil => cases hm
  | cons q D ih =>
    unfold dDel
    rw [List.filter_cons]
    by_cases e : q.1 = k
    · rw [if_neg (by simp [e])]
      have := len_del_le D k
      unfold dDel at this
      simp only [List.length_cons]; omega
    · rw [if_pos (by simp [e])]
      have h' : dGet D k = some a := by
        unfold dGet at h ⊢
        rw [List.find?_cons] at h
        simpa [e] using h
      have := ih h' (dGet_some h')
      unfold dDel at this
      simp only [List.length_cons]; omega
theorem heard_ok {most : Int} {E : List (Int × Ent)} (h : EOK E) (n boot now : Int) : EOK (heardE most E n boot now) := by
  unfold heardE
  split
  · exact (h.del _).put { (dGet E n).getD Ent.zero with node := n, boot := boot, heard := now }
  · exact h.put { (dGet E n).getD Ent.zero with node := n, boot := boot, heard := now }
theorem heard_len {most : Int} {E : List (Int × Ent)} (h : EOK E) (n boot now : Int) (hm : 1 ≤ most) (hl : (E.length : Int) ≤ most) : ((heardE most E n boot now).length : Int) ≤ most := by
  cases hg : dGet E n with
  | some e => rw [heard_there hg, len_put, if_neg (by rw [hg]; simp)]; exact hl
  | none =>
    by_cases hr : (E.length : Int) < most
    · rw [heard_room hg hr, len_put, if_pos hg]; omega
    · rw [heard_full hg (by omega)]
      obtain ⟨e, he, _⟩ := elder_in h (by omega)
      have h1 := del_len he
      rw [len_put]
      split <;> omega
theorem hearT_ok {T T' : Tbl} {n boot seq now e : Int} (ok : TOK T) (hk : EOK T.E) (he : hearT T n boot seq now = (e, T')) : TOK T' ∧ EOK T'.E ∧ T'.most = T.most := by
  obtain ⟨m1, m2⟩ := ok.most
  have win : ∀ E W, EOK E → (E.length : Int) ≤ T.most → W.seen < 18446744073709551616 → TOK (T.win n boot now E W) ∧ EOK (T.win n boot now E W).E ∧ (T.win n boot now E W).most = T.most := fun E W hE hl hW => by
    refine ⟨⟨ok.most, heard_len hE n boot now m1 hl, fun m l hl' => ?_⟩, heard_ok hE n boot now, rfl⟩
    unfold Tbl.win setL at hl'
    simp only at hl'
    split at hl'
    · obtain rfl : _ = l := by simpa using hl'
      exact hW
    · exact ok.seen m l hl'
  have hb : ((begE T.E n).length : Int) ≤ T.most := by rw [beg_len]; exact ok.len
  unfold hearT at he
  split at he
  · split at he
    · obtain ⟨rfl, rfl⟩ := Prod.mk.inj he
      exact win _ _ (hk.beg n) hb (by show 1 < _; decide)
    · rename_i l hl
      have hs := ok.seen n l hl
      split at he
      · split at he
        · obtain ⟨rfl, rfl⟩ := Prod.mk.inj he; exact ⟨ok, hk, rfl⟩
        · split at he
          · obtain ⟨rfl, rfl⟩ := Prod.mk.inj he
            exact win _ _ hk ok.len (whear_seen _ _ hs)
          · obtain ⟨rfl, rfl⟩ := Prod.mk.inj he
            refine ⟨⟨ok.most, ok.len, fun m l' hl' => ?_⟩, hk, rfl⟩
            unfold setL at hl'
            simp only at hl'
            split at hl'
            · obtain rfl : _ = l' := by simpa using hl'
              exact whear_seen _ _ hs
            · exact ok.seen m l' hl'
      · split at he
        · obtain ⟨rfl, rfl⟩ := Prod.mk.inj he
          exact win _ _ (hk.beg n) hb (by show 1 < _; decide)
        · obtain ⟨rfl, rfl⟩ := Prod.mk.inj he; exact ⟨ok, hk, rfl⟩
  · obtain ⟨rfl, rfl⟩ := Prod.mk.inj he; exact ⟨ok, hk, rfl⟩
theorem new_ok (most : Int) : TOK (Tbl.new most) ∧ EOK (Tbl.new most).E := ⟨⟨by unfold Tbl.new; simp only; omega, by unfold Tbl.new; simp only [List.length_nil]; omega, fun n l h => by cases h⟩, EOK.nil⟩
end Go.Proofs.Ytpafcfelaaibgaa
