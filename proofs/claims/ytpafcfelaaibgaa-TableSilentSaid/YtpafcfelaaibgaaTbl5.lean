/-
  The walks of Len, Get, Leave.
-/
import Derived.Test.YtpafcfelaaibgaaTbl4
set_option linter.unusedVariables false
set_option linter.unusedSimpArgs false
namespace Go.Proofs.Ytpafcfelaaibgaa
open Go Go.RowKit Sx

theorem dGet_put_same {α : Type} (D : List (Int × α)) (k : Int) (a : α) : dGet (dPut D k a) k = some a := by
  unfold dPut
  cases hg : dGet D k with
  | none =>
    simp only
    have : (D ++ [(k, a)]).find? (fun q => decide (q.1 = k)) = some (k, a) := by
      rw [List.find?_append, List.find?_eq_none.2 (by simpa using dGet_none.1 hg)]
      simp
    simp [dGet, this]
  | some b =>
    simp only
    have hm := dGet_some hg
    induction D with
    | nil => cases hm
    | cons q D ih =>
      unfold dGet
      rw [List.map_cons, List.find?_cons]
      by_cases e : q.1 = k
      · simp [e]
      · have h1 : decide ((if q.1 = k then (k, a) else q).1 = k) = false := by rw [if_neg e]; simp [e]
        rw [h1]
        have hg' : dGet D k = some b := by
          unfold dGet at hg
          rw [List.find?_cons] at hg
          simpa [e, dGet] using hg
        exact ih hg' (dGet_some hg')
theorem dGet_put_ne {α : Type} (D : List (Int × α)) {k n : Int} (a : α) (h : n ≠ k) : dGet (dPut D k a) n = dGet D n := by
  unfold dPut
  cases hg : dGet D k with
  | none =>
    simp only
    unfold dGet
    rw [List.find?_append]
    cases D.find? (fun q => decide (q.1 = n)) with
    | none => simp [Ne.symm h]
    | some x => simp
  | some b =>
    simp only
    clear hg
    unfold dGet
    induction D with
    | nil => rfl
    | cons q D ih =>
      rw [List.map_cons, List.find?_cons, List.find?_cons]
      by_cases e : q.1 = k
      · have h1 : decide (q.1 = n) = false := by simp [e, Ne.symm h]
        have h2 : decide ((if q.1 = k then (k, a) else q).1 = n) = false := by rw [if_pos e]; simp [Ne.symm h]
        rw [h1, h2]; exact ih
      · rw [if_neg e]
        cases decide (q.1 = n) with
        | true => rfl
        | false => exact ih
theorem dGet_del_same {α : Type} (D : List (Int × α)) (k : Int) : dGet (dDel D k) k = none := dGet_none.2 fun q hq => by
  have := (List.mem_filter.1 hq).2
  simpa using this
theorem dGet_del_ne {α : Type} (D : List (Int × α)) {k n : Int} (h : n ≠ k) : dGet (dDel D k) n = dGet D n := by
  unfold dGet dDel
  induction D with
  | nil => rfl
  | cons q D ih =>
    by_cases e : q.1 = k
    · rw [List.filter_cons, if_neg (by simp [e]), List.find?_cons]
      have h1 : decide (q.1 = n) = false := by simp [e, Ne.symm h]
      rw [h1]; exact ih
    · rw [List.filter_cons, if_pos (by simp [e]), List.find?_cons, List.find?_cons]
      cases decide (q.1 = n) with
      | true => rfl
      | false => exact ih
/-- A life is put in another's place. -/
def setL (lv : Int → Option Life) (n : Int) (l : Life) (m : Int) : Option Life := if m = n then some l else lv m
/-- What is known of a life is told anew: the same window. -/
theorem livesOK_same {lv : Int → Option Life} {β : LB} (h : livesOK lv β) {n : Int} {r : LifR} {W : Win} (hg : dGet β.D n = some r) (hW : (r.q, W) ∈ β.F) (hl : lv n = some ⟨r.boot, r.left, W⟩) (b : Int) (l : Bool) : livesOK (setL lv n ⟨b, l, W⟩) ⟨dPut β.D n ⟨b, l, r.q⟩, β.F⟩ := by
  obtain ⟨h1, h2, h3⟩ := h
  have key : ∀ m s, dGet (dPut β.D n ⟨b, l, r.q⟩) m = some s → (m = n ∧ s = ⟨b, l, r.q⟩) ∨ (m ≠ n ∧ dGet β.D m = some s) := fun m s hs => by
    by_cases e : m = n
    · subst e; rw [dGet_put_same] at hs; exact .inl ⟨rfl, by simpa using hs.symm⟩
    · rw [dGet_put_ne _ _ e] at hs; exact .inr ⟨e, hs⟩
  refine ⟨fun m hm => ?_, fun m s hs => ?_, fun m m' s s' hs hs' e => ?_⟩
  · by_cases e : m = n
    · subst e; rw [dGet_put_same] at hm; cases hm
    · rw [dGet_put_ne _ _ e] at hm
      unfold setL; rw [if_neg e]; exact h1 m hm
  · rcases key m s hs with ⟨rfl, rfl⟩ | ⟨e, hs⟩
    · exact ⟨W, hW, by unfold setL; rw [if_pos rfl]⟩
    · obtain ⟨W', hW', hl'⟩ := h2 m s hs
      exact ⟨W', hW', by unfold setL; rw [if_neg e]; exact hl'⟩
  · have k1 := key m s hs
    have k2 := key m' s' hs'
    clear hs hs'
    rcases k1 with ⟨rfl, rfl⟩ | ⟨e1, hs⟩ <;> rcases k2 with ⟨rfl, rfl⟩ | ⟨e2, hs'⟩
    · rfl
    · exact h3 _ _ _ _ hg hs' e
    · exact h3 _ _ _ _ hs hg e
    · exact h3 _ _ _ _ hs hs' e
set_option maxRecDepth 100000 in
set_option maxHeartbeats 2000000 in
theorem cLenT (T : Tbl)  (i : Nat) (h : List (Option Chunk)) (hi : h[i]? = some (some (tblC T))) :
    CallOK Try.prog 11 [.pointer (some ⟨i, 0, some 0⟩)] h (.int .i64 (T.E.length : Nat)) [(i, tblC (T))] [] := by
  refine call_res (G := tys) (livesOK T.lives) (tblH T) [⟨i, tblC T, tblC T, tblC (T)⟩] [] [.pointer (some ⟨0, 0, some 0⟩)] tysOK mixed Try.func11 (by rfl) (Try.call11) ⟨hi, trivial⟩ ⟨⟨fun h => ⟨rfl, Nat.le_refl _⟩, Nat.le_refl _, fun j hj => absurd hj (Nat.not_lt_zero j)⟩, trivial⟩ (by simp [Apart]) ⟨.inr ⟨rfl, rfl⟩, trivial⟩ trivial ⟨.ptr rfl, trivial⟩ pack_opens ?_
  intro β hβ
  repeat' (refine N.go ?_; first | with_reducible refine N.obl (by decide) ?_ | with_reducible refine N.obl (flat_wi _ _ _) ?_ | with_reducible refine N.obl (flat_lim _ _) ?_ | with_reducible refine N.eq ?_ | with_reducible refine N.obl rfl ?_ | with_reducible refine N.obl ⟨by kernel_rfl, by kernel_rfl⟩ ?_ | with_reducible refine N.forkT ?_ | with_reducible refine N.forkF ?_ | refine N_lenM entV T.E rfl rfl Try.underlying64 ?_ | refine tblClose (T) β 0 1 2 [] tbl_piece (fun i hi => .inl (by simpa using hi)) hβ (by rfl) (by rfl) (by rfl) (by rfl) (by rfl) (by rfl) (by rfl) (by rfl) (by rfl) (by decide) (fun k hk => by cases hk) safe0 (plain_sc rfl) ?_ | refine N.obl (.plain rfl) ?_ | refine N.obl ⟨⟨_, rfl, id, Nat.le_refl _, fun j hj => absurd hj (Nat.not_lt_zero j)⟩, trivial⟩ ?_ | refine N.obl trivial ?_ | refine N.obl ⟨⟨.inr ⟨_, rfl, rfl⟩, trivial⟩, trivial⟩ ?_ | exact N.true | fail_if_success skip)
set_option maxRecDepth 100000 in
set_option maxHeartbeats 2000000 in
theorem cGetY (T : Tbl) (n : Int) (e : Ent) (hg : dGet T.E n = some e) (i : Nat) (h : List (Option Chunk)) (hi : h[i]? = some (some (tblC T))) :
    CallOK Try.prog 12 [.pointer (some ⟨i, 0, some 0⟩), .int .i64 n] h (.tuple ⟨[entV e, .bool true]⟩) [(i, tblC (T))] [] := by
  refine call_res (G := tys) (livesOK T.lives) (tblH T) [⟨i, tblC T, tblC T, tblC (T)⟩] [] [.pointer (some ⟨0, 0, some 0⟩), .int .i64 n] tysOK mixed Try.func12 (by rfl) (Try.call12) ⟨hi, trivial⟩ ⟨⟨fun h => ⟨rfl, Nat.le_refl _⟩, Nat.le_refl _, fun j hj => absurd hj (Nat.not_lt_zero j)⟩, trivial⟩ (by simp [Apart]) ⟨.inr ⟨rfl, rfl⟩, trivial⟩ trivial ⟨.ptr rfl, .plain rfl, trivial⟩ pack_opens ?_
  intro β hβ
  repeat' (refine N.go ?_; first | with_reducible refine N.obl (by decide) ?_ | with_reducible refine N.obl (flat_wi _ _ _) ?_ | with_reducible refine N.obl (flat_lim _ _) ?_ | with_reducible refine N.eq ?_ | with_reducible refine N.obl rfl ?_ | with_reducible refine N.obl ⟨by kernel_rfl, by kernel_rfl⟩ ?_ | with_reducible refine N.forkT ?_ | with_reducible refine N.forkF ?_ | refine N_look entV T.E rfl Try.underlying64 Try.underlying3 Try.type36 rfl (.tuple ⟨[entV e, .bool true]⟩) (by rw [hg]; rfl) rfl ?_ | refine tblClose (T) β 0 1 2 [] tbl_piece (fun i hi => .inl (by simpa using hi)) hβ (by rfl) (by rfl) (by rfl) (by rfl) (by rfl) (by rfl) (by rfl) (by rfl) (by rfl) (by decide) (fun k hk => by cases hk) safe0 (plain_sc rfl) ?_ | refine N.obl (.plain rfl) ?_ | refine N.obl ⟨⟨_, rfl, id, Nat.le_refl _, fun j hj => absurd hj (Nat.not_lt_zero j)⟩, trivial⟩ ?_ | refine N.obl trivial ?_ | refine N.obl ⟨⟨.inr ⟨_, rfl, rfl⟩, trivial⟩, trivial⟩ ?_ | exact N.true | fail_if_success skip)
set_option maxRecDepth 100000 in
set_option maxHeartbeats 2000000 in
theorem cGetN (T : Tbl) (n : Int) (hg : dGet T.E n = none) (i : Nat) (h : List (Option Chunk)) (hi : h[i]? = some (some (tblC T))) :
    CallOK Try.prog 12 [.pointer (some ⟨i, 0, some 0⟩), .int .i64 n] h (.tuple ⟨[entV Ent.zero, .bool false]⟩) [(i, tblC (T))] [] := by
  refine call_res (G := tys) (livesOK T.lives) (tblH T) [⟨i, tblC T, tblC T, tblC (T)⟩] [] [.pointer (some ⟨0, 0, some 0⟩), .int .i64 n] tysOK mixed Try.func12 (by rfl) (Try.call12) ⟨hi, trivial⟩ ⟨⟨fun h => ⟨rfl, Nat.le_refl _⟩, Nat.le_refl _, fun j hj => absurd hj (Nat.not_lt_zero j)⟩, trivial⟩ (by simp [Apart]) ⟨.inr ⟨rfl, rfl⟩, trivial⟩ trivial ⟨.ptr rfl, .plain rfl, trivial⟩ pack_opens ?_
  intro β hβ
  repeat' (refine N.go ?_; first | with_reducible refine N.obl (by decide) ?_ | with_reducible refine N.obl (flat_wi _ _ _) ?_ | with_reducible refine N.obl (flat_lim _ _) ?_ | with_reducible refine N.eq ?_ | with_reducible refine N.obl rfl ?_ | with_reducible refine N.obl ⟨by kernel_rfl, by kernel_rfl⟩ ?_ | with_reducible refine N.forkT ?_ | with_reducible refine N.forkF ?_ | refine N_look entV T.E rfl Try.underlying64 Try.underlying3 Try.type36 rfl (.tuple ⟨[entV Ent.zero, .bool false]⟩) (by rw [hg]; rfl) rfl ?_ | refine tblClose (T) β 0 1 2 [] tbl_piece (fun i hi => .inl (by simpa using hi)) hβ (by rfl) (by rfl) (by rfl) (by rfl) (by rfl) (by rfl) (by rfl) (by rfl) (by rfl) (by decide) (fun k hk => by cases hk) safe0 (plain_sc rfl) ?_ | refine N.obl (.plain rfl) ?_ | refine N.obl ⟨⟨_, rfl, id, Nat.le_refl _, fun j hj => absurd hj (Nat.not_lt_zero j)⟩, trivial⟩ ?_ | refine N.obl trivial ?_ | refine N.obl ⟨⟨.inr ⟨_, rfl, rfl⟩, trivial⟩, trivial⟩ ?_ | exact N.true | fail_if_success skip)
theorem livesOK_some {lv : Int → Option Life} {β : LB} (h : livesOK lv β) {n : Int} {l : Life} (hl : lv n = some l) : ∃ q, dGet β.D n = some ⟨l.boot, l.left, q⟩ ∧ (q, l.W) ∈ β.F := by
  cases hg : dGet β.D n with
  | none => rw [h.1 n hg] at hl; cases hl
  | some r =>
    obtain ⟨W, h1, h2⟩ := h.2.1 n r hg
    rw [h2] at hl
    obtain rfl : _ = l := by simpa using hl
    exact ⟨r.q, rfl, h1⟩
theorem livesOK_none {lv : Int → Option Life} {β : LB} (h : livesOK lv β) {n : Int} (hl : lv n = none) : dGet β.D n = none := by
  cases hg : dGet β.D n with
  | none => rfl
  | some r =>
    obtain ⟨W, _, h2⟩ := h.2.1 n r hg
    rw [h2] at hl; cases hl
set_option maxRecDepth 100000 in
set_option maxHeartbeats 2000000 in
theorem cLeaveY (T : Tbl) (n : Int) (hn : 0 ≤ n ∧ n < 64) (l : Life) (hl : T.lives n = some l) (i : Nat) (h : List (Option Chunk)) (hi : h[i]? = some (some (tblC T))) :
    CallOK Try.prog 15 [.pointer (some ⟨i, 0, some 0⟩), .int .i64 n] h (.bool true) [(i, tblC (⟨T.most, dDel T.E n, setL T.lives n ⟨l.boot, true, l.W⟩⟩))] [] := by
  refine call_res (G := tys) (livesOK T.lives) (tblH T) [⟨i, tblC T, tblC T, tblC (⟨T.most, dDel T.E n, setL T.lives n ⟨l.boot, true, l.W⟩⟩)⟩] [] [.pointer (some ⟨0, 0, some 0⟩), .int .i64 n] tysOK mixed Try.func15 (by rfl) (Try.call15) ⟨hi, trivial⟩ ⟨⟨fun h => ⟨rfl, Nat.le_refl _⟩, Nat.le_refl _, fun j hj => absurd hj (Nat.not_lt_zero j)⟩, trivial⟩ (by simp [Apart]) ⟨.inr ⟨rfl, rfl⟩, trivial⟩ trivial ⟨.ptr rfl, .plain rfl, trivial⟩ pack_opens ?_
  intro β hβ
  obtain ⟨q, hg, hW⟩ := livesOK_some hβ hl
  have hl2 : livesOK (setL T.lives n ⟨l.boot, true, l.W⟩) ⟨dPut β.D n ⟨l.boot, true, q⟩, β.F⟩ := livesOK_same hβ hg hW hl l.boot true
  repeat' (refine N.go ?_; first | with_reducible refine N.obl (by decide) ?_ | with_reducible refine N.obl (flat_wi _ _ _) ?_ | with_reducible refine N.obl (flat_lim _ _) ?_ | with_reducible refine N.eq ?_ | with_reducible refine N.obl rfl ?_ | with_reducible refine N.obl ⟨by kernel_rfl, by kernel_rfl⟩ ?_ | with_reducible refine N.forkT ?_ | with_reducible refine N.forkF ?_ | refine N_look lifV β.D rfl Try.underlying65 Try.underlying3 Try.type70 rfl (.tuple ⟨[lifV ⟨l.boot, l.left, q⟩, .bool true]⟩) (by rw [hg]; rfl) rfl ?_ | refine N_put lifV β.D ⟨l.boot, true, q⟩ rfl rfl ⟨by omega, by omega⟩ rfl Try.underlying65 Try.underlying3 ?_ | refine N_del entV T.E rfl rfl rfl Try.underlying64 Try.underlying3 ?_ | refine tblClose (⟨T.most, dDel T.E n, setL T.lives n ⟨l.boot, true, l.W⟩⟩) ⟨dPut β.D n ⟨l.boot, true, q⟩, β.F⟩ 0 1 2 [] tbl_piece (fun i hi => .inl (by simpa using hi)) hl2 (by rfl) (by rfl) (by rfl) (by rfl) (by rfl) (by rfl) (by rfl) (by rfl) (by rfl) (by decide) (fun k hk => by cases hk) safe0 (plain_sc rfl) ?_ | refine N.obl (.plain rfl) ?_ | refine N.obl ⟨⟨_, rfl, id, Nat.le_refl _, fun j hj => absurd hj (Nat.not_lt_zero j)⟩, trivial⟩ ?_ | refine N.obl trivial ?_ | refine N.obl ⟨⟨.inr ⟨_, rfl, rfl⟩, trivial⟩, trivial⟩ ?_ | exact N.true | fail_if_success skip)
set_option maxRecDepth 100000 in
set_option maxHeartbeats 2000000 in
theorem cLeaveN (T : Tbl) (n : Int) (hl : T.lives n = none) (i : Nat) (h : List (Option Chunk)) (hi : h[i]? = some (some (tblC T))) :
    CallOK Try.prog 15 [.pointer (some ⟨i, 0, some 0⟩), .int .i64 n] h (.bool false) [(i, tblC (T))] [] := by
  refine call_res (G := tys) (livesOK T.lives) (tblH T) [⟨i, tblC T, tblC T, tblC (T)⟩] [] [.pointer (some ⟨0, 0, some 0⟩), .int .i64 n] tysOK mixed Try.func15 (by rfl) (Try.call15) ⟨hi, trivial⟩ ⟨⟨fun h => ⟨rfl, Nat.le_refl _⟩, Nat.le_refl _, fun j hj => absurd hj (Nat.not_lt_zero j)⟩, trivial⟩ (by simp [Apart]) ⟨.inr ⟨rfl, rfl⟩, trivial⟩ trivial ⟨.ptr rfl, .plain rfl, trivial⟩ pack_opens ?_
  intro β hβ
  have hg := livesOK_none hβ hl
  repeat' (refine N.go ?_; first | with_reducible refine N.obl (by decide) ?_ | with_reducible refine N.obl (flat_wi _ _ _) ?_ | with_reducible refine N.obl (flat_lim _ _) ?_ | with_reducible refine N.eq ?_ | with_reducible refine N.obl rfl ?_ | with_reducible refine N.obl ⟨by kernel_rfl, by kernel_rfl⟩ ?_ | with_reducible refine N.forkT ?_ | with_reducible refine N.forkF ?_ | refine N_look lifV β.D rfl Try.underlying65 Try.underlying3 Try.type70 rfl (.tuple ⟨[.agg ⟨[.int .i64 0, .bool false, .pointer none]⟩, .bool false]⟩) (by rw [hg]; rfl) rfl ?_ | refine tblClose (T) β 0 1 2 [] tbl_piece (fun i hi => .inl (by simpa using hi)) hβ (by rfl) (by rfl) (by rfl) (by rfl) (by rfl) (by rfl) (by rfl) (by rfl) (by rfl) (by decide) (fun k hk => by cases hk) safe0 (plain_sc rfl) ?_ | refine N.obl (.plain rfl) ?_ | refine N.obl ⟨⟨_, rfl, id, Nat.le_refl _, fun j hj => absurd hj (Nat.not_lt_zero j)⟩, trivial⟩ ?_ | refine N.obl trivial ?_ | refine N.obl ⟨⟨.inr ⟨_, rfl, rfl⟩, trivial⟩, trivial⟩ ?_ | exact N.true | fail_if_success skip)
end Go.Proofs.Ytpafcfelaaibgaa
