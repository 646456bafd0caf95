/-
  The walk of Hear.
-/
import Derived.Test.YtpafcfelaaibgaaTbl6
set_option linter.unusedVariables false
set_option linter.unusedSimpArgs false
namespace Go.Proofs.Ytpafcfelaaibgaa
open Go Go.RowKit Sx

theorem win_f {x : Ext} {W : Win} : ∀ j, j < 3 → (winX x W).f j = winF W j := fun j hj => by
  match j, hj with
  | 0, _ => rfl
  | 1, _ => rfl
  | 2, _ => rfl
theorem win_plain (W : Win) : ∀ j, j < 3 → plain1 (winF W j) = true := fun j hj => by
  match j, hj with
  | 0, _ => rfl
  | 1, _ => rfl
  | 2, _ => rfl
/-- A table is opened, and the window of a life is taken out. -/
theorem tblOpenW {i : Nat} {c d : Chunk} (T : Tbl) (n : Int) (l : Life) (hl : T.lives n = some l) : Opens [⟨i, c, tblC T, d⟩] (fun κ : LB × (Nat × Nat) => dGet κ.1.D n = some ⟨l.boot, l.left, κ.2⟩ ∧ livesOK T.lives ⟨κ.1.D, (κ.2, l.W) :: κ.1.F⟩)
    (fun κ => [some (mainC κ.1.F T.most), some (mapC entV T.E), some (mapC lifV κ.1.D), some (winX (atX κ.2) l.W)]) := fun X ρ w Ti H => by
  obtain ⟨β, hβ, ρ1, hag, hfil, H1⟩ := pack_opens (h := tblH T) X ρ w Ti H
  obtain ⟨q, hg, hW⟩ := livesOK_some hβ hl
  obtain ⟨s, t, hF⟩ := List.append_of_mem hW
  have hp : β.F.Perm ((q, l.W) :: (s ++ t)) := by rw [hF]; exact List.perm_middle
  have hsame : SameH (tblH T β) [some (mainC β.F T.most), some (mapC entV T.E), some (mapC lifV β.D), none] := fun k e => by
    match k with
    | 0 => exact Iff.rfl
    | 1 => exact Iff.rfl
    | 2 => exact Iff.rfl
    | 3 => simp
    | k + 4 => simp
  have H2 := H1.same hsame
  obtain ⟨ρ2, hag2, H3⟩ := H2.famOut (o := true) (i := 0) (k := 3) (e := winX (atX q) l.W) (by decide) rfl rfl (Ti.mayX H2 (k := 0) rfl (tblC_ne T) packX_selfish) hp rfl rfl win_f (win_plain l.W)
  refine ⟨(⟨β.D, s ++ t⟩, q), ⟨hg, ?_⟩, ρ2, fun k hk => ?_, fun k hk => ?_, H3⟩
  · refine ⟨hβ.1, fun m r hr => ?_, hβ.2.2⟩
    obtain ⟨W, h1, h2⟩ := hβ.2.1 m r hr
    exact ⟨W, hp.mem_iff.1 h1, h2⟩
  · have hf := hfil k hk
    rw [hag2 k ((hsame.fil k).2 hf)]; exact hag k hk
  · obtain ⟨e, he⟩ := hk
    have : k = 0 := by
      cases k with
      | zero => rfl
      | succ k => simp [partH] at he
    subst this
    exact ⟨_, rfl⟩
/-- The entries when somebody was heard: who is not there yet may take the eldest's place. -/
def heardE (most : Int) (E : List (Int × Ent)) (n boot now : Int) : List (Int × Ent) :=
  dPut (if dGet E n = none ∧ most ≤ E.length then dDel E (minT (entT E) E.length).node else E) n { (dGet E n).getD Ent.zero with node := n, boot := boot, heard := now }
def argsOK (n boot seq now : Int) : Prop := (0 ≤ n ∧ n < 64) ∧ serOK boot ∧ serOK seq ∧ (0 ≤ now ∧ now ≤ 1000000)
set_option maxRecDepth 100000 in
set_option maxHeartbeats 2000000 in
theorem cHearArg (T : Tbl) (n boot seq now : Int) (ha : ¬ argsOK n boot seq now) (i : Nat) (h : List (Option Chunk)) (hi : h[i]? = some (some (tblC T))) :
    CallOK Try.prog 10 [.pointer (some ⟨i, 0, some 0⟩), .int .i64 n, .int .i64 boot, .int .i64 seq, .int .i64 now] h (.int .i64 1) [(i, tblC (T))] [] := by
  refine call_res (G := tys) (livesOK T.lives) (tblH T) [⟨i, tblC T, tblC T, tblC (T)⟩] [] [.pointer (some ⟨0, 0, some 0⟩), .int .i64 n, .int .i64 boot, .int .i64 seq, .int .i64 now] tysOK mixed Try.func10 (by rfl) (Try.call10) ⟨hi, trivial⟩ ⟨⟨fun h => ⟨rfl, Nat.le_refl _⟩, Nat.le_refl _, fun j hj => absurd hj (Nat.not_lt_zero j)⟩, trivial⟩ (by simp [Apart]) ⟨.inr ⟨rfl, rfl⟩, trivial⟩ trivial ⟨.ptr rfl, .plain rfl, .plain rfl, .plain rfl, .plain rfl, trivial⟩ pack_opens ?_
  intro β hβ
  repeat' (refine N.go ?_; first | with_reducible refine N.obl (by decide) ?_ | with_reducible refine N.obl (flat_wi _ _ _) ?_ | with_reducible refine N.obl (flat_lim _ _) ?_ | with_reducible refine N.eq ?_ | with_reducible refine N.obl rfl ?_ | with_reducible refine N.obl ⟨by kernel_rfl, by kernel_rfl⟩ ?_ | with_reducible refine N.forkT ?_ | with_reducible refine N.forkF ?_ | refine N.call (cTnode _ _) ?_ | refine N.call (cMay _ _) ?_ | refine N.call (cTtime _ _) ?_ | with_reducible refine N.fork (fun hb => ?_) (fun hb => ?_) | refine tblClose (T) β 0 1 2 [] tbl_piece (fun i hi => .inl (by simpa using hi)) hβ (by rfl) (by rfl) (by rfl) (by rfl) (by rfl) (by rfl) (by rfl) (by rfl) (by rfl) (by decide) (fun k hk => by cases hk) safe0 (plain_sc rfl) ?_ | refine N.obl (.plain rfl) ?_ | refine N.obl ⟨⟨_, rfl, id, Nat.le_refl _, fun j hj => absurd hj (Nat.not_lt_zero j)⟩, trivial⟩ ?_ | refine N.obl trivial ?_ | refine N.obl ⟨⟨.inr ⟨_, rfl, rfl⟩, trivial⟩, trivial⟩ ?_ | exact N.true | fail_if_success skip)
  all_goals
    exfalso
    simp only [Bool.not_eq_eq_eq_not, Bool.not_true, Bool.not_false, decide_eq_true_eq, decide_eq_false_iff_not, argsOK, serOK] at *
    omega
set_option maxRecDepth 100000 in
set_option maxHeartbeats 2000000 in
theorem cHearA (T : Tbl) (n boot seq now : Int) (ha : argsOK n boot seq now) (l : Life) (hl : T.lives n = some l) (hb1 : l.boot = boot) (hlf : l.left = true) (i : Nat) (h : List (Option Chunk)) (hi : h[i]? = some (some (tblC T))) :
    CallOK Try.prog 10 [.pointer (some ⟨i, 0, some 0⟩), .int .i64 n, .int .i64 boot, .int .i64 seq, .int .i64 now] h (.int .i64 9) [(i, tblC (T))] [] := by
  refine call_res (G := tys) (livesOK T.lives) (tblH T) [⟨i, tblC T, tblC T, tblC (T)⟩] [] [.pointer (some ⟨0, 0, some 0⟩), .int .i64 n, .int .i64 boot, .int .i64 seq, .int .i64 now] tysOK mixed Try.func10 (by rfl) (Try.call10) ⟨hi, trivial⟩ ⟨⟨fun h => ⟨rfl, Nat.le_refl _⟩, Nat.le_refl _, fun j hj => absurd hj (Nat.not_lt_zero j)⟩, trivial⟩ (by simp [Apart]) ⟨.inr ⟨rfl, rfl⟩, trivial⟩ trivial ⟨.ptr rfl, .plain rfl, .plain rfl, .plain rfl, .plain rfl, trivial⟩ pack_opens ?_
  intro β hβ
  obtain ⟨q, hg, hW⟩ := livesOK_some hβ hl
  repeat' (refine N.go ?_; first | with_reducible refine N.obl (by decide) ?_ | with_reducible refine N.obl (flat_wi _ _ _) ?_ | with_reducible refine N.obl (flat_lim _ _) ?_ | with_reducible refine N.eq ?_ | with_reducible refine N.obl rfl ?_ | with_reducible refine N.obl ⟨by kernel_rfl, by kernel_rfl⟩ ?_ | with_reducible refine N.forkT ?_ | with_reducible refine N.forkF ?_ | refine N.call (cTnode _ _) ?_ | refine N.call (cMay _ _) ?_ | refine N.call (cTtime _ _) ?_ | refine N.forkNo (by rw [decide_eq_true ha.1]; rfl) ?_ | refine N.forkNo (by rw [decide_eq_true ha.2.1]; rfl) ?_ | refine N.forkNo (by rw [decide_eq_true ha.2.2.1]; rfl) ?_ | refine N.forkNo (by rw [decide_eq_true ha.2.2.2]; rfl) ?_ | refine N.call (cBeginA _ _ _ _ _ _ _ ⟨l.boot, l.left, q⟩ hg hb1 hlf 0 1 2 _ (by rfl) (by rfl) (by rfl) (by decide)) ?_ | refine N.forkT ?_ | refine N.forkF ?_ | refine N.forkYes (by decide) ?_ | refine N.forkNo (by decide) ?_ | refine tblClose (T) β 0 1 2 [] tbl_piece (fun i hi => .inl (by simpa using hi)) hβ (by rfl) (by rfl) (by rfl) (by rfl) (by rfl) (by rfl) (by rfl) (by rfl) (by rfl) (by decide) (fun k hk => by cases hk) safe0 (plain_sc rfl) ?_ | refine N.obl (.plain rfl) ?_ | refine N.obl ⟨⟨_, rfl, id, Nat.le_refl _, fun j hj => absurd hj (Nat.not_lt_zero j)⟩, trivial⟩ ?_ | refine N.obl trivial ?_ | refine N.obl ⟨⟨.inr ⟨_, rfl, rfl⟩, trivial⟩, trivial⟩ ?_ | exact N.true | fail_if_success skip)
set_option maxRecDepth 100000 in
set_option maxHeartbeats 2000000 in
theorem cHearC (T : Tbl) (n boot seq now : Int) (ha : argsOK n boot seq now) (l : Life) (hl : T.lives n = some l) (hb1 : l.boot ≠ boot) (hlf : ¬ (0 < serD l.boot boot ∧ serD l.boot boot < 32768)) (i : Nat) (h : List (Option Chunk)) (hi : h[i]? = some (some (tblC T))) :
    CallOK Try.prog 10 [.pointer (some ⟨i, 0, some 0⟩), .int .i64 n, .int .i64 boot, .int .i64 seq, .int .i64 now] h (.int .i64 9) [(i, tblC (T))] [] := by
  refine call_res (G := tys) (livesOK T.lives) (tblH T) [⟨i, tblC T, tblC T, tblC (T)⟩] [] [.pointer (some ⟨0, 0, some 0⟩), .int .i64 n, .int .i64 boot, .int .i64 seq, .int .i64 now] tysOK mixed Try.func10 (by rfl) (Try.call10) ⟨hi, trivial⟩ ⟨⟨fun h => ⟨rfl, Nat.le_refl _⟩, Nat.le_refl _, fun j hj => absurd hj (Nat.not_lt_zero j)⟩, trivial⟩ (by simp [Apart]) ⟨.inr ⟨rfl, rfl⟩, trivial⟩ trivial ⟨.ptr rfl, .plain rfl, .plain rfl, .plain rfl, .plain rfl, trivial⟩ pack_opens ?_
  intro β hβ
  obtain ⟨q, hg, hW⟩ := livesOK_some hβ hl
  repeat' (refine N.go ?_; first | with_reducible refine N.obl (by decide) ?_ | with_reducible refine N.obl (flat_wi _ _ _) ?_ | with_reducible refine N.obl (flat_lim _ _) ?_ | with_reducible refine N.eq ?_ | with_reducible refine N.obl rfl ?_ | with_reducible refine N.obl ⟨by kernel_rfl, by kernel_rfl⟩ ?_ | with_reducible refine N.forkT ?_ | with_reducible refine N.forkF ?_ | refine N.call (cTnode _ _) ?_ | refine N.call (cMay _ _) ?_ | refine N.call (cTtime _ _) ?_ | refine N.forkNo (by rw [decide_eq_true ha.1]; rfl) ?_ | refine N.forkNo (by rw [decide_eq_true ha.2.1]; rfl) ?_ | refine N.forkNo (by rw [decide_eq_true ha.2.2.1]; rfl) ?_ | refine N.forkNo (by rw [decide_eq_true ha.2.2.2]; rfl) ?_ | refine N.call (cBeginC _ _ _ _ _ _ _ ⟨l.boot, l.left, q⟩ hg hb1 hlf 0 1 2 _ (by rfl) (by rfl) (by rfl) (by decide)) ?_ | refine N.forkT ?_ | refine N.forkF ?_ | refine N.forkYes (by decide) ?_ | refine N.forkNo (by decide) ?_ | refine tblClose (T) β 0 1 2 [] tbl_piece (fun i hi => .inl (by simpa using hi)) hβ (by rfl) (by rfl) (by rfl) (by rfl) (by rfl) (by rfl) (by rfl) (by rfl) (by rfl) (by decide) (fun k hk => by cases hk) safe0 (plain_sc rfl) ?_ | refine N.obl (.plain rfl) ?_ | refine N.obl ⟨⟨_, rfl, id, Nat.le_refl _, fun j hj => absurd hj (Nat.not_lt_zero j)⟩, trivial⟩ ?_ | refine N.obl trivial ?_ | refine N.obl ⟨⟨.inr ⟨_, rfl, rfl⟩, trivial⟩, trivial⟩ ?_ | exact N.true | fail_if_success skip)
theorem HOK.sub {X : Ctx} {ρ : Nat → Nat × Nat} {h h' : List (Option Chunk)} {w : World} (H : HOK X ρ h w) (hb : ∀ i, i < X.n0 → Fil h' i) (hs : ∀ (i : Nat) (c : Chunk), h'[i]? = some (some c) → h[i]? = some (some c) ∧ ∀ j, j < c.n → Safe1 h' (c.f j)) : HOK X ρ h' w := by
  refine ⟨H.evo, fun i hi => ⟨hb i hi, (H.base i hi).2⟩, fun i c hi => H.lt i c (hs i c hi).1, fun i c hi j hj => ?_, fun i c hi => H.own i c (hs i c hi).1, fun i c j d hi ho hj => H.sep i c j d (hs i c hi).1 ho (hs j d hj).1, ?_⟩
  · obtain ⟨x, hx, hd⟩ := H.cell i c (hs i c hi).1 j hj
    exact ⟨x, hx, fun r hr => ((hs i c hi).2 j hj).inScope ρ r hr |>.trans hd.self⟩
  · obtain ⟨S, E⟩ := H.ext
    exact E.less fun i c hi => ⟨rfl, c, (hs i c hi).1, Nat.le_refl _, .inr rfl⟩
/-- What lies behind the first m stretches is let go of. -/
theorem N_endTake {ss : List Piece} {h : List (Option Chunk)} {v : Value} {K : Value → List (Option Chunk) → Prop} (m : Nat) (hm : ss.length ≤ m) (hv : plain3 v = true) (hs : ∀ (i : Nat) (c : Chunk), (h.take m)[i]? = some (some c) → ∀ j, j < c.n → Safe1 (h.take m) (c.f j)) (kk : N (EndN ss (h.take m) v K)) : N (EndN ss h v K) :=
  N.mk fun X ρ w x T H hd => by
    have get : ∀ (i : Nat) (c : Chunk), (h.take m)[i]? = some (some c) → h[i]? = some (some c) := fun i c hi => by
      rw [List.getElem?_take] at hi
      split at hi
      · exact hi
      · cases hi
    refine N.out kk X ρ w x T (HOK.sub H (fun i hi => ?_) fun i c hi => ⟨get i c hi, hs i c hi⟩) (fun r _ => by rw [den_plain3 hv, ← hd.self, den_plain3 hv])
    obtain ⟨c, hc⟩ := (H.base i hi).1
    exact ⟨c, by rw [List.getElem?_take, if_pos (by have := T.n0; omega)]; exact hc⟩
theorem safe4 {F : List ((Nat × Nat) × Win)} {most : Int} {E : List (Int × Ent)} {D : List (Int × LifR)} {q : Nat × Nat} {W : Win} : ∀ (i : Nat) (c : Chunk), ([some (mainC F most), some (mapC entV E), some (mapC lifV D), some (winX (atX q) W)] : List (Option Chunk))[i]? = some (some c) → ∀ j, j < c.n → Safe1 [some (mainC F most), some (mapC entV E), some (mapC lifV D), some (winX (atX q) W)] (c.f j) := fun i c hi j hj => by
  match i, hi with
  | 0, hi =>
    obtain rfl : _ = c := by simpa using hi
    match j, hj with
    | 0, _ => exact True.intro
    | 1, _ => exact rfl
    | 2, _ => exact rfl
  | 1, hi => obtain rfl : _ = c := by simpa using hi
             exact absurd hj (Nat.not_lt_zero j)
  | 2, hi => obtain rfl : _ = c := by simpa using hi
             exact absurd hj (Nat.not_lt_zero j)
  | 3, hi =>
    obtain rfl : _ = c := by simpa using hi
    match j, hj with
    | 0, _ => exact True.intro
    | 1, _ => exact True.intro
    | 2, _ => exact True.intro
  | k + 4, hi => simp at hi
theorem setL_self {lv : Int → Option Life} {n : Int} {l : Life} (h : lv n = some l) : setL lv n l = lv := by
  funext m
  unfold setL
  by_cases e : m = n
  · rw [if_pos e, e, h]
  · rw [if_neg e]
/-- The lives when a life's window turned. -/
theorem livesOK_win {lv : Int → Option Life} {D : List (Int × LifR)} {F : List ((Nat × Nat) × Win)} {n b : Int} {lf : Bool} {q : Nat × Nat} {W : Win} (h : livesOK lv ⟨D, (q, W) :: F⟩) (hg : dGet D n = some ⟨b, lf, q⟩) (hq : ∀ x ∈ F, x.1 ≠ q) (W' : Win) : livesOK (setL lv n ⟨b, lf, W'⟩) ⟨dPut D n ⟨b, lf, q⟩, (q, W') :: F⟩ := by
  obtain ⟨h1, h2, h3⟩ := h
  have key : ∀ m s, dGet (dPut D n ⟨b, lf, q⟩) m = some s → dGet D m = some s := fun m s hs => by
    by_cases e : m = n
    · subst e; rw [dGet_put_same] at hs; rw [hg, ← hs]
    · rw [dGet_put_ne _ _ e] at hs; exact hs
  refine ⟨fun m hm => ?_, fun m s hs => ?_, fun m m' s s' hs hs' e => h3 m m' s s' (key m s hs) (key m' s' hs') e⟩
  · by_cases e : m = n
    · subst e; rw [dGet_put_same] at hm; cases hm
    · rw [dGet_put_ne _ _ e] at hm
      unfold setL; rw [if_neg e]; exact h1 m hm
  · have hs2 := key m s hs
    by_cases e : m = n
    · subst e
      rw [hg] at hs2
      obtain rfl : _ = s := by simpa using hs2
      exact ⟨W', by simp, by unfold setL; rw [if_pos rfl]⟩
    · obtain ⟨W2, hW2, hl2⟩ := h2 m s hs2
      refine ⟨W2, ?_, by unfold setL; rw [if_neg e]; exact hl2⟩
      rcases List.mem_cons.1 hW2 with e2 | hW2
      · exact absurd (h3 m n s ⟨b, lf, q⟩ hs2 hg (Prod.mk.inj e2).1) e
      · exact List.mem_cons_of_mem _ hW2
theorem sc4 {F : List ((Nat × Nat) × Win)} {most : Int} {E : List (Int × Ent)} {D : List (Int × LifR)} {q : Nat × Nat} {W : Win} : ∀ (l : Nat) (d : Chunk), l ≠ 3 → ([some (mainC F most), some (mapC entV E), some (mapC lifV D), some (winX (atX q) W)] : List (Option Chunk))[l]? = some (some d) → ∀ j, j < d.n → ∀ ρ ρ' : Nat → Nat × Nat, (∀ l, l ≠ 3 → ρ' l = ρ l) → den1 ρ' (d.f j) = den1 ρ (d.f j) := fun l d hl hd j hj ρ ρ' ha => by
  match l, hd with
  | 0, hd =>
    obtain rfl : _ = d := by simpa using hd
    match j, hj with
    | 0, _ => rfl
    | 1, _ => have := ha 1 (by decide); show den1 ρ' (.map (some 1)) = den1 ρ (.map (some 1)); simp [den1, den0, this]
    | 2, _ => have := ha 2 (by decide); show den1 ρ' (.map (some 2)) = den1 ρ (.map (some 2)); simp [den1, den0, this]
  | 1, hd => obtain rfl : _ = d := by simpa using hd
             exact absurd hj (Nat.not_lt_zero j)
  | 2, hd => obtain rfl : _ = d := by simpa using hd
             exact absurd hj (Nat.not_lt_zero j)
  | 3, _ => exact absurd rfl hl
  | k + 4, hd => simp at hd
/-- The end of Hear: the table is closed, the window laid back. -/
theorem hearClose {i : Nat} {c d : Chunk} {T : Tbl} {h : List (Option Chunk)} {v : Value} {K : Value → List (Option Chunk) → Prop} (T2 : Tbl) (D : List (Int × LifR)) (F : List ((Nat × Nat) × Win)) (q : Nat × Nat) (W : Win) (hv : plain3 v = true) (ht : h.take 4 = [some (mainC F T2.most), some (mapC entV T2.E), some (mapC lifV D), some (winX (atX q) W)]) (hok : (∀ x ∈ F, x.1 ≠ q) → livesOK T2.lives ⟨D, (q, W) :: F⟩)
    (kk : K v (closeH (tblC T2) 0 [] [some (mainC ((q, W) :: F) T2.most), some (mapC entV T2.E), some (mapC lifV D), none] 0)) : N (EndN [⟨i, c, tblC T, d⟩] h v K) := by
  refine N_endTake 4 (Nat.le_of_ble_eq_true rfl) hv ?_ ?_
  · rw [ht]; exact safe4
  rw [ht]
  refine N_endFamIn (i := 0) (k := 3) (q := q) W (by decide) (by decide) rfl rfl (by decide) (Nat.le_of_ble_eq_true rfl) (fun _ => ⟨_, rfl, tblC_ne T, packX_selfish⟩) rfl rfl (Nat.le_refl _) win_f (win_plain W) sc4 hv fun hq => ?_
  refine tblClose T2 ⟨D, (q, W) :: F⟩ 0 1 2 [] (fun l _ hl => by
    obtain rfl : l = 0 := by simpa using hl
    exact ⟨_, rfl, tblC_ne T, packX_selfish⟩) (fun i hi => .inl (by simpa using hi)) (hok hq) rfl rfl rfl rfl rfl rfl rfl rfl rfl (by decide) (fun k hk => by cases hk) safe0 (plain_sc hv) kk
theorem main_sc {F : List ((Nat × Nat) × Win)} {most : Int} {k : Nat} (hk : k ≠ 1 ∧ k ≠ 2) : ∀ j, j < 3 → ∀ ρ ρ' : Nat → Nat × Nat, (∀ l, l ≠ k → ρ' l = ρ l) → den1 ρ' ((mainC F most).f j) = den1 ρ ((mainC F most).f j) := fun j hj ρ ρ' ha => by
  match j, hj with
  | 0, _ => rfl
  | 1, _ => have := ha 1 (Ne.symm hk.1); show den1 ρ' (.map (some 1)) = den1 ρ (.map (some 1)); simp [den1, den0, this]
  | 2, _ => have := ha 2 (Ne.symm hk.2); show den1 ρ' (.map (some 2)) = den1 ρ (.map (some 2)); simp [den1, den0, this]
set_option maxRecDepth 100000 in
set_option maxHeartbeats 2000000 in
theorem cHearDup (T : Tbl) (n boot seq now : Int) (ha : argsOK n boot seq now) (l : Life) (hl : T.lives n = some l) (hb1 : l.boot = boot) (hlf : l.left = false) (hs : l.W.seen < 18446744073709551616) (W' : Win) (hw : whear l.W seq = (9, W')) (i : Nat) (h : List (Option Chunk)) (hi : h[i]? = some (some (tblC T))) :
    CallOK Try.prog 10 [.pointer (some ⟨i, 0, some 0⟩), .int .i64 n, .int .i64 boot, .int .i64 seq, .int .i64 now] h (.int .i64 9) [(i, tblC (⟨T.most, T.E, setL T.lives n ⟨boot, false, W'⟩⟩))] [] := by
  refine call_res (G := tys) (fun κ : LB × (Nat × Nat) => dGet κ.1.D n = some ⟨l.boot, l.left, κ.2⟩ ∧ livesOK T.lives ⟨κ.1.D, (κ.2, l.W) :: κ.1.F⟩) (fun κ => [some (mainC κ.1.F T.most), some (mapC entV T.E), some (mapC lifV κ.1.D), some (winX (atX κ.2) l.W)]) [⟨i, tblC T, tblC T, tblC (⟨T.most, T.E, setL T.lives n ⟨boot, false, W'⟩⟩)⟩] [] [.pointer (some ⟨0, 0, some 0⟩), .int .i64 n, .int .i64 boot, .int .i64 seq, .int .i64 now] tysOK mixed Try.func10 (by rfl) (Try.call10) ⟨hi, trivial⟩ ⟨⟨fun h => ⟨rfl, Nat.le_refl _⟩, Nat.le_refl _, fun j hj => absurd hj (Nat.not_lt_zero j)⟩, trivial⟩ (by simp [Apart]) ⟨.inr ⟨rfl, rfl⟩, trivial⟩ trivial ⟨.ptr rfl, .plain rfl, .plain rfl, .plain rfl, .plain rfl, trivial⟩ (tblOpenW T n l hl) ?_
  rintro ⟨⟨D, F⟩, q⟩ ⟨hg, hβ⟩
  have hg : dGet D n = some ⟨l.boot, l.left, q⟩ := hg
  have hg2 : dGet D n = some ⟨boot, false, q⟩ := by rw [hg, hb1, hlf]
  have hn := ha.1
  repeat' (refine N.go ?_; first | with_reducible refine N.obl (by decide) ?_ | with_reducible refine N.obl (flat_wi _ _ _) ?_ | with_reducible refine N.obl (flat_lim _ _) ?_ | with_reducible refine N.eq ?_ | with_reducible refine N.obl rfl ?_ | with_reducible refine N.obl ⟨by kernel_rfl, by kernel_rfl⟩ ?_ | with_reducible refine N.forkT ?_ | with_reducible refine N.forkF ?_ | refine N.call (cTnode _ _) ?_ | refine N.call (cMay _ _) ?_ | refine N.call (cTtime _ _) ?_ | refine N.forkNo (by rw [decide_eq_true ha.1]; rfl) ?_ | refine N.forkNo (by rw [decide_eq_true ha.2.1]; rfl) ?_ | refine N.forkNo (by rw [decide_eq_true ha.2.2.1]; rfl) ?_ | refine N.forkNo (by rw [decide_eq_true ha.2.2.2]; rfl) ?_ | refine N.call (cBeginB _ _ _ _ _ _ _ ⟨l.boot, l.left, q⟩ hg hb1 hlf 0 1 2 _ (by rfl) (by rfl) (by rfl) (by decide)) ?_ | refine N_put lifV D ⟨boot, false, q⟩ rfl rfl ⟨by omega, by omega⟩ rfl Try.underlying65 Try.underlying3 ?_ | refine N.call (call_at [.pointer (some ⟨3, 0, some 0⟩), .int .i64 seq] (by rfl) rfl ⟨.ptr, .same _, trivial⟩ (.inr ⟨_, .head _⟩) (cWHear (atX q) l.W W' seq 9 3 hs ha.2.2.1 hw _ (by rfl))) ?_ | refine N.forkT ?_ | refine N.forkF ?_ | refine N.forkYes (by decide) ?_ | refine N.forkNo (by decide) ?_ | fail_if_success skip)
  refine N.go ?_
  refine hearClose ⟨T.most, T.E, setL T.lives n ⟨boot, false, W'⟩⟩ _ F q W' rfl (by rfl) (fun hq => livesOK_win hβ hg2 hq W') ?_
  repeat' (refine N.go ?_; first | with_reducible refine N.obl (by decide) ?_ | with_reducible refine N.obl (flat_wi _ _ _) ?_ | with_reducible refine N.obl (flat_lim _ _) ?_ | with_reducible refine N.eq ?_ | with_reducible refine N.obl rfl ?_ | with_reducible refine N.obl ⟨by kernel_rfl, by kernel_rfl⟩ ?_ | with_reducible refine N.forkT ?_ | with_reducible refine N.forkF ?_ | refine N.obl (.plain rfl) ?_ | refine N.obl ⟨⟨_, rfl, id, Nat.le_refl _, fun j hj => absurd hj (Nat.not_lt_zero j)⟩, trivial⟩ ?_ | refine N.obl trivial ?_ | refine N.obl ⟨⟨.inr ⟨_, rfl, rfl⟩, trivial⟩, trivial⟩ ?_ | exact N.true | fail_if_success skip)
/-- The lives when a new one begins. -/
theorem livesOK_new {lv : Int → Option Life} {D : List (Int × LifR)} {F : List ((Nat × Nat) × Win)} {n b : Int} {lf : Bool} {q : Nat × Nat} (h : livesOK lv ⟨D, F⟩) (hq : ∀ x ∈ F, x.1 ≠ q) (W' : Win) : livesOK (setL lv n ⟨b, lf, W'⟩) ⟨dPut D n ⟨b, lf, q⟩, (q, W') :: F⟩ := by
  obtain ⟨h1, h2, h3⟩ := h
  have key : ∀ m s, dGet (dPut D n ⟨b, lf, q⟩) m = some s → (m = n ∧ s = ⟨b, lf, q⟩) ∨ (m ≠ n ∧ dGet D m = some s) := fun m s hs => by
    by_cases e : m = n
    · subst e; rw [dGet_put_same] at hs; exact .inl ⟨rfl, by simpa using hs.symm⟩
    · rw [dGet_put_ne _ _ e] at hs; exact .inr ⟨e, hs⟩
  have noq : ∀ m s, dGet D m = some s → s.q ≠ q := fun m s hs e => by
    obtain ⟨W, hW, _⟩ := h2 m s hs
    exact hq _ hW e
  refine ⟨fun m hm => ?_, fun m s hs => ?_, fun m m' s s' hs hs' e => ?_⟩
  · by_cases e : m = n
    · subst e; rw [dGet_put_same] at hm; cases hm
    · rw [dGet_put_ne _ _ e] at hm
      unfold setL; rw [if_neg e]; exact h1 m hm
  · rcases key m s hs with ⟨rfl, rfl⟩ | ⟨e, hs⟩
    · exact ⟨W', by simp, by unfold setL; rw [if_pos rfl]⟩
    · obtain ⟨W2, hW2, hl2⟩ := h2 m s hs
      exact ⟨W2, List.mem_cons_of_mem _ hW2, by unfold setL; rw [if_neg e]; exact hl2⟩
  · have k1 := key m s hs
    have k2 := key m' s' hs'
    clear hs hs'
    rcases k1 with ⟨rfl, rfl⟩ | ⟨e1, hs⟩ <;> rcases k2 with ⟨rfl, rfl⟩ | ⟨e2, hs'⟩
    · rfl
    · exact absurd e.symm (noq _ _ hs')
    · exact absurd e (noq _ _ hs)
    · exact h3 _ _ _ _ hs hs' e
set_option maxRecDepth 100000 in
set_option maxHeartbeats 2000000 in
theorem cHearKthere (T : Tbl) (n boot seq now : Int) (ha : argsOK n boot seq now) (l : Life) (hl : T.lives n = some l) (hb1 : l.boot = boot) (hlf : l.left = false) (hs : l.W.seen < 18446744073709551616) (W' : Win) (hw : whear l.W seq = (0, W')) (e0 : Ent) (hth : dGet (T.E) n = some e0) (E' : List (Int × Ent)) (hE' : E' = dPut (T.E) n ⟨n, boot, now, e0.has, e0.x, e0.y, e0.a, e0.b, e0.d, e0.when_⟩) (i : Nat) (h : List (Option Chunk)) (hi : h[i]? = some (some (tblC T))) :
    CallOK Try.prog 10 [.pointer (some ⟨i, 0, some 0⟩), .int .i64 n, .int .i64 boot, .int .i64 seq, .int .i64 now] h (.int .i64 0) [(i, tblC (⟨T.most, E', setL T.lives n ⟨boot, false, W'⟩⟩))] [] := by
  refine call_res (G := tys) (fun κ : LB × (Nat × Nat) => dGet κ.1.D n = some ⟨l.boot, l.left, κ.2⟩ ∧ livesOK T.lives ⟨κ.1.D, (κ.2, l.W) :: κ.1.F⟩) (fun κ => [some (mainC κ.1.F T.most), some (mapC entV T.E), some (mapC lifV κ.1.D), some (winX (atX κ.2) l.W)]) [⟨i, tblC T, tblC T, tblC (⟨T.most, E', setL T.lives n ⟨boot, false, W'⟩⟩)⟩] [] [.pointer (some ⟨0, 0, some 0⟩), .int .i64 n, .int .i64 boot, .int .i64 seq, .int .i64 now] tysOK mixed Try.func10 (by rfl) (Try.call10) ⟨hi, trivial⟩ ⟨⟨fun h => ⟨rfl, Nat.le_refl _⟩, Nat.le_refl _, fun j hj => absurd hj (Nat.not_lt_zero j)⟩, trivial⟩ (by simp [Apart]) ⟨.inr ⟨rfl, rfl⟩, trivial⟩ trivial ⟨.ptr rfl, .plain rfl, .plain rfl, .plain rfl, .plain rfl, trivial⟩ (tblOpenW T n l hl) ?_
  rintro ⟨⟨D, F⟩, q⟩ ⟨hg, hβ⟩
  have hg : dGet D n = some ⟨l.boot, l.left, q⟩ := hg
  have hg2 : dGet D n = some ⟨boot, false, q⟩ := by rw [hg, hb1, hlf]
  have hn := ha.1
  subst hE'
  repeat' (refine N.go ?_; first | with_reducible refine N.obl (by decide) ?_ | with_reducible refine N.obl (flat_wi _ _ _) ?_ | with_reducible refine N.obl (flat_lim _ _) ?_ | with_reducible refine N.eq ?_ | with_reducible refine N.obl rfl ?_ | with_reducible refine N.obl ⟨by kernel_rfl, by kernel_rfl⟩ ?_ | with_reducible refine N.forkT ?_ | with_reducible refine N.forkF ?_ | refine N.call (cTnode _ _) ?_ | refine N.call (cMay _ _) ?_ | refine N.call (cTtime _ _) ?_ | refine N.forkNo (by rw [decide_eq_true ha.1]; rfl) ?_ | refine N.forkNo (by rw [decide_eq_true ha.2.1]; rfl) ?_ | refine N.forkNo (by rw [decide_eq_true ha.2.2.1]; rfl) ?_ | refine N.forkNo (by rw [decide_eq_true ha.2.2.2]; rfl) ?_ | refine N.call (cBeginB _ _ _ _ _ _ _ ⟨l.boot, l.left, q⟩ hg hb1 hlf 0 1 2 _ (by rfl) (by rfl) (by rfl) (by decide)) ?_ | refine N_put lifV D ⟨boot, false, q⟩ rfl rfl ⟨by omega, by omega⟩ rfl Try.underlying65 Try.underlying3 ?_ | refine N.call (call_at [.pointer (some ⟨3, 0, some 0⟩), .int .i64 seq] (by rfl) rfl ⟨.ptr, .same _, trivial⟩ (.inr ⟨_, .head _⟩) (cWHear (atX q) l.W W' seq 0 3 hs ha.2.2.1 hw _ (by rfl))) ?_ | refine N_look entV (T.E) rfl Try.underlying64 Try.underlying3 Try.type36 rfl (.tuple ⟨[entV e0, .bool true]⟩) (by rw [hth]; rfl) rfl ?_ | refine N_lenM entV (T.E) rfl rfl Try.underlying64 ?_ | refine N_put entV (T.E) ⟨n, boot, now, e0.has, e0.x, e0.y, e0.a, e0.b, e0.d, e0.when_⟩ rfl rfl ⟨by omega, by omega⟩ rfl Try.underlying64 Try.underlying3 ?_ | refine N.forkT ?_ | refine N.forkF ?_ | refine N.forkYes (by decide) ?_ | refine N.forkNo (by decide) ?_ | fail_if_success skip)
  refine N.go ?_
  refine hearClose ⟨T.most, _, setL T.lives n ⟨boot, false, W'⟩⟩ _ F q W' rfl (by rfl) (fun hq => livesOK_win hβ hg2 hq W') ?_
  repeat' (refine N.go ?_; first | with_reducible refine N.obl (by decide) ?_ | with_reducible refine N.obl (flat_wi _ _ _) ?_ | with_reducible refine N.obl (flat_lim _ _) ?_ | with_reducible refine N.eq ?_ | with_reducible refine N.obl rfl ?_ | with_reducible refine N.obl ⟨by kernel_rfl, by kernel_rfl⟩ ?_ | with_reducible refine N.forkT ?_ | with_reducible refine N.forkF ?_ | refine N.obl (.plain rfl) ?_ | refine N.obl ⟨⟨_, rfl, id, Nat.le_refl _, fun j hj => absurd hj (Nat.not_lt_zero j)⟩, trivial⟩ ?_ | refine N.obl trivial ?_ | refine N.obl ⟨⟨.inr ⟨_, rfl, rfl⟩, trivial⟩, trivial⟩ ?_ | exact N.true | fail_if_success skip)
set_option maxRecDepth 100000 in
set_option maxHeartbeats 2000000 in
theorem cHearKroom (T : Tbl) (n boot seq now : Int) (ha : argsOK n boot seq now) (l : Life) (hl : T.lives n = some l) (hb1 : l.boot = boot) (hlf : l.left = false) (hs : l.W.seen < 18446744073709551616) (W' : Win) (hw : whear l.W seq = (0, W')) (hth : dGet (T.E) n = none) (hrm : (T.E).length < T.most) (E' : List (Int × Ent)) (hE' : E' = dPut (T.E) n ⟨n, boot, now, Ent.zero.has, Ent.zero.x, Ent.zero.y, Ent.zero.a, Ent.zero.b, Ent.zero.d, Ent.zero.when_⟩) (i : Nat) (h : List (Option Chunk)) (hi : h[i]? = some (some (tblC T))) :
    CallOK Try.prog 10 [.pointer (some ⟨i, 0, some 0⟩), .int .i64 n, .int .i64 boot, .int .i64 seq, .int .i64 now] h (.int .i64 0) [(i, tblC (⟨T.most, E', setL T.lives n ⟨boot, false, W'⟩⟩))] [] := by
  refine call_res (G := tys) (fun κ : LB × (Nat × Nat) => dGet κ.1.D n = some ⟨l.boot, l.left, κ.2⟩ ∧ livesOK T.lives ⟨κ.1.D, (κ.2, l.W) :: κ.1.F⟩) (fun κ => [some (mainC κ.1.F T.most), some (mapC entV T.E), some (mapC lifV κ.1.D), some (winX (atX κ.2) l.W)]) [⟨i, tblC T, tblC T, tblC (⟨T.most, E', setL T.lives n ⟨boot, false, W'⟩⟩)⟩] [] [.pointer (some ⟨0, 0, some 0⟩), .int .i64 n, .int .i64 boot, .int .i64 seq, .int .i64 now] tysOK mixed Try.func10 (by rfl) (Try.call10) ⟨hi, trivial⟩ ⟨⟨fun h => ⟨rfl, Nat.le_refl _⟩, Nat.le_refl _, fun j hj => absurd hj (Nat.not_lt_zero j)⟩, trivial⟩ (by simp [Apart]) ⟨.inr ⟨rfl, rfl⟩, trivial⟩ trivial ⟨.ptr rfl, .plain rfl, .plain rfl, .plain rfl, .plain rfl, trivial⟩ (tblOpenW T n l hl) ?_
  rintro ⟨⟨D, F⟩, q⟩ ⟨hg, hβ⟩
  have hg : dGet D n = some ⟨l.boot, l.left, q⟩ := hg
  have hg2 : dGet D n = some ⟨boot, false, q⟩ := by rw [hg, hb1, hlf]
  have hn := ha.1
  subst hE'
  repeat' (refine N.go ?_; first | with_reducible refine N.obl (by decide) ?_ | with_reducible refine N.obl (flat_wi _ _ _) ?_ | with_reducible refine N.obl (flat_lim _ _) ?_ | with_reducible refine N.eq ?_ | with_reducible refine N.obl rfl ?_ | with_reducible refine N.obl ⟨by kernel_rfl, by kernel_rfl⟩ ?_ | with_reducible refine N.forkT ?_ | with_reducible refine N.forkF ?_ | refine N.call (cTnode _ _) ?_ | refine N.call (cMay _ _) ?_ | refine N.call (cTtime _ _) ?_ | refine N.forkNo (by rw [decide_eq_true ha.1]; rfl) ?_ | refine N.forkNo (by rw [decide_eq_true ha.2.1]; rfl) ?_ | refine N.forkNo (by rw [decide_eq_true ha.2.2.1]; rfl) ?_ | refine N.forkNo (by rw [decide_eq_true ha.2.2.2]; rfl) ?_ | refine N.call (cBeginB _ _ _ _ _ _ _ ⟨l.boot, l.left, q⟩ hg hb1 hlf 0 1 2 _ (by rfl) (by rfl) (by rfl) (by decide)) ?_ | refine N_put lifV D ⟨boot, false, q⟩ rfl rfl ⟨by omega, by omega⟩ rfl Try.underlying65 Try.underlying3 ?_ | refine N.call (call_at [.pointer (some ⟨3, 0, some 0⟩), .int .i64 seq] (by rfl) rfl ⟨.ptr, .same _, trivial⟩ (.inr ⟨_, .head _⟩) (cWHear (atX q) l.W W' seq 0 3 hs ha.2.2.1 hw _ (by rfl))) ?_ | refine N_look entV (T.E) rfl Try.underlying64 Try.underlying3 Try.type36 rfl (.tuple ⟨[entV Ent.zero, .bool false]⟩) (by rw [hth]; rfl) rfl ?_ | refine N_lenM entV (T.E) rfl rfl Try.underlying64 ?_ | refine N.forkNo (by rw [decide_eq_false_iff_not]; omega) ?_ | refine N_put entV (T.E) ⟨n, boot, now, Ent.zero.has, Ent.zero.x, Ent.zero.y, Ent.zero.a, Ent.zero.b, Ent.zero.d, Ent.zero.when_⟩ rfl rfl ⟨by omega, by omega⟩ rfl Try.underlying64 Try.underlying3 ?_ | refine N.forkT ?_ | refine N.forkF ?_ | refine N.forkYes (by decide) ?_ | refine N.forkNo (by decide) ?_ | fail_if_success skip)
  refine N.go ?_
  refine hearClose ⟨T.most, _, setL T.lives n ⟨boot, false, W'⟩⟩ _ F q W' rfl (by rfl) (fun hq => livesOK_win hβ hg2 hq W') ?_
  repeat' (refine N.go ?_; first | with_reducible refine N.obl (by decide) ?_ | with_reducible refine N.obl (flat_wi _ _ _) ?_ | with_reducible refine N.obl (flat_lim _ _) ?_ | with_reducible refine N.eq ?_ | with_reducible refine N.obl rfl ?_ | with_reducible refine N.obl ⟨by kernel_rfl, by kernel_rfl⟩ ?_ | with_reducible refine N.forkT ?_ | with_reducible refine N.forkF ?_ | refine N.obl (.plain rfl) ?_ | refine N.obl ⟨⟨_, rfl, id, Nat.le_refl _, fun j hj => absurd hj (Nat.not_lt_zero j)⟩, trivial⟩ ?_ | refine N.obl trivial ?_ | refine N.obl ⟨⟨.inr ⟨_, rfl, rfl⟩, trivial⟩, trivial⟩ ?_ | exact N.true | fail_if_success skip)
set_option maxRecDepth 100000 in
set_option maxHeartbeats 2000000 in
theorem cHearKfull (T : Tbl) (n boot seq now : Int) (ha : argsOK n boot seq now) (l : Life) (hl : T.lives n = some l) (hb1 : l.boot = boot) (hlf : l.left = false) (hs : l.W.seen < 18446744073709551616) (W' : Win) (hw : whear l.W seq = (0, W')) (hth : dGet (T.E) n = none) (hrm : T.most ≤ (T.E).length) (hE : (T.E).length ≤ 64) (hpos : 0 < (T.E).length) (E' : List (Int × Ent)) (hE' : E' = dPut (dDel (T.E) (minT (entT (T.E)) (T.E).length).node) n ⟨n, boot, now, Ent.zero.has, Ent.zero.x, Ent.zero.y, Ent.zero.a, Ent.zero.b, Ent.zero.d, Ent.zero.when_⟩) (i : Nat) (h : List (Option Chunk)) (hi : h[i]? = some (some (tblC T))) :
    CallOK Try.prog 10 [.pointer (some ⟨i, 0, some 0⟩), .int .i64 n, .int .i64 boot, .int .i64 seq, .int .i64 now] h (.int .i64 0) [(i, tblC (⟨T.most, E', setL T.lives n ⟨boot, false, W'⟩⟩))] [] := by
  refine call_res (G := tys) (fun κ : LB × (Nat × Nat) => dGet κ.1.D n = some ⟨l.boot, l.left, κ.2⟩ ∧ livesOK T.lives ⟨κ.1.D, (κ.2, l.W) :: κ.1.F⟩) (fun κ => [some (mainC κ.1.F T.most), some (mapC entV T.E), some (mapC lifV κ.1.D), some (winX (atX κ.2) l.W)]) [⟨i, tblC T, tblC T, tblC (⟨T.most, E', setL T.lives n ⟨boot, false, W'⟩⟩)⟩] [] [.pointer (some ⟨0, 0, some 0⟩), .int .i64 n, .int .i64 boot, .int .i64 seq, .int .i64 now] tysOK mixed Try.func10 (by rfl) (Try.call10) ⟨hi, trivial⟩ ⟨⟨fun h => ⟨rfl, Nat.le_refl _⟩, Nat.le_refl _, fun j hj => absurd hj (Nat.not_lt_zero j)⟩, trivial⟩ (by simp [Apart]) ⟨.inr ⟨rfl, rfl⟩, trivial⟩ trivial ⟨.ptr rfl, .plain rfl, .plain rfl, .plain rfl, .plain rfl, trivial⟩ (tblOpenW T n l hl) ?_
  rintro ⟨⟨D, F⟩, q⟩ ⟨hg, hβ⟩
  have hg : dGet D n = some ⟨l.boot, l.left, q⟩ := hg
  have hg2 : dGet D n = some ⟨boot, false, q⟩ := by rw [hg, hb1, hlf]
  have hn := ha.1
  subst hE'
  repeat' (refine N.go ?_; first | with_reducible refine N.obl (by decide) ?_ | with_reducible refine N.obl (flat_wi _ _ _) ?_ | with_reducible refine N.obl (flat_lim _ _) ?_ | with_reducible refine N.eq ?_ | with_reducible refine N.obl rfl ?_ | with_reducible refine N.obl ⟨by kernel_rfl, by kernel_rfl⟩ ?_ | with_reducible refine N.forkT ?_ | with_reducible refine N.forkF ?_ | refine N.call (cTnode _ _) ?_ | refine N.call (cMay _ _) ?_ | refine N.call (cTtime _ _) ?_ | refine N.forkNo (by rw [decide_eq_true ha.1]; rfl) ?_ | refine N.forkNo (by rw [decide_eq_true ha.2.1]; rfl) ?_ | refine N.forkNo (by rw [decide_eq_true ha.2.2.1]; rfl) ?_ | refine N.forkNo (by rw [decide_eq_true ha.2.2.2]; rfl) ?_ | refine N.call (cBeginB _ _ _ _ _ _ _ ⟨l.boot, l.left, q⟩ hg hb1 hlf 0 1 2 _ (by rfl) (by rfl) (by rfl) (by decide)) ?_ | refine N_put lifV D ⟨boot, false, q⟩ rfl rfl ⟨by omega, by omega⟩ rfl Try.underlying65 Try.underlying3 ?_ | refine N.call (call_at [.pointer (some ⟨3, 0, some 0⟩), .int .i64 seq] (by rfl) rfl ⟨.ptr, .same _, trivial⟩ (.inr ⟨_, .head _⟩) (cWHear (atX q) l.W W' seq 0 3 hs ha.2.2.1 hw _ (by rfl))) ?_ | refine N_look entV (T.E) rfl Try.underlying64 Try.underlying3 Try.type36 rfl (.tuple ⟨[entV Ent.zero, .bool false]⟩) (by rw [hth]; rfl) rfl ?_ | refine N_lenM entV (T.E) rfl rfl Try.underlying64 ?_ | refine N.forkYes (by rw [decide_eq_true_eq]; omega) ?_ | refine N.call (cElder _ true T.most (T.E) (dPut D n ⟨boot, false, q⟩) hE hpos 0 1 2 _ (by rfl) (by rfl) (by rfl) (by decide)) ?_ | refine N_del entV (T.E) rfl rfl rfl Try.underlying64 Try.underlying3 ?_ | refine N_put entV (dDel (T.E) (minT (entT (T.E)) (T.E).length).node) ⟨n, boot, now, Ent.zero.has, Ent.zero.x, Ent.zero.y, Ent.zero.a, Ent.zero.b, Ent.zero.d, Ent.zero.when_⟩ rfl rfl ⟨by omega, by omega⟩ rfl Try.underlying64 Try.underlying3 ?_ | refine N.forkT ?_ | refine N.forkF ?_ | refine N.forkYes (by decide) ?_ | refine N.forkNo (by decide) ?_ | fail_if_success skip)
  refine N.go ?_
  refine hearClose ⟨T.most, _, setL T.lives n ⟨boot, false, W'⟩⟩ _ F q W' rfl (by rfl) (fun hq => livesOK_win hβ hg2 hq W') ?_
  repeat' (refine N.go ?_; first | with_reducible refine N.obl (by decide) ?_ | with_reducible refine N.obl (flat_wi _ _ _) ?_ | with_reducible refine N.obl (flat_lim _ _) ?_ | with_reducible refine N.eq ?_ | with_reducible refine N.obl rfl ?_ | with_reducible refine N.obl ⟨by kernel_rfl, by kernel_rfl⟩ ?_ | with_reducible refine N.forkT ?_ | with_reducible refine N.forkF ?_ | refine N.obl (.plain rfl) ?_ | refine N.obl ⟨⟨_, rfl, id, Nat.le_refl _, fun j hj => absurd hj (Nat.not_lt_zero j)⟩, trivial⟩ ?_ | refine N.obl trivial ?_ | refine N.obl ⟨⟨.inr ⟨_, rfl, rfl⟩, trivial⟩, trivial⟩ ?_ | exact N.true | fail_if_success skip)
end Go.Proofs.Ytpafcfelaaibgaa
