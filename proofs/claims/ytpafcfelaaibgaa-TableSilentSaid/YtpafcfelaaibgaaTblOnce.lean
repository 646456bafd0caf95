/-
  The plain law of TableOnce: of one life no number is heard twice.
-/
import Derived.Test.YtpafcfelaaibgaaKey3
import Derived.Test.YtpafcfelaaibgaaMapS
set_option linter.unusedVariables false
set_option linter.unusedSimpArgs false
namespace Go.Proofs.Ytpafcfelaaibgaa
open Go Go.RowKit Sx

/-- A window after the numbers H were heard (numbers below 2^14). -/
structure WinH (W : Win) (H : Int → Prop) : Prop where
  any : W.any = true
  last : 0 ≤ W.last ∧ W.last < 16384
  le : ∀ s, H s → 0 ≤ s ∧ s ≤ W.last
  bit : ∀ s, H s → W.last - s < 64 → W.seen.testBit (W.last - s).toNat = true
theorem serD_small {a b : Int} (ha : 0 ≤ a ∧ a < 16384) (hb : 0 ≤ b ∧ b < 16384) : serD a b = b - a := by
  unfold serD serOK; rw [if_pos (by omega)]; split <;> omega
theorem whear_new (q : Int) (hq : 0 ≤ q ∧ q < 16384) : WinH ⟨true, q, 1⟩ (fun s => s = q) where
  any := rfl
  last := hq
  le := fun s hs => by subst hs; exact ⟨hq.1, Int.le_refl _⟩
  bit := fun s hs _ => by subst hs; show Nat.testBit 1 (s - s).toNat = true; rw [Int.sub_self]; decide
theorem whear_once {W W' : Win} {H : Int → Prop} {q : Int} (h : WinH W H) (hq : 0 ≤ q ∧ q < 16384) (he : whear W q = (0, W')) : ¬ H q ∧ WinH W' (fun s => H s ∨ s = q) := by
  have hs := serD_small h.last hq
  have hl := h.last
  unfold whear at he
  rw [if_neg (by rw [h.any]; simp), if_neg (by omega)] at he
  by_cases hd : 0 < serD W.last q
  · rw [if_pos hd] at he
    obtain rfl := (Prod.mk.inj he).2
    refine ⟨fun hh => by have := (h.le q hh).2; omega, ⟨rfl, hq, fun s hs => ?_, fun s hs hlt => ?_⟩⟩
    · rcases hs with hs | rfl
      · exact ⟨(h.le s hs).1, by show s ≤ q; have := (h.le s hs).2; omega⟩
      · exact ⟨hq.1, Int.le_refl _⟩
    · have hlt : q - s < 64 := hlt
      show ((W.seen * 2 ^ (serD W.last q).toNat % 18446744073709551616) ||| 1).testBit (q - s).toNat = true
      rw [Nat.testBit_or]
      rcases hs with hs' | rfl
      · have h1 := h.le s hs'
        have h2 := h.bit s hs' (by omega)
        have e : W.seen * 2 ^ (serD W.last q).toNat % 18446744073709551616 = W.seen * 2 ^ (serD W.last q).toNat % 2 ^ 64 := rfl
        rw [e, Nat.testBit_mod_two_pow, Nat.testBit_mul_two_pow, hs]
        have e2 : (q - s).toNat - (q - W.last).toNat = (W.last - s).toNat := by omega
        rw [e2, h2]
        have e3 : (q - s).toNat < 64 := by omega
        have e4 : (q - W.last).toNat ≤ (q - s).toNat := by omega
        simp [e3, e4]
      · rw [Int.sub_self]; simp
  · rw [if_neg hd] at he
    split at he
    · cases (Prod.mk.inj he).1
    · rename_i hn
      obtain rfl := (Prod.mk.inj he).2
      have hb : bitW W.last q ≠ 0 ∧ W.seen &&& bitW W.last q = 0 := by
        constructor
        · exact fun e => hn (.inl e)
        · exact Classical.byContradiction fun e => hn (.inr e)
      have hr : -serD W.last q < 64 := by
        refine Classical.byContradiction fun e => hb.1 ?_
        unfold bitW; rw [if_pos (by omega)]
      have hw : bitW W.last q = 2 ^ (W.last - q).toNat := by
        unfold bitW; rw [if_neg (by omega), hs]; congr 1; omega
      rw [hw, and_pow] at hb
      have hnb : W.seen.testBit (W.last - q).toNat = false := by
        cases hc : W.seen.testBit (W.last - q).toNat with
        | false => rfl
        | true => rw [hc] at hb; exact absurd hb.2 (by simp)
      refine ⟨fun hh => (by rw [h.bit q hh (by omega)] at hnb; cases hnb), ⟨rfl, hl, fun s hs => ?_, fun s hs hlt => ?_⟩⟩
      · rcases hs with hs | rfl
        · exact h.le s hs
        · exact ⟨hq.1, by show s ≤ W.last; omega⟩
      · have hlt : W.last - s < 64 := hlt
        show (W.seen ||| bitW W.last q).testBit (W.last - s).toNat = true
        rw [hw, Nat.testBit_or, Nat.testBit_two_pow]
        rcases hs with hs | rfl
        · rw [h.bit s hs hlt]; rfl
        · simp
theorem WinH.sub {W : Win} {H H' : Int → Prop} (h : WinH W H) (hs : ∀ s, H' s → H s) : WinH W H' := ⟨h.any, h.last, fun s k => h.le s (hs s k), fun s k => h.bit s (hs s k)⟩
theorem whear_same {W : Win} {q : Int} (h : (whear W q).1 ≠ 0) : (whear W q).2 = W := by
  unfold whear at h ⊢
  repeat' split
  all_goals first | rfl | (exfalso; simp_all)
theorem kGet_push {D : List (K3 × Int)} {k : K3} (c : Int) (hg : kGet D k = none) (k' : K3) : kGet (D ++ [(k, c)]) k' = if k' = k then some c else kGet D k' := by
  unfold kGet at hg ⊢
  rw [List.find?_append]
  by_cases e : k' = k
  · subst e
    rw [if_pos rfl]
    simp only [Option.map_eq_none_iff] at hg
    rw [hg]; simp
  · rw [if_neg e]
    have : List.find? (fun q => decide (q.1 = k')) [(k, c)] = none := by simp [Ne.symm e]
    rw [this]; simp
def upd {β : Type} (f : Fin 4 → β) (n : Fin 4) (b : β) : Fin 4 → β := fun m => if m = n then b else f m
theorem upd_at {β : Type} (f : Fin 4 → β) (n : Fin 4) (b : β) : upd f n b n = b := if_pos rfl
theorem upd_ne {β : Type} {f : Fin 4 → β} {n m : Fin 4} {b : β} (h : m ≠ n) : upd f n b m = f m := if_neg h
abbrev ni (n : Fin 4) : Int := (n.val : Nat)
/-- A table, what was heard, the newest lives, and which of them have left. -/
structure Once (T : Tbl) (D : List (K3 × Int)) (lf : Fin 4 → Int) (lt : Fin 4 → Bool) : Prop where
  ok : TOK T
  ek : EOK T.E
  no : ∀ n : Fin 4, T.lives (ni n) = none → lf n = -1 ∧ lt n = false ∧ ∀ k, kGet D k ≠ none → k.1 ≠ n
  so : ∀ (n : Fin 4) (l : Life), T.lives (ni n) = some l → lf n = l.boot ∧ lt n = l.left ∧ ∃ b : Fin 16, l.boot = (b.val : Nat) ∧ WinH l.W (fun s => ∃ q : Fin 16384, kGet D (n, b, q) ≠ none ∧ s = (q.val : Nat)) ∧ ∀ k, kGet D k ≠ none → k.1 = n → k.2.1.val ≤ b.val
theorem once_new (m : Int) : Once (Tbl.new m) [] (fun _ => -1) (fun _ => false) := by
  obtain ⟨a, b⟩ := new_ok m
  exact ⟨a, b, fun n _ => ⟨rfl, rfl, fun k hk => absurd rfl hk⟩, fun n l hl => by cases hl⟩
theorem win_lives' {T : Tbl} {n boot now : Int} {E : List (Int × Ent)} {W : Win} : (T.win n boot now E W).lives n = some ⟨boot, false, W⟩ := by
  show setL T.lives n _ n = _
  unfold setL; rw [if_pos rfl]
theorem win_ne {T : Tbl} {n m boot now : Int} {E : List (Int × Ent)} {W : Win} (h : m ≠ n) : (T.win n boot now E W).lives m = T.lives m := by
  show setL T.lives n _ m = _
  unfold setL; rw [if_neg h]
theorem once_win {T : Tbl} {D : List (K3 × Int)} {lf : Fin 4 → Int} {lt : Fin 4 → Bool} (h : Once T D lf lt) (n : Fin 4) (b : Fin 16) (q : Fin 16384) (now : Int) (E : List (Int × Ent)) (W' : Win) (k1 : TOK (T.win (ni n) (b.val : Nat) now E W')) (k2 : EOK (T.win (ni n) (b.val : Nat) now E W').E) (hg : kGet D (n, b, q) = none)
    (hW : WinH W' (fun s => (∃ q' : Fin 16384, kGet D (n, b, q') ≠ none ∧ s = (q'.val : Nat)) ∨ s = (q.val : Nat))) (hle : ∀ k, kGet D k ≠ none → k.1 = n → k.2.1.val ≤ b.val) :
    Once (T.win (ni n) (b.val : Nat) now E W') (D ++ [((n, b, q), 1)]) (upd lf n (b.val : Nat)) (upd lt n false) := by
  have hne : ∀ m : Fin 4, m ≠ n → ni m ≠ ni n := fun m hm e => hm (Fin.ext (by unfold ni at e; omega))
  have hkey : ∀ k, kGet (D ++ [((n, b, q), 1)]) k ≠ none → k = (n, b, q) ∨ kGet D k ≠ none := fun k hk => by
    rw [kGet_push 1 hg] at hk
    by_cases e : k = (n, b, q)
    · exact .inl e
    · rw [if_neg e] at hk; exact .inr hk
  refine ⟨k1, k2, fun m hm => ?_, fun m l hl => ?_⟩
  · by_cases e : m = n
    · subst e
      rw [win_lives'] at hm; cases hm
    · rw [win_ne (hne m e)] at hm
      obtain ⟨a1, a2, a3⟩ := h.no m hm
      refine ⟨by rw [upd_ne e]; exact a1, by rw [upd_ne e]; exact a2, fun k hk => ?_⟩
      rcases hkey k hk with rfl | hk
      · exact fun e2 => e e2.symm
      · exact a3 k hk
  · by_cases e : m = n
    · subst e
      rw [win_lives'] at hl
      obtain rfl := Option.some.inj hl
      refine ⟨upd_at _ _ _, upd_at _ _ _, b, rfl, hW.sub fun s hs => ?_, fun k hk e2 => ?_⟩
      · obtain ⟨q', h1, h2⟩ := hs
        rcases hkey _ h1 with e3 | h1
        · right
          have : q' = q := by simpa using e3
          rw [h2, this]
        · exact .inl ⟨q', h1, h2⟩
      · rcases hkey k hk with rfl | hk
        · exact Nat.le_refl _
        · exact hle k hk e2
    · rw [win_ne (hne m e)] at hl
      obtain ⟨a1, a2, b', a3, a4, a5⟩ := h.so m l hl
      refine ⟨by rw [upd_ne e]; exact a1, by rw [upd_ne e]; exact a2, b', a3, a4.sub fun s hs => ?_, fun k hk e2 => ?_⟩
      · obtain ⟨q', h1, h2⟩ := hs
        rcases hkey _ h1 with e3 | h1
        · exact absurd (Prod.mk.inj e3).1 e
        · exact ⟨q', h1, h2⟩
      · rcases hkey k hk with rfl | hk
        · exact absurd e2.symm e
        · exact a5 k hk e2
/-- A window that is laid anew as it was changes nothing. -/
theorem once_same {T T' : Tbl} {D : List (K3 × Int)} {lf : Fin 4 → Int} {lt : Fin 4 → Bool} (h : Once T D lf lt) (k1 : TOK T') (k2 : EOK T'.E) (hl : ∀ m, T'.lives m = T.lives m) : Once T' D lf lt :=
  ⟨k1, k2, fun n hn => h.no n ((hl _).symm.trans hn), fun n l hn => h.so n l ((hl _).symm.trans hn)⟩
/-- A number is heard: it was not heard before, no newer life is there, and it has not left. -/
def OnceOk (T : Tbl) (D : List (K3 × Int)) (lf : Fin 4 → Int) (lt : Fin 4 → Bool) (n : Fin 4) (b : Fin 16) (q : Fin 16384) (i : Nat) : Prop :=
    ∃ T' e1, hearT T (ni n) (b.val : Nat) (q.val : Nat) i = (0, T') ∧ Once T' (D ++ [((n, b, q), 1)]) (upd lf n (b.val : Nat)) (upd lt n false) ∧ kGet D (n, b, q) = none ∧ lf n ≤ (b.val : Nat) ∧ (lf n = (b.val : Nat) → lt n = false) ∧ dGet T'.E (ni n) = some e1 ∧ e1.boot = (b.val : Nat) ∧ e1.heard = i
/-- Hear, in all cases. -/
theorem once_hear {T : Tbl} {D : List (K3 × Int)} {lf : Fin 4 → Int} {lt : Fin 4 → Bool} (h : Once T D lf lt) (n : Fin 4) (b : Fin 16) (q : Fin 16384) (i : Nat) (hi : i < 150) :
    (∃ T' e, hearT T (ni n) (b.val : Nat) (q.val : Nat) i = (e, T') ∧ e ≠ 0 ∧ Once T' D lf lt) ∨
    OnceOk T D lf lt n b q i := by
  have hn := n.isLt
  have hb := b.isLt
  have hq := q.isLt
  have ha : argsOK (ni n) (b.val : Nat) (q.val : Nat) i := ⟨⟨by unfold ni; omega, by unfold ni; omega⟩, ⟨by omega, by omega⟩, ⟨by omega, by omega⟩, by omega, by omega⟩
  have fin : ∀ (E : List (Int × Ent)) (W' : Win), hearT T (ni n) (b.val : Nat) (q.val : Nat) i = (0, T.win (ni n) (b.val : Nat) i E W') → kGet D (n, b, q) = none →
      WinH W' (fun s => (∃ q' : Fin 16384, kGet D (n, b, q') ≠ none ∧ s = (q'.val : Nat)) ∨ s = (q.val : Nat)) → (∀ k, kGet D k ≠ none → k.1 = n → k.2.1.val ≤ b.val) → lf n ≤ (b.val : Nat) → (lf n = (b.val : Nat) → lt n = false) → OnceOk T D lf lt n b q i := fun E W' he hg hW hle h1 h2 => by
    obtain ⟨k1, k2, _⟩ := hearT_ok h.ok h.ek he
    exact ⟨_, _, he, once_win h n b q i E W' k1 k2 hg hW hle, hg, h1, h2, dGet_put_same _ _ _, rfl, rfl⟩
  cases hl : T.lives (ni n) with
  | none =>
    obtain ⟨a1, a2, a3⟩ := h.no n hl
    refine .inr <| fin (begE T.E (ni n)) ⟨true, (q.val : Nat), 1⟩ (by unfold hearT; rw [if_pos ha, hl]) ?_ ((whear_new _ (by omega)).sub fun s hs => ?_) (fun k hk e => absurd e (a3 k hk)) (by omega) (fun e => a2)
    · exact Classical.byContradiction fun hk => a3 _ hk rfl
    · rcases hs with ⟨q', h1, _⟩ | hs
      · exact absurd rfl (a3 _ h1)
      · exact hs
  | some l =>
    obtain ⟨a1, a2, b', a3, a4, a5⟩ := h.so n l hl
    have hb' := b'.isLt
    by_cases e : l.boot = (b.val : Nat)
    · obtain rfl : b' = b := Fin.ext (by omega)
      cases hlf : l.left with
      | true =>
        have he : hearT T (ni n) (b'.val : Nat) (q.val : Nat) i = (9, T) := by unfold hearT; rw [if_pos ha, hl]; simp only [if_pos e, if_pos hlf]
        exact .inl ⟨_, _, he, by decide, h⟩
      | false =>
        have hlf' : ¬ l.left = true := by rw [hlf]; simp
        by_cases hw : (whear l.W (q.val : Nat)).1 = 0
        · have he : hearT T (ni n) (b'.val : Nat) (q.val : Nat) i = (0, T.win (ni n) (b'.val : Nat) i T.E (whear l.W (q.val : Nat)).2) := by unfold hearT; rw [if_pos ha, hl]; simp only [if_pos e, if_neg hlf', if_pos hw]
          obtain ⟨o1, o2⟩ := whear_once (W' := (whear l.W (q.val : Nat)).2) a4 (show 0 ≤ ((q.val : Nat) : Int) ∧ ((q.val : Nat) : Int) < 16384 by omega) (by rw [← hw])
          refine .inr <| fin _ _ he ?_ o2 a5 (by omega) (fun _ => by rw [a2, hlf])
          exact Classical.byContradiction fun hk => o1 ⟨q, hk, rfl⟩
        · have he : hearT T (ni n) (b'.val : Nat) (q.val : Nat) i = (9, ⟨T.most, T.E, setL T.lives (ni n) ⟨(b'.val : Nat), false, (whear l.W (q.val : Nat)).2⟩⟩) := by unfold hearT; rw [if_pos ha, hl]; simp only [if_pos e, if_neg hlf', if_neg hw]
          obtain ⟨k1, k2, _⟩ := hearT_ok h.ok h.ek he
          refine .inl ⟨_, _, he, by decide, once_same h k1 k2 fun m => ?_⟩
          show setL T.lives (ni n) _ m = _
          unfold setL
          by_cases em : m = ni n
          · rw [if_pos em, em, hl, whear_same hw, ← e]; cases l; simp_all
          · rw [if_neg em]
    · by_cases hs : 0 < serD l.boot (b.val : Nat) ∧ serD l.boot (b.val : Nat) < 32768
      · have he : hearT T (ni n) (b.val : Nat) (q.val : Nat) i = (0, T.win (ni n) (b.val : Nat) i (begE T.E (ni n)) ⟨true, (q.val : Nat), 1⟩) := by unfold hearT; rw [if_pos ha, hl]; simp only [if_neg e, if_pos hs]
        have hsd := serD_small (a := l.boot) (b := (b.val : Nat)) (by omega) (by omega)
        have nokey : ∀ q', ¬ kGet D (n, b, q') ≠ none := fun q' hk => by have := a5 _ hk rfl; have this : b.val ≤ b'.val := this; omega
        refine .inr <| fin _ _ he (Classical.byContradiction fun hk => nokey q hk) ((whear_new _ (by omega)).sub fun s hs => ?_) (fun k hk e2 => by have := a5 k hk e2; omega) (by omega) (fun e2 => by omega)
        rcases hs with ⟨q', h1, _⟩ | hs
        · exact absurd h1 (nokey q')
        · exact hs
      · have he : hearT T (ni n) (b.val : Nat) (q.val : Nat) i = (9, T) := by unfold hearT; rw [if_pos ha, hl]; simp only [if_neg e, if_neg hs]
        exact .inl ⟨_, _, he, by decide, h⟩
theorem once_leave {T : Tbl} {D : List (K3 × Int)} {lf : Fin 4 → Int} {lt : Fin 4 → Bool} (h : Once T D lf lt) (n : Fin 4) (l : Life) (hl : T.lives (ni n) = some l) :
    0 ≤ lf n ∧ Once ⟨T.most, dDel T.E (ni n), setL T.lives (ni n) ⟨l.boot, true, l.W⟩⟩ D lf (upd lt n true) := by
  obtain ⟨a1, a2, b', a3, a4, a5⟩ := h.so n l hl
  refine ⟨by omega, ⟨h.ok.most, ?_, fun m l' hl' => ?_⟩, h.ek.del _, fun m hm => ?_, fun m l' hl' => ?_⟩
  · have := h.ok.len; have := len_del_le T.E (ni n); show ((dDel T.E (ni n)).length : Int) ≤ T.most; omega
  · have hl' : setL T.lives (ni n) ⟨l.boot, true, l.W⟩ m = some l' := hl'
    unfold setL at hl'
    split at hl'
    · obtain rfl := Option.some.inj hl'
      exact h.ok.seen _ l hl
    · exact h.ok.seen m l' hl'
  · have hm : setL T.lives (ni n) ⟨l.boot, true, l.W⟩ (ni m) = none := hm
    unfold setL at hm
    split at hm
    · cases hm
    · rename_i e
      have e : m ≠ n := fun e2 => e (by rw [e2])
      rw [upd_ne e]; exact h.no m hm
  · replace hl' : setL T.lives (ni n) ⟨l.boot, true, l.W⟩ (ni m) = some l' := hl'
    unfold setL at hl'
    split at hl'
    · rename_i e
      obtain rfl : m = n := Fin.ext (by unfold ni at e; omega)
      obtain rfl := Option.some.inj hl'
      exact ⟨a1, upd_at _ _ _, b', a3, a4, a5⟩
    · rename_i e
      have e : m ≠ n := fun e2 => e (by rw [e2])
      rw [upd_ne e]; exact h.so m l' hl'
theorem once_no {T : Tbl} {D : List (K3 × Int)} {lf : Fin 4 → Int} {lt : Fin 4 → Bool} (h : Once T D lf lt) (n : Fin 4) (hl : T.lives (ni n) = none) : lf n = -1 ∧ lt n = false := ⟨(h.no n hl).1, (h.no n hl).2.1⟩
theorem evE_ok {E : List (Int × Ent)} (h : EOK E) (p : Ent → Bool) : ∀ r, EOK (evE E p r) ∧ (evE E p r).length ≤ E.length
  | 0 => ⟨h, Nat.le_refl _⟩
  | r + 1 => by
    obtain ⟨h1, h2⟩ := evE_ok h p r
    unfold evE
    split
    · exact ⟨h1.del _, Nat.le_trans (len_del_le _ _) h2⟩
    · exact ⟨h1, h2⟩
theorem once_ev {T : Tbl} {D : List (K3 × Int)} {lf : Fin 4 → Int} {lt : Fin 4 → Bool} (h : Once T D lf lt) (now silent : Int) : Once (T.ev now silent) D lf lt := by
  obtain ⟨h1, h2⟩ := evE_ok h.ek (evP now silent) T.E.length
  refine once_same h ⟨h.ok.most, ?_, h.ok.seen⟩ h1 fun m => rfl
  have := h.ok.len
  show ((evE T.E (evP now silent) T.E.length).length : Int) ≤ T.most
  omega
end Go.Proofs.Ytpafcfelaaibgaa
