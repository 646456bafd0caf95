import Derived.Test.YtpafcfelaaibgaaRows
import Derived.Test.YtpafcfelaaibgaaM6

/-
  The statement TableTracks: for every input the law returns true.
-/
set_option linter.unusedVariables false
set_option linter.unusedSimpArgs false
namespace Go.Proofs.Ytpafcfelaaibgaa.tableTracks
open Go Go.ChangeShapes Go.WideShapes Go.ChangeAt Go.RowKit Sx

theorem new_lives (most n : Int) : (Tbl.new most).lives n = none := rfl
theorem win_lives (T : Tbl) (n boot now : Int) (E : List (Int × Ent)) (W : Win) : (T.win n boot now E W).lives n = some ⟨boot, false, W⟩ := by
  show setL T.lives n _ n = _
  unfold setL; rw [if_pos rfl]
theorem row1 {n i p m : Nat} {f : Nat → Value} {cl : Nat → Nat → Int} (hf : ∀ i, i < n → ∀ j, j < 1 → f (i * 1 + j) = .int .i64 (cl i j)) (hi : i < n) (hp : p = i * 1) (hm : m = 1) :
    Reads ⟨false, n * 1, [(0, n * 1, .agg ⟨segL (n * 1) f⟩)]⟩ p false m (.int .i64 (cl i 0)) := by
  subst hp hm
  exact ⟨by show i * 1 < n * 1; omega, rfl, by rw [seg_at (by omega)]; exact hf i hi 0 (by decide)⟩
theorem setL_at (lv : Int → Option Life) (n : Int) (l : Life) : setL lv n l n = some l := by unfold setL; rw [if_pos rfl]
theorem setL_ne {lv : Int → Option Life} {n m : Int} (l : Life) (h : m ≠ n) : setL lv n l m = lv m := by unfold setL; rw [if_neg h]
theorem hear_left {T : Tbl} {n boot seq now : Int} {l : Life} (ha : argsOK n boot seq now) (hl : T.lives n = some l) (hb : l.boot = boot) (hf : l.left = true) : hearT T n boot seq now = (9, T) := by
  unfold hearT; rw [if_pos ha, hl]; simp only [if_pos hb, if_pos hf]
theorem hear_old {T : Tbl} {n boot seq now : Int} {l : Life} (ha : argsOK n boot seq now) (hl : T.lives n = some l) (hb : l.boot ≠ boot) (hf : ¬ (0 < serD l.boot boot ∧ serD l.boot boot < 32768)) : hearT T n boot seq now = (9, T) := by
  unfold hearT; rw [if_pos ha, hl]; simp only [if_neg hb, if_neg hf]
theorem hear_next {T : Tbl} {n boot seq now : Int} {l : Life} (ha : argsOK n boot seq now) (hl : T.lives n = some l) (hb : l.boot ≠ boot) (hf : 0 < serD l.boot boot ∧ serD l.boot boot < 32768) : hearT T n boot seq now = (0, T.win n boot now (begE T.E n) ⟨true, seq, 1⟩) := by
  unfold hearT; rw [if_pos ha, hl]; simp only [if_neg hb, if_pos hf]
set_option maxRecDepth 100000 in
theorem open_e {H : Type} {enc : TypeId × Value → H} {W : World} {r : Reach} {base : Nat} {v : Value} {d : DataW H} {p : List MemPlace}
    (hv : Value.okWide Try.prog W r base 34 v) (h : DataW.Trod enc Try.prog W 0 (fun _ => true) true 34 v d p) :
    ∃ x0 x1 x2 x3 x4 : Int, v = .agg #[.int .i64 x0, .int .i64 x1, .int .i64 x2, .int .i64 x3, .int .i64 x4] := by
  obtain ⟨cs, rfl, hs⟩ := okWide_struct Try.underlying34 hv
  have hs2 : cs.size = 5 := hs.trans (by kernel_rfl)
  obtain ⟨l⟩ := cs
  match l, hs2 with
  | [c0, c1, c2, c3, c4], _ =>
    obtain ⟨fuel, hf⟩ := h
    have hf' : DataW.trod enc Try.prog W 0 (fun _ => true) true fuel 34 [c0, c1, c2, c3, c4] = some (d, p) := hf
    obtain ⟨k0, w0⟩ := leaf_int (d := 3) (l := 2) (j := 0) (u := c0) (by kernel_rfl) (@Try.underlying2) rfl hf'
    obtain ⟨k1, w1⟩ := leaf_int (d := 3) (l := 2) (j := 1) (u := c1) (by kernel_rfl) (@Try.underlying2) rfl hf'
    obtain ⟨k2, w2⟩ := leaf_int (d := 3) (l := 2) (j := 2) (u := c2) (by kernel_rfl) (@Try.underlying2) rfl hf'
    obtain ⟨k3, w3⟩ := leaf_int (d := 3) (l := 2) (j := 3) (u := c3) (by kernel_rfl) (@Try.underlying2) rfl hf'
    obtain ⟨k4, w4⟩ := leaf_int (d := 3) (l := 2) (j := 4) (u := c4) (by kernel_rfl) (@Try.underlying2) rfl hf'
    exact ⟨_, _, _, _, _, by rw [k0, k1, k2, k3, k4]⟩
theorem eq_ell (x y : Operand) (a b c d e p q r s t : Int) : BinIs Try.prog .eql 34 x y (.agg ⟨[.int .i64 a, .int .i64 b, .int .i64 c, .int .i64 d, .int .i64 e]⟩) (.agg ⟨[.int .i64 p, .int .i64 q, .int .i64 r, .int .i64 s, .int .i64 t]⟩) (.bool (a == p && (b == q && (c == r && (d == s && e == t))))) :=
  ⟨rfl, rfl, rfl, fun w => by go_simp; by_cases h1 : a = p <;> by_cases h2 : b = q <;> by_cases h3 : c = r <;> by_cases h4 : d = s <;> by_cases h5 : e = t <;> simp [h1, h2, h3, h4, h5]⟩
theorem ne_ell (x y : Operand) (a b c d e p q r s t : Int) : BinIs Try.prog .neq 34 x y (.agg ⟨[.int .i64 a, .int .i64 b, .int .i64 c, .int .i64 d, .int .i64 e]⟩) (.agg ⟨[.int .i64 p, .int .i64 q, .int .i64 r, .int .i64 s, .int .i64 t]⟩) (.bool !(a == p && (b == q && (c == r && (d == s && e == t))))) :=
  ⟨rfl, rfl, rfl, fun w => by go_simp; by_cases h1 : a = p <;> by_cases h2 : b = q <;> by_cases h3 : c = r <;> by_cases h4 : d = s <;> by_cases h5 : e = t <;> simp [h1, h2, h3, h4, h5]⟩
/-- What is heard of a node that is there: its track is kept in that life, and is gone in the next one. -/
theorem tracks {T : Tbl} {n : Int} {e : Ent} (hn : 0 ≤ n ∧ n < 64) (ok : TOK T) (ek : EOK T.E) (hE : dGet T.E n = some e) (hl : T.lives n = some ⟨5, false, ⟨true, 9, 1⟩⟩) :
    ∃ T3 T4, hearT T n 5 10 2 = (0, T3) ∧ TOK T3 ∧ dGet T3.E n = some ⟨n, 5, 2, e.has, e.x, e.y, e.a, e.b, e.d, e.when_⟩ ∧ hearT T3 n 6 10 3 = (0, T4) ∧ dGet T4.E n = some ⟨n, 6, 3, false, 0, 0, 0, 0, 0, 0⟩ := by
  have ha1 : argsOK n 5 10 2 := ⟨hn, ⟨by decide, by decide⟩, ⟨by decide, by decide⟩, by decide, by decide⟩
  have ha2 : argsOK n 6 10 3 := ⟨hn, ⟨by decide, by decide⟩, ⟨by decide, by decide⟩, by decide, by decide⟩
  have h3 : hearT T n 5 10 2 = (0, T.win n 5 2 T.E (whear ⟨true, 9, 1⟩ 10).2) := by
    unfold hearT; rw [if_pos ha1, hl]; rfl
  obtain ⟨k1, k2, k3⟩ := hearT_ok ok ek h3
  have e3 : dGet (T.win n 5 2 T.E (whear ⟨true, 9, 1⟩ 10).2).E n = some ⟨n, 5, 2, e.has, e.x, e.y, e.a, e.b, e.d, e.when_⟩ := by
    show dGet (heardE T.most T.E n 5 2) n = _
    rw [heard_there hE, dGet_put_same]
  have l3 := win_lives T n 5 2 T.E (whear ⟨true, 9, 1⟩ 10).2
  generalize T.win n 5 2 T.E (whear ⟨true, 9, 1⟩ 10).2 = T3 at h3 k1 k2 k3 e3 l3
  have h4 : hearT T3 n 6 10 3 = (0, T3.win n 6 3 (begE T3.E n) ⟨true, 10, 1⟩) := hear_next ha2 l3 (by decide) (by decide)
  refine ⟨T3, _, h3, k1, e3, h4, ?_⟩
  show dGet (heardE T3.most (begE T3.E n) n 6 3) n = _
  rw [beg_some e3, heard_there (dGet_put_same _ _ _), dGet_put_same]
set_option maxRecDepth 100000 in
set_option maxHeartbeats 2000000 in
theorem walk (a0 w : Int) (x y a b d : Int) (W : World) :
    Calls Try.prog 7 #[.int .i64 a0, .agg #[.int .i64 x, .int .i64 y, .int .i64 a, .int .i64 b, .int .i64 d], .int .i64 w] W fun e w' => e = .returned (.bool true) ∧ Below W.heap.size W w' := by
  obtain ⟨n1, n2⟩ := u64mod a0 64 (by decide) (by decide)
  refine calls_pure (G := tys) W tysOK mixed Try.func7 (by rfl) (by rfl) (by rfl) ?_
  repeat' (refine N.go ?_; first | with_reducible refine N.obl (by decide) ?_ | with_reducible refine N.obl (flat_wi _ _ _) ?_ | with_reducible refine N.obl (flat_lim _ _) ?_ | with_reducible refine N.eq ?_ | with_reducible refine N.obl rfl ?_ | with_reducible refine N.obl ⟨by kernel_rfl, by kernel_rfl⟩ ?_ | with_reducible refine N.alt ?_ | with_reducible refine N.forkT ?_ | with_reducible refine N.forkF ?_ | refine N.forkYes (by rw [decide_eq_true_eq]; omega) ?_ | refine N.forkNo (by rw [decide_eq_false_iff_not]; omega) ?_ | refine N.forkYes (by decide) ?_ | refine N.forkNo (by decide) ?_ | fail_if_success skip)
  refine N.go ?_
  generalize IntKind.i64.wrap ((IntKind.u64.wrap a0).tmod 64) = n at n1 n2 ⊢
  have hn : 0 ≤ n ∧ n < 64 := ⟨n1, n2⟩
  have hn2 : -9223372036854775808 ≤ n ∧ n ≤ 9223372036854775807 := by omega
  have he1 : hearT (Tbl.new 3) n 5 9 1 = (0, (Tbl.new 3).win n 5 1 [] ⟨true, 9, 1⟩) := hear_new ⟨hn, ⟨by decide, by decide⟩, ⟨by decide, by decide⟩, by decide, by decide⟩ rfl rfl
  obtain ⟨k0, q0⟩ := new_ok 3
  obtain ⟨k1, q1, m1⟩ := hearT_ok k0 q0 he1
  have l1 := win_lives (Tbl.new 3) n 5 1 [] ⟨true, 9, 1⟩
  have e1 : ((Tbl.new 3).win n 5 1 [] ⟨true, 9, 1⟩).E = [(n, ⟨n, 5, 1, false, 0, 0, 0, 0, 0, 0⟩)] := by
    show heardE (Tbl.new 3).most [] n 5 1 = _
    rw [heard_room rfl (by decide)]; rfl
  have g1 : dGet ((Tbl.new 3).win n 5 1 [] ⟨true, 9, 1⟩).E n = some ⟨n, 5, 1, false, 0, 0, 0, 0, 0, 0⟩ := by rw [e1]; simp [dGet]
  have g0 : dGet (Tbl.new 3).E n = none := rfl
  refine N.call (cNewT 3 1 _ (by rfl)) ?_
  generalize hT0 : Tbl.new 3 = T0 at he1 k0 q0 k1 q1 m1 l1 e1 g1 g0 ⊢
  generalize hT1 : T0.win n 5 1 [] ⟨true, 9, 1⟩ = T1 at he1 k1 q1 l1 e1 g1 m1
  by_cases hm : mayP x y a b d ∧ timeP w
  · obtain ⟨hm1, hm2⟩ := hm
    have hput : dGet (⟨T1.most, dPut T1.E n ((⟨n, 5, 1, false, 0, 0, 0, 0, 0, 0⟩ : Ent).put x y a b d w), T1.lives⟩ : Tbl).E n = some ((⟨n, 5, 1, false, 0, 0, 0, 0, 0, 0⟩ : Ent).put x y a b d w) := dGet_put_same _ _ _
    have k2 : TOK ⟨T1.most, dPut T1.E n ((⟨n, 5, 1, false, 0, 0, 0, 0, 0, 0⟩ : Ent).put x y a b d w), T1.lives⟩ := ⟨k1.most, by show ((dPut T1.E n _).length : Int) ≤ T1.most; rw [len_put, g1, if_neg (by simp)]; exact k1.len, k1.seen⟩
    have q2 : EOK (⟨T1.most, dPut T1.E n ((⟨n, 5, 1, false, 0, 0, 0, 0, 0, 0⟩ : Ent).put x y a b d w), T1.lives⟩ : Tbl).E := q1.put ((⟨n, 5, 1, false, 0, 0, 0, 0, 0, 0⟩ : Ent).put x y a b d w)
    obtain ⟨T3, T4, he3, k3, e3, he4, e4⟩ := tracks (T := ⟨T1.most, dPut T1.E n ((⟨n, 5, 1, false, 0, 0, 0, 0, 0, 0⟩ : Ent).put x y a b d w), T1.lives⟩) hn k2 q2 hput l1
    repeat' (refine N.go ?_; first | with_reducible refine N.obl (by decide) ?_ | with_reducible refine N.obl (flat_wi _ _ _) ?_ | with_reducible refine N.obl (flat_lim _ _) ?_ | with_reducible refine N.eq ?_ | with_reducible refine N.obl rfl ?_ | with_reducible refine N.obl ⟨by kernel_rfl, by kernel_rfl⟩ ?_ | with_reducible refine N.alt ?_ | with_reducible refine N.forkT ?_ | with_reducible refine N.forkF ?_ | refine N.call (cPutN T0 n x y a b d w hn2 g0 1 _ (by rfl)) ?_ | refine N.call (cHear T0 k0 n 5 9 1 0 T1 he1 1 _ (by rfl)) ?_ | refine N.call (cMayE x y a b d _) ?_ | refine N.call (cRTime w _) ?_ | with_reducible refine N.call (cAwake _) ?_ | with_reducible refine N.bin _ (eq_ell _ _ _ _ _ _ _ _ _ _ _ _) ?_ | with_reducible refine N.bin _ (ne_ell _ _ _ _ _ _ _ _ _ _ _ _) ?_ | refine N.call (cPutY T1 n x y a b d w hn2 _ g1 hm1 hm2 1 _ (by rfl)) ?_ | refine N.call (cGetY ⟨T1.most, dPut T1.E n ((⟨n, 5, 1, false, 0, 0, 0, 0, 0, 0⟩ : Ent).put x y a b d w), T1.lives⟩ n _ hput 1 _ (by rfl)) ?_ | refine N.call (cHear ⟨T1.most, dPut T1.E n ((⟨n, 5, 1, false, 0, 0, 0, 0, 0, 0⟩ : Ent).put x y a b d w), T1.lives⟩ k2 n 5 10 2 0 T3 he3 1 _ (by rfl)) ?_ | refine N.call (cGetY T3 n _ e3 1 _ (by rfl)) ?_ | refine N.call (cHear T3 k3 n 6 10 3 0 T4 he4 1 _ (by rfl)) ?_ | refine N.call (cGetY T4 n _ e4 1 _ (by rfl)) ?_ | refine N.forkYes (by decide) ?_ | refine N.forkNo (by decide) ?_ | refine N.forkYes rfl ?_ | refine N.forkNo rfl ?_ | refine N.forkYes (decide_eq_true hm1) ?_ | refine N.forkNo (decide_eq_false hm1) ?_ | refine N.forkYes (decide_eq_true hm2) ?_ | refine N.forkNo (decide_eq_false hm2) ?_ | refine N.forkYes (by rw [decide_eq_true hm2]; rfl) ?_ | refine N.forkNo (by rw [decide_eq_true hm2]; rfl) ?_ | refine N.forkYes (by rw [decide_eq_false hm2]; rfl) ?_ | refine N.forkNo (by rw [decide_eq_false hm2]; rfl) ?_ | refine N.forkYes (by rw [decide_eq_false hm1]; rfl) ?_ | refine N.forkNo (by rw [decide_eq_false hm1]; rfl) ?_ | refine N.forkYes (by simp; first | done | fail) ?_ | refine N.forkNo (by simp [Ent.put]; first | done | fail) ?_ | refine N.forkYes (by simp [Ent.put]; first | done | fail) ?_ | refine N.forkNo (by rw [decide_eq_true hm2]; simp [Ent.put]; first | done | fail) ?_ | refine N.forkYes (by rw [decide_eq_true hm2]; simp [Ent.put]; first | done | fail) ?_ | fail_if_success skip)
    all_goals rfl
  · obtain ⟨T3, T4, he3, k3, e3, he4, e4⟩ := tracks (T := T1) hn k1 q1 g1 l1
    by_cases hm1 : mayP x y a b d
    · have hm2 : ¬ timeP w := fun h => hm ⟨hm1, h⟩
      repeat' (refine N.go ?_; first | with_reducible refine N.obl (by decide) ?_ | with_reducible refine N.obl (flat_wi _ _ _) ?_ | with_reducible refine N.obl (flat_lim _ _) ?_ | with_reducible refine N.eq ?_ | with_reducible refine N.obl rfl ?_ | with_reducible refine N.obl ⟨by kernel_rfl, by kernel_rfl⟩ ?_ | with_reducible refine N.alt ?_ | with_reducible refine N.forkT ?_ | with_reducible refine N.forkF ?_ | refine N.call (cPutN T0 n x y a b d w hn2 g0 1 _ (by rfl)) ?_ | refine N.call (cHear T0 k0 n 5 9 1 0 T1 he1 1 _ (by rfl)) ?_ | refine N.call (cMayE x y a b d _) ?_ | refine N.call (cRTime w _) ?_ | with_reducible refine N.call (cAwake _) ?_ | with_reducible refine N.bin _ (eq_ell _ _ _ _ _ _ _ _ _ _ _ _) ?_ | with_reducible refine N.bin _ (ne_ell _ _ _ _ _ _ _ _ _ _ _ _) ?_ | refine N.call (cPutB T1 n x y a b d w hn2 _ g1 hm 1 _ (by rfl)) ?_ | refine N.call (cGetY T1 n _ g1 1 _ (by rfl)) ?_ | refine N.call (cHear T1 k1 n 5 10 2 0 T3 he3 1 _ (by rfl)) ?_ | refine N.call (cGetY T3 n _ e3 1 _ (by rfl)) ?_ | refine N.call (cHear T3 k3 n 6 10 3 0 T4 he4 1 _ (by rfl)) ?_ | refine N.call (cGetY T4 n _ e4 1 _ (by rfl)) ?_ | refine N.forkYes (by decide) ?_ | refine N.forkNo (by decide) ?_ | refine N.forkYes rfl ?_ | refine N.forkNo rfl ?_ | refine N.forkYes (decide_eq_true hm1) ?_ | refine N.forkNo (decide_eq_false hm1) ?_ | refine N.forkYes (decide_eq_true hm2) ?_ | refine N.forkNo (decide_eq_false hm2) ?_ | refine N.forkYes (by rw [decide_eq_true hm2]; rfl) ?_ | refine N.forkNo (by rw [decide_eq_true hm2]; rfl) ?_ | refine N.forkYes (by rw [decide_eq_false hm2]; rfl) ?_ | refine N.forkNo (by rw [decide_eq_false hm2]; rfl) ?_ | refine N.forkYes (by rw [decide_eq_false hm1]; rfl) ?_ | refine N.forkNo (by rw [decide_eq_false hm1]; rfl) ?_ | refine N.forkYes (by simp; first | done | fail) ?_ | refine N.forkNo (by simp [Ent.put]; first | done | fail) ?_ | refine N.forkYes (by simp [Ent.put]; first | done | fail) ?_ | refine N.forkNo (by rw [decide_eq_true hm2]; simp [Ent.put]; first | done | fail) ?_ | refine N.forkYes (by rw [decide_eq_true hm2]; simp [Ent.put]; first | done | fail) ?_ | fail_if_success skip)
      all_goals rfl
    · repeat' (refine N.go ?_; first | with_reducible refine N.obl (by decide) ?_ | with_reducible refine N.obl (flat_wi _ _ _) ?_ | with_reducible refine N.obl (flat_lim _ _) ?_ | with_reducible refine N.eq ?_ | with_reducible refine N.obl rfl ?_ | with_reducible refine N.obl ⟨by kernel_rfl, by kernel_rfl⟩ ?_ | with_reducible refine N.alt ?_ | with_reducible refine N.forkT ?_ | with_reducible refine N.forkF ?_ | refine N.call (cPutN T0 n x y a b d w hn2 g0 1 _ (by rfl)) ?_ | refine N.call (cHear T0 k0 n 5 9 1 0 T1 he1 1 _ (by rfl)) ?_ | refine N.call (cMayE x y a b d _) ?_ | refine N.call (cRTime w _) ?_ | with_reducible refine N.call (cAwake _) ?_ | with_reducible refine N.bin _ (eq_ell _ _ _ _ _ _ _ _ _ _ _ _) ?_ | with_reducible refine N.bin _ (ne_ell _ _ _ _ _ _ _ _ _ _ _ _) ?_ | refine N.call (cPutB T1 n x y a b d w hn2 _ g1 hm 1 _ (by rfl)) ?_ | refine N.call (cGetY T1 n _ g1 1 _ (by rfl)) ?_ | refine N.call (cHear T1 k1 n 5 10 2 0 T3 he3 1 _ (by rfl)) ?_ | refine N.call (cGetY T3 n _ e3 1 _ (by rfl)) ?_ | refine N.call (cHear T3 k3 n 6 10 3 0 T4 he4 1 _ (by rfl)) ?_ | refine N.call (cGetY T4 n _ e4 1 _ (by rfl)) ?_ | refine N.forkYes (by decide) ?_ | refine N.forkNo (by decide) ?_ | refine N.forkYes rfl ?_ | refine N.forkNo rfl ?_ | refine N.forkYes (decide_eq_true hm1) ?_ | refine N.forkNo (decide_eq_false hm1) ?_ | refine N.forkYes (decide_eq_true hm2) ?_ | refine N.forkNo (decide_eq_false hm2) ?_ | refine N.forkYes (by rw [decide_eq_true hm2]; rfl) ?_ | refine N.forkNo (by rw [decide_eq_true hm2]; rfl) ?_ | refine N.forkYes (by rw [decide_eq_false hm2]; rfl) ?_ | refine N.forkNo (by rw [decide_eq_false hm2]; rfl) ?_ | refine N.forkYes (by rw [decide_eq_false hm1]; rfl) ?_ | refine N.forkNo (by rw [decide_eq_false hm1]; rfl) ?_ | refine N.forkYes (by simp; first | done | fail) ?_ | refine N.forkNo (by simp [Ent.put]; first | done | fail) ?_ | refine N.forkYes (by simp [Ent.put]; first | done | fail) ?_ | refine N.forkNo (by rw [decide_eq_true hm2]; simp [Ent.put]; first | done | fail) ?_ | refine N.forkYes (by rw [decide_eq_true hm2]; simp [Ent.put]; first | done | fail) ?_ | fail_if_success skip)
      all_goals rfl
set_option maxRecDepth 100000 in
theorem lifted (os : Os) (started : os.Started) (H : Type) (enc : TypeId × Value → H) :
    ReturnsInHanded {} Try.checked os 7 .any (Rows.tableTracksSpec.pre6 enc Try.prog Try.f7 Rows.tableTracksRow.domain false) (Rows.tableTracksSpec.post enc Try.prog Try.f7 false true false false) := by
  refine law_lifted (C := Try.checked) (tb := 4) Try.own started (by kernel_rfl) Try.func7 Try.laidOut (by kernel_rfl) rfl Try.underlying4 rfl
    (fun ds hds => by match ds, hds with | [_, _, _], _ => rfl)
    (ChangeSpec.witness6 (enc := enc) (C := Try.checked) false ⟨#[], #[.int .i64 0, .agg #[.int .i64 0, .int .i64 0, .int .i64 0, .int .i64 0, .int .i64 0], .int .i64 0], []⟩ 8 (by kernel_rfl) (by kernel_rfl) (by kernel_rfl) (by kernel_rfl)) ?_
  intro W base args ds p hval0 hA0 hsz0
  have hval : ∀ (j : Nat) t v, Try.f7.params[j]? = some t → args[j]? = some v → Value.okWide Try.prog W .any base t v := hval0
  have hA : DataW.TrodAll enc Try.prog W 0 (fun _ => true) true Try.f7.params.toList args.toList ds p := hA0
  have hsz : (DataW.weightsEach Try.prog Try.f7.params.toList ds).all (· ≤ reachBytes) = true := hsz0
  rw [Try.params7] at hA hval hsz
  obtain ⟨v0, vs0, d0, ds0, p0, q0, hargs, rfl, rfl, h0, r0⟩ := trodAll_cons hA
  obtain ⟨v1, vs1, d1, ds1, p1, q1, rfl, rfl, rfl, h1, r1⟩ := trodAll_cons r0
  obtain ⟨v2, vs2, d2, ds2, p2, q2, rfl, rfl, rfl, h2, r2⟩ := trodAll_cons r1
  obtain ⟨rfl, rfl, rfl⟩ := trodAll_nil r2
  obtain rfl : args = #[v0, v1, v2] := by cases args; simp_all
  obtain ⟨a0, rfl, rfl, rfl, w0⟩ := open_int Try.underlying3 (hval 0 _ v0 rfl rfl) h0
  obtain ⟨f1_0, f1_1, f1_2, f1_3, f1_4, rfl⟩ := open_e (hval 1 _ v1 rfl rfl) h1
  obtain ⟨a2, rfl, rfl, rfl, w2⟩ := open_int Try.underlying2 (hval 2 _ v2 rfl rfl) h2
  exact walk a0 a2 f1_0 f1_1 f1_2 f1_3 f1_4 W

theorem proved : Rows.TableTracksSaid :=
  OpenClaim.holds_of_wide 7 Try.f7 rfl rfl rfl rfl rfl rfl rfl ⟨rfl, rfl, rfl, rfl, rfl⟩ rfl rfl rfl rfl rfl (by kernel_rfl) Try.func7 (by kernel_rfl)
    (of_decide_eq_true (by kernel_rfl)) (by unfold Func.isWrapper; rw [if_neg (by decide +kernel)]; exact ⟨rfl, rfl⟩)
    (fun os started H enc _ => lifted os started H enc)
#print axioms proved
end Go.Proofs.Ytpafcfelaaibgaa.tableTracks
