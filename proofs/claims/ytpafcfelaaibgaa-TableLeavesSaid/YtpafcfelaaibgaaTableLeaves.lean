/-
  The statement TableLeaves: for every input the law returns true.
-/
import Derived.Test.YtpafcfelaaibgaaTbl10
import Derived.Test.YtpafcfelaaibgaaRows
set_option linter.unusedVariables false
set_option linter.unusedSimpArgs false
namespace Go.Proofs.Ytpafcfelaaibgaa.tableLeaves
open Go Go.ChangeShapes Go.WideShapes Go.ChangeAt Go.RowKit Sx

theorem new_lives (most n : Int) : (Tbl.new most).lives n = none := rfl
theorem win_lives (T : Tbl) (n boot now : Int) (E : List (Int × Ent)) (W : Win) : (T.win n boot now E W).lives n = some ⟨boot, false, W⟩ := by
  show setL T.lives n _ n = _
  unfold setL; rw [if_pos rfl]
theorem row1 {n i p m : Nat} {f : Nat → Value} {cl : Nat → Nat → Int} (hf : ∀ i, i < n → ∀ j, j < 1 → f (i * 1 + j) = .int .i64 (cl i j)) (hi : i < n) (hp : p = i * 1) (hm : m = 1) :
    Reads ⟨false, n * 1, [(0, n * 1, .agg ⟨segL (n * 1) f⟩)]⟩ p false m (.int .i64 (cl i 0)) := by
  subst hp hm
  exact ⟨by show i * 1 < n * 1; omega, rfl, by rw [seg_at (by omega)]; exact hf i hi 0 (by decide)⟩
theorem setL_at (lv : Int → Option Life) (n : Int) (l : Life) : setL lv n l n = some l := by unfold setL; rw [if_pos rfl]
theorem setL_ne {lv : Int → Option Life} {n m : Int} (l : Life) (h : m ≠ n) : setL lv n l m = lv m := by unfold setL; rw [if_neg h]
theorem hear_left {T : Tbl} {n boot seq now : Int} {l : Life} (ha : argsOK n boot seq now) (hl : T.lives n = some l) (hb : l.boot = boot) (hf : l.left = true) : hearT T n boot seq now = (9, T) := by
  unfold hearT; rw [if_pos ha, hl]; simp only [if_pos hb, if_pos hf]
theorem hear_old {T : Tbl} {n boot seq now : Int} {l : Life} (ha : argsOK n boot seq now) (hl : T.lives n = some l) (hb : l.boot ≠ boot) (hf : ¬ (0 < serD l.boot boot ∧ serD l.boot boot < 32768)) : hearT T n boot seq now = (9, T) := by
  unfold hearT; rw [if_pos ha, hl]; simp only [if_neg hb, if_neg hf]
theorem hear_next {T : Tbl} {n boot seq now : Int} {l : Life} (ha : argsOK n boot seq now) (hl : T.lives n = some l) (hb : l.boot ≠ boot) (hf : 0 < serD l.boot boot ∧ serD l.boot boot < 32768) : hearT T n boot seq now = (0, T.win n boot now (begE T.E n) ⟨true, seq, 1⟩) := by
  unfold hearT; rw [if_pos ha, hl]; simp only [if_neg hb, if_pos hf]
set_option maxRecDepth 100000 in
theorem open_l {H : Type} {enc : TypeId × Value → H} {W : World} {r : Reach} {base : Nat} {v : Value} {d : DataW H} {p : List MemPlace}
    (hv : Value.okWide Try.prog W r base 22 v) (h : DataW.Trod enc Try.prog W 0 (fun _ => true) true 22 v d p) :
    v = .slice none 0 0 ∨ ∃ (a : Addr) (n cap : Nat) (f : Nat → Value) (cl : Nat → Nat → Int), v = .slice (some a) n cap ∧ n ≤ 9223372036854775807 ∧ SeenIn W ⟨a, n * 1, f⟩ ∧ ∀ i, i < n → ∀ j, j < 1 → f (i * 1 + j) = .int .i64 (cl i j) := by
  have hsh := slice_shape Try.underlying22 hv
  obtain ⟨A, n, cap, f, rfl, hl, hm, hd, hseg, hrow⟩ := open_rows (C := 1) Try.underlying22 (by kernel_rfl) h hsh
  cases A with
  | none =>
    obtain ⟨rfl, rfl⟩ := okWide_nil Try.underlying22 hv
    exact .inl rfl
  | some a =>
    have hf : ∀ i, i < n → ∀ j, j < 1 → f (i * 1 + j) = .int .i64 (intOf (f (i * 1 + j))) := by
      intro i hi j hj
      obtain ⟨x, fuel, cs, ht, hcl, hc⟩ := hrow i hi
      match j, hj with
      | 0, _ => exact (leaf_int (d := 3) (l := 3) (j := 0) (by kernel_rfl) (@Try.underlying3) (hc 0 (by omega)) ht).1
    have hlit := rows_lit (f := f) (n := n) (k := 1) (by decide) fun i hi j hj => by rw [hf i hi j hj]; rfl
    exact .inr ⟨a, n, cap, f, fun i j => intOf (f (i * 1 + j)), rfl, by simp only [maxLen] at hm; omega, SeenIn.some Try.underlying22 hv hseg hlit, hf⟩
set_option maxRecDepth 100000 in
set_option maxHeartbeats 2000000 in
theorem walk (a b : Int) (ad : Addr) (len lcap : Nat) (f : Nat → Value) (cl : Nat → Nat → Int) (w : World) (hlen : len ≤ 9223372036854775807) (hsn : SeenIn w ⟨ad, len * 1, f⟩) (hf : ∀ i, i < len → ∀ j, j < 1 → f (i * 1 + j) = .int .i64 (cl i j)) :
    Calls Try.prog 5 #[.int .i64 a, .int .i64 b, .slice (some ad) len lcap] w fun e w' => e = .returned (.bool true) ∧ Below w.heap.size w w' := by
  obtain ⟨n1, n2⟩ := u64mod a 64 (by decide) (by decide)
  obtain ⟨b1, b2⟩ := u64mod b 60000 (by decide) (by decide)
  refine calls_args (G := tys) (vs := [.int .i64 a, .int .i64 b, .slice (some ⟨0, 0, some 0⟩) len lcap]) [⟨ad, len * 1, f⟩] w tysOK mixed Try.func5 (by rfl) (by simpa using hsn) ⟨.plain rfl, .plain rfl, .slice rfl, trivial⟩ rfl ?_
  repeat' (refine N.go ?_; first | with_reducible refine N.obl (by decide) ?_ | with_reducible refine N.obl (flat_wi _ _ _) ?_ | with_reducible refine N.obl (flat_lim _ _) ?_ | with_reducible refine N.eq ?_ | with_reducible refine N.obl rfl ?_ | with_reducible refine N.obl ⟨by kernel_rfl, by kernel_rfl⟩ ?_ | with_reducible refine N.forkT ?_ | with_reducible refine N.forkF ?_ | refine N.forkYes (by rw [decide_eq_true_eq]; omega) ?_ | refine N.forkNo (by rw [decide_eq_false_iff_not]; omega) ?_ | refine N.forkYes (by decide) ?_ | refine N.forkNo (by decide) ?_ | fail_if_success skip)
  refine N.go ?_
  generalize IntKind.i64.wrap ((IntKind.u64.wrap a).tmod 64) = n at n1 n2 ⊢
  generalize IntKind.i64.wrap ((IntKind.u64.wrap b).tmod 60000) = bt at b1 b2 ⊢
  have hn : 0 ≤ n ∧ n < 64 := ⟨n1, n2⟩
  have hA : ∀ seq now, serOK seq → (0 ≤ now ∧ now ≤ 1000000) → argsOK n bt seq now := fun seq now h1 h2 => ⟨hn, ⟨by omega, by omega⟩, h1, h2⟩
  have hA2 : ∀ seq now, serOK seq → (0 ≤ now ∧ now ≤ 1000000) → argsOK n (bt + 1) seq now := fun seq now h1 h2 => ⟨hn, ⟨by omega, by omega⟩, h1, h2⟩
  have he1 : hearT (Tbl.new 4) n bt 5 1 = (0, (Tbl.new 4).win n bt 1 [] ⟨true, 5, 1⟩) := hear_new (hA _ _ (by decide) (by decide)) rfl rfl
  obtain ⟨k0, q0⟩ := new_ok 4
  obtain ⟨k1, q1, m1⟩ := hearT_ok k0 q0 he1
  have l1 := win_lives (Tbl.new 4) n bt 1 [] ⟨true, 5, 1⟩
  have e1 : ((Tbl.new 4).win n bt 1 [] ⟨true, 5, 1⟩).E = [(n, ⟨n, bt, 1, false, 0, 0, 0, 0, 0, 0⟩)] := by
    show heardE (Tbl.new 4).most [] n bt 1 = _
    rw [heard_room rfl (by decide)]; rfl
  generalize (Tbl.new 4).win n bt 1 [] ⟨true, 5, 1⟩ = T1 at he1 k1 q1 l1 e1 m1
  have e2 : (⟨T1.most, dDel T1.E n, setL T1.lives n ⟨bt, true, ⟨true, 5, 1⟩⟩⟩ : Tbl).E = [] := by
    show dDel T1.E n = []
    rw [e1]; simp [dDel]
  have l2 : (⟨T1.most, dDel T1.E n, setL T1.lives n ⟨bt, true, ⟨true, 5, 1⟩⟩⟩ : Tbl).lives n = some ⟨bt, true, ⟨true, 5, 1⟩⟩ := setL_at _ _ _
  have m2 : (⟨T1.most, dDel T1.E n, setL T1.lives n ⟨bt, true, ⟨true, 5, 1⟩⟩⟩ : Tbl).most = 4 := m1
  have k2 : TOK ⟨T1.most, dDel T1.E n, setL T1.lives n ⟨bt, true, ⟨true, 5, 1⟩⟩⟩ := by
    refine ⟨k1.most, by rw [e2]; have := k1.most; simp; omega, fun m l hl => ?_⟩
    have hl : setL T1.lives n ⟨bt, true, ⟨true, 5, 1⟩⟩ m = some l := hl
    unfold setL at hl
    split at hl
    · obtain rfl : _ = l := by simpa using hl
      exact Nat.le_of_ble_eq_true rfl
    · exact k1.seen m l hl
  have q2 : EOK (⟨T1.most, dDel T1.E n, setL T1.lives n ⟨bt, true, ⟨true, 5, 1⟩⟩⟩ : Tbl).E := by rw [e2]; exact EOK.nil
  refine N.call (cNewT 4 1 _ (by rfl)) ?_
  repeat' (refine N.go ?_; first | with_reducible refine N.obl (by decide) ?_ | with_reducible refine N.obl (flat_wi _ _ _) ?_ | with_reducible refine N.obl (flat_lim _ _) ?_ | with_reducible refine N.eq ?_ | with_reducible refine N.obl rfl ?_ | with_reducible refine N.obl ⟨by kernel_rfl, by kernel_rfl⟩ ?_ | with_reducible refine N.forkT ?_ | with_reducible refine N.forkF ?_ | refine N.call (cLeaveN (Tbl.new 4) n rfl 1 _ (by rfl)) ?_ | refine N.call (cHear _ k0 n bt 5 1 0 _ he1 1 _ (by rfl)) ?_ | refine N.call (cLeaveY T1 n hn _ l1 1 _ (by rfl)) ?_ | refine N.forkYes (by rw [decide_eq_true_eq]; omega) ?_ | refine N.forkNo (by rw [decide_eq_false_iff_not]; omega) ?_ | refine N.forkYes (by decide) ?_ | refine N.forkNo (by decide) ?_ | fail_if_success skip)
  refine N.go ?_
  generalize (⟨T1.most, dDel T1.E n, setL T1.lives n ⟨bt, true, ⟨true, 5, 1⟩⟩⟩ : Tbl) = T2 at e2 l2 m2 k2 q2 ⊢
  have he3 : hearT T2 n (bt + 1) 5 3 = (0, T2.win n (bt + 1) 3 (begE T2.E n) ⟨true, 5, 1⟩) := by
    refine hear_next (hA2 _ _ (by decide) (by decide)) l2 (by show bt ≠ bt + 1; omega) ?_
    show 0 < serD bt (bt + 1) ∧ serD bt (bt + 1) < 32768
    unfold serD serOK; rw [if_pos (by omega)]; split <;> omega
  have e3 : (T2.win n (bt + 1) 3 (begE T2.E n) ⟨true, 5, 1⟩).E = [(n, ⟨n, bt + 1, 3, false, 0, 0, 0, 0, 0, 0⟩)] := by
    show heardE T2.most (begE T2.E n) n (bt + 1) 3 = _
    rw [e2, m2]
    have : begE [] n = [] := rfl
    rw [this, heard_room rfl (by decide)]; rfl
  have l3 := win_lives T2 n (bt + 1) 3 (begE T2.E n) ⟨true, 5, 1⟩
  obtain ⟨k3, q3, m3⟩ := hearT_ok k2 q2 he3
  generalize T2.win n (bt + 1) 3 (begE T2.E n) ⟨true, 5, 1⟩ = T3 at he3 e3 l3 k3 q3
  have he4 : hearT T3 n bt 9 4 = (9, T3) := by
    refine hear_old (hA _ _ (by decide) (by decide)) l3 (by show bt + 1 ≠ bt; omega) ?_
    show ¬ (0 < serD (bt + 1) bt ∧ serD (bt + 1) bt < 32768)
    unfold serD serOK; rw [if_pos (by omega)]; split <;> omega
  refine N.call (cLenT T2 1 _ (by rfl)) ?_
  rw [e2]
  repeat' (refine N.go ?_; first | with_reducible refine N.obl (by decide) ?_ | with_reducible refine N.obl (flat_wi _ _ _) ?_ | with_reducible refine N.obl (flat_lim _ _) ?_ | with_reducible refine N.eq ?_ | with_reducible refine N.obl rfl ?_ | with_reducible refine N.obl ⟨by kernel_rfl, by kernel_rfl⟩ ?_ | with_reducible refine N.forkT ?_ | with_reducible refine N.forkF ?_ | refine N.forkYes (by rw [decide_eq_true_eq]; omega) ?_ | refine N.forkNo (by rw [decide_eq_false_iff_not]; omega) ?_ | refine N.forkYes (by decide) ?_ | refine N.forkNo (by decide) ?_ | fail_if_success skip)
  refine N.go ?_
  refine N.loop (α := Nat) (fun x => x ≤ len) (fun x => len - x) (fun x => [(42, .int .i64 (x : Int))]) (fun _ => []) 0 (Nat.zero_le _) ?_ ?_
  · repeat' (refine N.go ?_; first | with_reducible refine N.obl (by decide) ?_ | with_reducible refine N.obl (flat_wi _ _ _) ?_ | with_reducible refine N.obl (flat_lim _ _) ?_ | with_reducible refine N.eq ?_ | with_reducible refine N.obl rfl ?_ | with_reducible refine N.obl ⟨by kernel_rfl, by kernel_rfl⟩ ?_ | with_reducible refine N.forkT ?_ | with_reducible refine N.forkF ?_ | exact N.true | refine N.obl (ChunkLe.refl _) ?_ | fail_if_success skip)
  · intro x hx
    by_cases hlt : x < len
    · refine N.go ?_
      refine N.forkYes (by simpa using hlt) ?_
      refine N.go ?_
      refine N.idx x 1 rfl hlt ?_
      refine N.go ?_
      refine N.load _ (row1 hf hlt (by omega) rfl) ?_
      by_cases h60 : x < 60
      · repeat' (refine N.go ?_; first | with_reducible refine N.obl (by decide) ?_ | with_reducible refine N.obl (flat_wi _ _ _) ?_ | with_reducible refine N.obl (flat_lim _ _) ?_ | with_reducible refine N.eq ?_ | with_reducible refine N.obl rfl ?_ | with_reducible refine N.obl ⟨by kernel_rfl, by kernel_rfl⟩ ?_ | with_reducible refine N.forkT ?_ | with_reducible refine N.forkF ?_ | refine N.call (cHear _ k2 n bt _ 2 9 _ (by rw [and_mask]; exact hear_left (hA _ _ ⟨by omega, by omega⟩ (by decide)) l2 rfl rfl) 1 _ (by rfl)) ?_ | refine N.forkYes (by rw [decide_eq_true_eq]; omega) ?_ | refine N.forkNo (by rw [decide_eq_false_iff_not]; omega) ?_ | refine N.forkYes (by decide) ?_ | refine N.forkNo (by decide) ?_ | fail_if_success skip)
        refine N.go ?_
        refine N.next (x + 1) ⟨by show x + 1 ≤ len; omega, by show len - (x + 1) < len - x; omega⟩ ?_
        repeat' (refine N.go ?_; first | with_reducible refine N.obl (by decide) ?_ | with_reducible refine N.obl (flat_wi _ _ _) ?_ | with_reducible refine N.obl (flat_lim _ _) ?_ | with_reducible refine N.eq ?_ | with_reducible refine N.obl rfl ?_ | with_reducible refine N.obl ⟨by kernel_rfl, by kernel_rfl⟩ ?_ | with_reducible refine N.forkT ?_ | with_reducible refine N.forkF ?_ | exact N.true | refine N.obl (ChunkLe.refl _) ?_ | refine N.obl (int_eq (by rw [i64s ((x : Int) + 1) (by omega) (by omega)]; rfl)) ?_ | fail_if_success skip)
      · repeat' (refine N.go ?_; first | with_reducible refine N.obl (by decide) ?_ | with_reducible refine N.obl (flat_wi _ _ _) ?_ | with_reducible refine N.obl (flat_lim _ _) ?_ | with_reducible refine N.eq ?_ | with_reducible refine N.obl rfl ?_ | with_reducible refine N.obl ⟨by kernel_rfl, by kernel_rfl⟩ ?_ | with_reducible refine N.forkT ?_ | with_reducible refine N.forkF ?_ | refine N.forkYes (by rw [decide_eq_true_eq]; omega) ?_ | refine N.forkNo (by rw [decide_eq_false_iff_not]; omega) ?_ | refine N.forkYes (by decide) ?_ | refine N.forkNo (by decide) ?_ | fail_if_success skip)
        refine N.go ?_
        refine N.next (x + 1) ⟨by show x + 1 ≤ len; omega, by show len - (x + 1) < len - x; omega⟩ ?_
        repeat' (refine N.go ?_; first | with_reducible refine N.obl (by decide) ?_ | with_reducible refine N.obl (flat_wi _ _ _) ?_ | with_reducible refine N.obl (flat_lim _ _) ?_ | with_reducible refine N.eq ?_ | with_reducible refine N.obl rfl ?_ | with_reducible refine N.obl ⟨by kernel_rfl, by kernel_rfl⟩ ?_ | with_reducible refine N.forkT ?_ | with_reducible refine N.forkF ?_ | exact N.true | refine N.obl (ChunkLe.refl _) ?_ | refine N.obl (int_eq (by rw [i64s ((x : Int) + 1) (by omega) (by omega)]; rfl)) ?_ | fail_if_success skip)
    · refine N.go ?_
      refine N.forkNo (by simpa using hlt) ?_
      repeat' (refine N.go ?_; first | with_reducible refine N.obl (by decide) ?_ | with_reducible refine N.obl (flat_wi _ _ _) ?_ | with_reducible refine N.obl (flat_lim _ _) ?_ | with_reducible refine N.eq ?_ | with_reducible refine N.obl rfl ?_ | with_reducible refine N.obl ⟨by kernel_rfl, by kernel_rfl⟩ ?_ | with_reducible refine N.forkT ?_ | with_reducible refine N.forkF ?_ | refine N.call (cLenT T2 1 _ (by rfl)) ?_ | refine N.call (cHear T2 k2 n (IntKind.i64.wrap (bt + 1)) 5 3 0 T3 (by rw [i64s (bt + 1) (by omega) (by omega)]; exact he3) 1 _ (by rfl)) ?_ | refine N.call (cLenT T3 1 _ (by rfl)) ?_ | with_reducible refine N.call (cAwake _) ?_ | refine N.forkNo (by rw [e2]; rfl) ?_ | refine N.forkYes (by rw [e3]; rfl) ?_ | refine N.forkYes (by rw [e2]; rfl) ?_ | refine N.forkYes (by rw [decide_eq_true_eq]; omega) ?_ | refine N.forkNo (by rw [decide_eq_false_iff_not]; omega) ?_ | refine N.forkYes (by decide) ?_ | refine N.forkNo (by decide) ?_ | fail_if_success skip)
      refine N.go ?_
      refine N.call (cHear T3 k3 n bt 9 4 9 _ he4 1 _ (by rfl)) ?_
      repeat' (refine N.go ?_; first | with_reducible refine N.obl (by decide) ?_ | with_reducible refine N.obl (flat_wi _ _ _) ?_ | with_reducible refine N.obl (flat_lim _ _) ?_ | with_reducible refine N.eq ?_ | with_reducible refine N.obl rfl ?_ | with_reducible refine N.obl ⟨by kernel_rfl, by kernel_rfl⟩ ?_ | with_reducible refine N.forkT ?_ | with_reducible refine N.forkF ?_ | refine N.call (cLenT T2 1 _ (by rfl)) ?_ | refine N.call (cHear T2 k2 n (IntKind.i64.wrap (bt + 1)) 5 3 0 T3 (by rw [i64s (bt + 1) (by omega) (by omega)]; exact he3) 1 _ (by rfl)) ?_ | refine N.call (cLenT T3 1 _ (by rfl)) ?_ | with_reducible refine N.call (cAwake _) ?_ | refine N.forkNo (by rw [e2]; rfl) ?_ | refine N.forkYes (by rw [e3]; rfl) ?_ | refine N.forkYes (by rw [e2]; rfl) ?_ | refine N.forkYes (by rw [decide_eq_true_eq]; omega) ?_ | refine N.forkNo (by rw [decide_eq_false_iff_not]; omega) ?_ | refine N.forkYes (by decide) ?_ | refine N.forkNo (by decide) ?_ | fail_if_success skip)
      all_goals rfl
set_option maxRecDepth 100000 in
set_option maxHeartbeats 2000000 in
theorem walk0 (a b : Int) (w : World) :
    Calls Try.prog 5 #[.int .i64 a, .int .i64 b, .slice none 0 0] w fun e w' => e = .returned (.bool true) ∧ Below w.heap.size w w' := by
  obtain ⟨n1, n2⟩ := u64mod a 64 (by decide) (by decide)
  obtain ⟨b1, b2⟩ := u64mod b 60000 (by decide) (by decide)
  refine calls_pure (G := tys) w tysOK mixed Try.func5 (by rfl) (by rfl) (by rfl) ?_
  repeat' (refine N.go ?_; first | with_reducible refine N.obl (by decide) ?_ | with_reducible refine N.obl (flat_wi _ _ _) ?_ | with_reducible refine N.obl (flat_lim _ _) ?_ | with_reducible refine N.eq ?_ | with_reducible refine N.obl rfl ?_ | with_reducible refine N.obl ⟨by kernel_rfl, by kernel_rfl⟩ ?_ | with_reducible refine N.forkT ?_ | with_reducible refine N.forkF ?_ | refine N.forkYes (by rw [decide_eq_true_eq]; omega) ?_ | refine N.forkNo (by rw [decide_eq_false_iff_not]; omega) ?_ | refine N.forkYes (by decide) ?_ | refine N.forkNo (by decide) ?_ | fail_if_success skip)
  refine N.go ?_
  generalize IntKind.i64.wrap ((IntKind.u64.wrap a).tmod 64) = n at n1 n2 ⊢
  generalize IntKind.i64.wrap ((IntKind.u64.wrap b).tmod 60000) = bt at b1 b2 ⊢
  have hn : 0 ≤ n ∧ n < 64 := ⟨n1, n2⟩
  have hA : ∀ seq now, serOK seq → (0 ≤ now ∧ now ≤ 1000000) → argsOK n bt seq now := fun seq now h1 h2 => ⟨hn, ⟨by omega, by omega⟩, h1, h2⟩
  have hA2 : ∀ seq now, serOK seq → (0 ≤ now ∧ now ≤ 1000000) → argsOK n (bt + 1) seq now := fun seq now h1 h2 => ⟨hn, ⟨by omega, by omega⟩, h1, h2⟩
  have he1 : hearT (Tbl.new 4) n bt 5 1 = (0, (Tbl.new 4).win n bt 1 [] ⟨true, 5, 1⟩) := hear_new (hA _ _ (by decide) (by decide)) rfl rfl
  obtain ⟨k0, q0⟩ := new_ok 4
  obtain ⟨k1, q1, m1⟩ := hearT_ok k0 q0 he1
  have l1 := win_lives (Tbl.new 4) n bt 1 [] ⟨true, 5, 1⟩
  have e1 : ((Tbl.new 4).win n bt 1 [] ⟨true, 5, 1⟩).E = [(n, ⟨n, bt, 1, false, 0, 0, 0, 0, 0, 0⟩)] := by
    show heardE (Tbl.new 4).most [] n bt 1 = _
    rw [heard_room rfl (by decide)]; rfl
  generalize (Tbl.new 4).win n bt 1 [] ⟨true, 5, 1⟩ = T1 at he1 k1 q1 l1 e1 m1
  have e2 : (⟨T1.most, dDel T1.E n, setL T1.lives n ⟨bt, true, ⟨true, 5, 1⟩⟩⟩ : Tbl).E = [] := by
    show dDel T1.E n = []
    rw [e1]; simp [dDel]
  have l2 : (⟨T1.most, dDel T1.E n, setL T1.lives n ⟨bt, true, ⟨true, 5, 1⟩⟩⟩ : Tbl).lives n = some ⟨bt, true, ⟨true, 5, 1⟩⟩ := setL_at _ _ _
  have m2 : (⟨T1.most, dDel T1.E n, setL T1.lives n ⟨bt, true, ⟨true, 5, 1⟩⟩⟩ : Tbl).most = 4 := m1
  have k2 : TOK ⟨T1.most, dDel T1.E n, setL T1.lives n ⟨bt, true, ⟨true, 5, 1⟩⟩⟩ := by
    refine ⟨k1.most, by rw [e2]; have := k1.most; simp; omega, fun m l hl => ?_⟩
    have hl : setL T1.lives n ⟨bt, true, ⟨true, 5, 1⟩⟩ m = some l := hl
    unfold setL at hl
    split at hl
    · obtain rfl : _ = l := by simpa using hl
      exact Nat.le_of_ble_eq_true rfl
    · exact k1.seen m l hl
  have q2 : EOK (⟨T1.most, dDel T1.E n, setL T1.lives n ⟨bt, true, ⟨true, 5, 1⟩⟩⟩ : Tbl).E := by rw [e2]; exact EOK.nil
  refine N.call (cNewT 4 0 _ (by rfl)) ?_
  repeat' (refine N.go ?_; first | with_reducible refine N.obl (by decide) ?_ | with_reducible refine N.obl (flat_wi _ _ _) ?_ | with_reducible refine N.obl (flat_lim _ _) ?_ | with_reducible refine N.eq ?_ | with_reducible refine N.obl rfl ?_ | with_reducible refine N.obl ⟨by kernel_rfl, by kernel_rfl⟩ ?_ | with_reducible refine N.forkT ?_ | with_reducible refine N.forkF ?_ | refine N.call (cLeaveN (Tbl.new 4) n rfl 0 _ (by rfl)) ?_ | refine N.call (cHear _ k0 n bt 5 1 0 _ he1 0 _ (by rfl)) ?_ | refine N.call (cLeaveY T1 n hn _ l1 0 _ (by rfl)) ?_ | refine N.forkYes (by rw [decide_eq_true_eq]; omega) ?_ | refine N.forkNo (by rw [decide_eq_false_iff_not]; omega) ?_ | refine N.forkYes (by decide) ?_ | refine N.forkNo (by decide) ?_ | fail_if_success skip)
  refine N.go ?_
  generalize (⟨T1.most, dDel T1.E n, setL T1.lives n ⟨bt, true, ⟨true, 5, 1⟩⟩⟩ : Tbl) = T2 at e2 l2 m2 k2 q2 ⊢
  have he3 : hearT T2 n (bt + 1) 5 3 = (0, T2.win n (bt + 1) 3 (begE T2.E n) ⟨true, 5, 1⟩) := by
    refine hear_next (hA2 _ _ (by decide) (by decide)) l2 (by show bt ≠ bt + 1; omega) ?_
    show 0 < serD bt (bt + 1) ∧ serD bt (bt + 1) < 32768
    unfold serD serOK; rw [if_pos (by omega)]; split <;> omega
  have e3 : (T2.win n (bt + 1) 3 (begE T2.E n) ⟨true, 5, 1⟩).E = [(n, ⟨n, bt + 1, 3, false, 0, 0, 0, 0, 0, 0⟩)] := by
    show heardE T2.most (begE T2.E n) n (bt + 1) 3 = _
    rw [e2, m2]
    have : begE [] n = [] := rfl
    rw [this, heard_room rfl (by decide)]; rfl
  have l3 := win_lives T2 n (bt + 1) 3 (begE T2.E n) ⟨true, 5, 1⟩
  obtain ⟨k3, q3, m3⟩ := hearT_ok k2 q2 he3
  generalize T2.win n (bt + 1) 3 (begE T2.E n) ⟨true, 5, 1⟩ = T3 at he3 e3 l3 k3 q3
  have he4 : hearT T3 n bt 9 4 = (9, T3) := by
    refine hear_old (hA _ _ (by decide) (by decide)) l3 (by show bt + 1 ≠ bt; omega) ?_
    show ¬ (0 < serD (bt + 1) bt ∧ serD (bt + 1) bt < 32768)
    unfold serD serOK; rw [if_pos (by omega)]; split <;> omega
  refine N.call (cLenT T2 0 _ (by rfl)) ?_
  rw [e2]
  repeat' (refine N.go ?_; first | with_reducible refine N.obl (by decide) ?_ | with_reducible refine N.obl (flat_wi _ _ _) ?_ | with_reducible refine N.obl (flat_lim _ _) ?_ | with_reducible refine N.eq ?_ | with_reducible refine N.obl rfl ?_ | with_reducible refine N.obl ⟨by kernel_rfl, by kernel_rfl⟩ ?_ | with_reducible refine N.forkT ?_ | with_reducible refine N.forkF ?_ | refine N.forkYes (by rw [decide_eq_true_eq]; omega) ?_ | refine N.forkNo (by rw [decide_eq_false_iff_not]; omega) ?_ | refine N.forkYes (by decide) ?_ | refine N.forkNo (by decide) ?_ | fail_if_success skip)
  refine N.go ?_
  refine N.roll 1 ?_
  repeat' (refine N.go ?_; first | with_reducible refine N.obl (by decide) ?_ | with_reducible refine N.obl (flat_wi _ _ _) ?_ | with_reducible refine N.obl (flat_lim _ _) ?_ | with_reducible refine N.eq ?_ | with_reducible refine N.obl rfl ?_ | with_reducible refine N.obl ⟨by kernel_rfl, by kernel_rfl⟩ ?_ | with_reducible refine N.forkT ?_ | with_reducible refine N.forkF ?_ | refine N.forkYes (by rw [decide_eq_true_eq]; omega) ?_ | refine N.forkNo (by rw [decide_eq_false_iff_not]; omega) ?_ | refine N.forkYes (by decide) ?_ | refine N.forkNo (by decide) ?_ | fail_if_success skip)
  repeat' (refine N.go ?_; first | with_reducible refine N.obl (by decide) ?_ | with_reducible refine N.obl (flat_wi _ _ _) ?_ | with_reducible refine N.obl (flat_lim _ _) ?_ | with_reducible refine N.eq ?_ | with_reducible refine N.obl rfl ?_ | with_reducible refine N.obl ⟨by kernel_rfl, by kernel_rfl⟩ ?_ | with_reducible refine N.forkT ?_ | with_reducible refine N.forkF ?_ | refine N.call (cLenT T2 0 _ (by rfl)) ?_ | refine N.call (cHear T2 k2 n (IntKind.i64.wrap (bt + 1)) 5 3 0 T3 (by rw [i64s (bt + 1) (by omega) (by omega)]; exact he3) 0 _ (by rfl)) ?_ | refine N.call (cLenT T3 0 _ (by rfl)) ?_ | with_reducible refine N.call (cAwake _) ?_ | refine N.forkNo (by rw [e2]; rfl) ?_ | refine N.forkYes (by rw [e3]; rfl) ?_ | refine N.forkYes (by rw [e2]; rfl) ?_ | refine N.forkYes (by rw [decide_eq_true_eq]; omega) ?_ | refine N.forkNo (by rw [decide_eq_false_iff_not]; omega) ?_ | refine N.forkYes (by decide) ?_ | refine N.forkNo (by decide) ?_ | fail_if_success skip)
  refine N.go ?_
  refine N.call (cHear T3 k3 n bt 9 4 9 _ he4 0 _ (by rfl)) ?_
  repeat' (refine N.go ?_; first | with_reducible refine N.obl (by decide) ?_ | with_reducible refine N.obl (flat_wi _ _ _) ?_ | with_reducible refine N.obl (flat_lim _ _) ?_ | with_reducible refine N.eq ?_ | with_reducible refine N.obl rfl ?_ | with_reducible refine N.obl ⟨by kernel_rfl, by kernel_rfl⟩ ?_ | with_reducible refine N.forkT ?_ | with_reducible refine N.forkF ?_ | refine N.call (cLenT T2 0 _ (by rfl)) ?_ | refine N.call (cHear T2 k2 n (IntKind.i64.wrap (bt + 1)) 5 3 0 T3 (by rw [i64s (bt + 1) (by omega) (by omega)]; exact he3) 0 _ (by rfl)) ?_ | refine N.call (cLenT T3 0 _ (by rfl)) ?_ | with_reducible refine N.call (cAwake _) ?_ | refine N.forkNo (by rw [e2]; rfl) ?_ | refine N.forkYes (by rw [e3]; rfl) ?_ | refine N.forkYes (by rw [e2]; rfl) ?_ | refine N.forkYes (by rw [decide_eq_true_eq]; omega) ?_ | refine N.forkNo (by rw [decide_eq_false_iff_not]; omega) ?_ | refine N.forkYes (by decide) ?_ | refine N.forkNo (by decide) ?_ | fail_if_success skip)
  all_goals rfl
set_option maxRecDepth 100000 in
theorem lifted (os : Os) (started : os.Started) (H : Type) (enc : TypeId × Value → H) :
    ReturnsInHanded {} Try.checked os 5 .any (Rows.tableLeavesSpec.pre6 enc Try.prog Try.f5 Rows.tableLeavesRow.domain false) (Rows.tableLeavesSpec.post enc Try.prog Try.f5 false true false false) := by
  refine law_lifted (C := Try.checked) (tb := 4) Try.own started (by kernel_rfl) Try.func5 Try.laidOut (by kernel_rfl) rfl Try.underlying4 rfl
    (fun ds hds => by match ds, hds with | [_, _, _], _ => rfl)
    (ChangeSpec.witness6 (enc := enc) (C := Try.checked) false ⟨#[], #[.int .i64 0, .int .i64 0, .slice none 0 0], []⟩ 8 (by kernel_rfl) (by kernel_rfl) (by kernel_rfl) (by kernel_rfl)) ?_
  intro W base args ds p hval0 hA0 hsz0
  have hval : ∀ (j : Nat) t v, Try.f5.params[j]? = some t → args[j]? = some v → Value.okWide Try.prog W .any base t v := hval0
  have hA : DataW.TrodAll enc Try.prog W 0 (fun _ => true) true Try.f5.params.toList args.toList ds p := hA0
  have hsz : (DataW.weightsEach Try.prog Try.f5.params.toList ds).all (· ≤ reachBytes) = true := hsz0
  rw [Try.params5] at hA hval hsz
  obtain ⟨v0, vs0, d0, ds0, p0, q0, hargs, rfl, rfl, h0, r0⟩ := trodAll_cons hA
  obtain ⟨v1, vs1, d1, ds1, p1, q1, rfl, rfl, rfl, h1, r1⟩ := trodAll_cons r0
  obtain ⟨v2, vs2, d2, ds2, p2, q2, rfl, rfl, rfl, h2, r2⟩ := trodAll_cons r1
  obtain ⟨rfl, rfl, rfl⟩ := trodAll_nil r2
  obtain rfl : args = #[v0, v1, v2] := by cases args; simp_all
  obtain ⟨a0, rfl, rfl, rfl, w0⟩ := open_int Try.underlying3 (hval 0 _ v0 rfl rfl) h0
  obtain ⟨a1, rfl, rfl, rfl, w1⟩ := open_int Try.underlying3 (hval 1 _ v1 rfl rfl) h1
  rcases open_l (hval 2 _ v2 rfl rfl) h2 with rfl | ⟨a, n, cap, f, cl, rfl, hn, hs, hf⟩
  · exact walk0 a0 a1 W
  exact walk a0 a1 a n cap f cl W hn hs hf

theorem proved : Rows.TableLeavesSaid :=
  OpenClaim.holds_of_wide 5 Try.f5 rfl rfl rfl rfl rfl rfl rfl ⟨rfl, rfl, rfl, rfl, rfl⟩ rfl rfl rfl rfl rfl (by kernel_rfl) Try.func5 (by kernel_rfl)
    (of_decide_eq_true (by kernel_rfl)) (by unfold Func.isWrapper; rw [if_neg (by decide +kernel)]; exact ⟨rfl, rfl⟩)
    (fun os started H enc _ => lifted os started H enc)
#print axioms proved
end Go.Proofs.Ytpafcfelaaibgaa.tableLeaves
