/-
  The statement TableRoom: for every input the law returns true.
-/
import Derived.Test.YtpafcfelaaibgaaTblRoom
import Derived.Test.YtpafcfelaaibgaaRows
set_option linter.unusedVariables false
set_option linter.unusedSimpArgs false
namespace Go.Proofs.Ytpafcfelaaibgaa.tableRoom
open Go Go.ChangeShapes Go.WideShapes Go.ChangeAt Go.RowKit Sx

theorem new_lives (most n : Int) : (Tbl.new most).lives n = none := rfl
theorem win_lives (T : Tbl) (n boot now : Int) (E : List (Int × Ent)) (W : Win) : (T.win n boot now E W).lives n = some ⟨boot, false, W⟩ := by
  show setL T.lives n _ n = _
  unfold setL; rw [if_pos rfl]
theorem row1 {n i p m : Nat} {f : Nat → Value} {cl : Nat → Nat → Int} (hf : ∀ i, i < n → ∀ j, j < 1 → f (i * 1 + j) = .int .i64 (cl i j)) (hi : i < n) (hp : p = i * 1) (hm : m = 1) :
    Reads ⟨false, n * 1, [(0, n * 1, .agg ⟨segL (n * 1) f⟩)]⟩ p false m (.int .i64 (cl i 0)) := by
  subst hp hm
  exact ⟨by show i * 1 < n * 1; omega, rfl, by rw [seg_at (by omega)]; exact hf i hi 0 (by decide)⟩
theorem setL_at (lv : Int → Option Life) (n : Int) (l : Life) : setL lv n l n = some l := by unfold setL; rw [if_pos rfl]
theorem setL_ne {lv : Int → Option Life} {n m : Int} (l : Life) (h : m ≠ n) : setL lv n l m = lv m := by unfold setL; rw [if_neg h]
theorem hear_left {T : Tbl} {n boot seq now : Int} {l : Life} (ha : argsOK n boot seq now) (hl : T.lives n = some l) (hb : l.boot = boot) (hf : l.left = true) : hearT T n boot seq now = (9, T) := by
  unfold hearT; rw [if_pos ha, hl]; simp only [if_pos hb, if_pos hf]
theorem hear_old {T : Tbl} {n boot seq now : Int} {l : Life} (ha : argsOK n boot seq now) (hl : T.lives n = some l) (hb : l.boot ≠ boot) (hf : ¬ (0 < serD l.boot boot ∧ serD l.boot boot < 32768)) : hearT T n boot seq now = (9, T) := by
  unfold hearT; rw [if_pos ha, hl]; simp only [if_neg hb, if_neg hf]
theorem hear_next {T : Tbl} {n boot seq now : Int} {l : Life} (ha : argsOK n boot seq now) (hl : T.lives n = some l) (hb : l.boot ≠ boot) (hf : 0 < serD l.boot boot ∧ serD l.boot boot < 32768) : hearT T n boot seq now = (0, T.win n boot now (begE T.E n) ⟨true, seq, 1⟩) := by
  unfold hearT; rw [if_pos ha, hl]; simp only [if_neg hb, if_pos hf]
set_option maxRecDepth 100000 in
theorem open_l {H : Type} {enc : TypeId × Value → H} {W : World} {r : Reach} {base : Nat} {v : Value} {d : DataW H} {p : List MemPlace}
    (hv : Value.okWide Try.prog W r base 22 v) (h : DataW.Trod enc Try.prog W 0 (fun _ => true) true 22 v d p) :
    v = .slice none 0 0 ∨ ∃ (a : Addr) (n cap : Nat) (f : Nat → Value) (cl : Nat → Nat → Int), v = .slice (some a) n cap ∧ n ≤ 9223372036854775807 ∧ SeenIn W ⟨a, n * 1, f⟩ ∧ ∀ i, i < n → ∀ j, j < 1 → f (i * 1 + j) = .int .i64 (cl i j) := by
  have hsh := slice_shape Try.underlying22 hv
  obtain ⟨A, n, cap, f, rfl, hl, hm, hd, hseg, hrow⟩ := open_rows (C := 1) Try.underlying22 (by kernel_rfl) h hsh
  cases A with
  | none =>
    obtain ⟨rfl, rfl⟩ := okWide_nil Try.underlying22 hv
    exact .inl rfl
  | some a =>
    have hf : ∀ i, i < n → ∀ j, j < 1 → f (i * 1 + j) = .int .i64 (intOf (f (i * 1 + j))) := by
      intro i hi j hj
      obtain ⟨x, fuel, cs, ht, hcl, hc⟩ := hrow i hi
      match j, hj with
      | 0, _ => exact (leaf_int (d := 3) (l := 3) (j := 0) (by kernel_rfl) (@Try.underlying3) (hc 0 (by omega)) ht).1
    have hlit := rows_lit (f := f) (n := n) (k := 1) (by decide) fun i hi j hj => by rw [hf i hi j hj]; rfl
    exact .inr ⟨a, n, cap, f, fun i j => intOf (f (i * 1 + j)), rfl, by simp only [maxLen] at hm; omega, SeenIn.some Try.underlying22 hv hseg hlit, hf⟩
def ricell (x : Int) : Nat → Value
  | _ => .int .i64 x
theorem ricell_plain (x : Int) (k : Nat) : plain1 (ricell x k) = true := by unfold ricell; split <;> rfl
theorem ricell_in (x : Int) {k : Nat} (h : k < 1) : cellIn (.agg #[.int .i64 x]) k = ricell x k := by
  match k, h with
  | 0, _ => rfl
theorem ricell_zero (j : Nat) : repZ 1 (.agg #[.int .i64 0]) j = ricell (0) (j % 1) := by
  unfold repZ
  have h : j % 1 < 1 := Nat.mod_lt _ (by decide)
  generalize j % 1 = k at h
  match k, h with
  | 0, _ => rfl

/-- Elements, with room. -/
abbrev riC (o : Bool) (c : Nat) (T : Nat → Int) : Chunk := ⟨o, c * 1, [(0, c * 1, .agg ⟨segL (c * 1) (fun j => ricell (T (j / 1)) (j % 1))⟩)]⟩
theorem riC_f {o : Bool} {c j : Nat} {T : Nat → Int} (h : j < c * 1) : (riC o c T).f j = ricell (T (j / 1)) (j % 1) := seg_cell h
theorem riC_re {ix : List (Nat × Nat)} {o o' : Bool} {c : Nat} {T T' : Nat → Int} (h : ∀ i, i < c → T i = T' i) : ChunkRe ix (riC o c T) (riC o' c T') := fun j hj => by
  have hj : j < c * 1 := hj
  rw [seg_cell hj, seg_cell hj, h (j / 1) (by omega)]; exact .plain (ricell_plain _ _)
theorem riC_post {ix : List (Nat × Nat)} {c : Nat} {T T' : Nat → Int} {hp : List (Option Chunk)} {n : Nat} (h : ∀ i, i < c → T i = T' i) (hh : hp[n]? = some (some (riC true c T'))) : PostC ix hp n (riC true c T) := ⟨_, hh, id, Nat.le_refl _, riC_re h⟩
theorem riC_ren {ix : List (Nat × Nat)} {c : Nat} {T T' : Nat → Int} (h : ∀ i, i < c → T i = T' i) : ChunkReLe ix (riC true c T) (riC true c T') := ⟨id, Nat.le_refl _, riC_re h⟩
theorem rd_ri {o : Bool} {c p n : Nat} {T : Nat → Int} (i : Nat) (hn : n = 1) (h : i < c) (e : p = i * 1) : Reads (riC o c T) p true n (.agg #[.int .i64 (T i)]) := by
  subst e hn
  refine ⟨by show i * 1 + 1 ≤ c * 1; omega, _, rfl, rfl, fun j hj => ?_⟩
  rw [seg_cell (by omega), show (i * 1 + j) / 1 = i from by omega, show (i * 1 + j) % 1 = j from by omega]
  exact (ricell_in _ hj).symm
def setri (T : Nat → Int) (l : Nat) (x : Int) (i : Nat) : Int := if i = l then x else T i
theorem wr_ri {c l p : Nat} {T : Nat → Int} {x : Int} (h : l < c) (e : p = l * 1) : Writes (riC true c T) p (1 * 1) (.agg #[.int .i64 x]) (riC true c (setri T l x)) := by
  subst e
  refine ⟨rfl, by show l * 1 + 1 * 1 ≤ c * 1; omega, rfl, fun j hj => ?_⟩
  have hj : j < c * 1 := hj
  rw [seg_cell hj, seg_cell hj]
  unfold setri
  by_cases e : l * 1 ≤ j ∧ j < l * 1 + 1 * 1
  · rw [if_pos e, if_pos (by omega), ricell_in _ (by omega)]
    congr 1; omega
  · rw [if_neg e, if_neg (by omega)]
def growri (T : Nat → Int) (l : Nat) (x : Int) (i : Nat) : Int := if i < l then T i else if i = l then x else 0
theorem grown_ri {ci : Chunk} {l cap : Nat} {T : Nat → Int} {x : Int} (h : l < cap) (hc : ∀ j, j < l * 1 → ci.f j = ricell (T (j / 1)) (j % 1)) {j : Nat} (hj : j < cap * 1) : (grown ci l 1 1 (.agg #[.int .i64 x]) (.agg #[.int .i64 0]) cap).f j = ricell (growri T l x (j / 1)) (j % 1) := by
  unfold growri
  by_cases h1 : j < l * 1
  · rw [grown_old h1, if_pos (by omega)]; exact hc j h1
  · rw [if_neg (by omega)]
    by_cases h2 : j < (l + 1) * 1
    · have := grown_new (ci := ci) (l := l) (m := 1) (size := 1) (cap := cap) (v := .agg #[.int .i64 x]) (z := .agg #[.int .i64 0]) (j := j - l * 1) (by omega)
      rw [show l * 1 + (j - l * 1) = j from by omega] at this
      rw [this, if_pos (by omega), ricell_in _ (by omega)]
      congr 1; omega
    · rw [grown_zero (by omega) hj, if_neg (by omega)]; exact ricell_zero j
theorem grownri_post {ix : List (Nat × Nat)} {ci : Chunk} {l cap : Nat} {T : Nat → Int} {x : Int} {hp : List (Option Chunk)} {n : Nat} (h : l < cap) (hc : ∀ j, j < l * 1 → ci.f j = ricell (T (j / 1)) (j % 1)) (hh : hp[n]? = some (some (grown ci l 1 1 (.agg #[.int .i64 x]) (.agg #[.int .i64 0]) cap))) : PostC ix hp n (riC true cap (growri T l x)) :=
  ⟨_, hh, fun _ => rfl, by show cap * 1 ≤ cap * 1; omega, fun j hj => by
    have hj : j < cap * 1 := hj
    rw [seg_cell hj, grown_ri h hc hj]; exact .plain (ricell_plain _ _)⟩
theorem grownri_ren {ix : List (Nat × Nat)} {ci : Chunk} {l cap : Nat} {T T' : Nat → Int} {x : Int} (h : l < cap) (hc : ∀ j, j < l * 1 → ci.f j = ricell (T (j / 1)) (j % 1)) (he : ∀ i, i < cap → T' i = growri T l x i) : ChunkReLe ix (riC true cap T') (grown ci l 1 1 (.agg #[.int .i64 x]) (.agg #[.int .i64 0]) cap) :=
  ⟨fun _ => rfl, by show cap * 1 ≤ cap * 1; omega, fun j hj => by
    have hj : j < cap * 1 := hj
    rw [seg_cell hj, grown_ri h hc hj, he _ (by omega)]; exact .plain (ricell_plain _ _)⟩
theorem and15 (x : Int) : ∃ n : Int, 0 ≤ n ∧ n < 16 ∧ IntKind.i64.wrap ((BitVec.ofInt IntKind.i64.bits x &&& BitVec.ofInt IntKind.i64.bits 15).toNat : Nat) = n := by
  have h1 : (BitVec.ofInt IntKind.i64.bits 15).toNat = 2 ^ 4 - 1 := by decide
  have h2 : (BitVec.ofInt IntKind.i64.bits x &&& BitVec.ofInt IntKind.i64.bits 15).toNat = (BitVec.ofInt IntKind.i64.bits x).toNat % 16 := by
    rw [BitVec.toNat_and, h1, Nat.and_two_pow_sub_one_eq_mod]
  rw [h2]
  have := Nat.mod_lt (BitVec.ofInt IntKind.i64.bits x).toNat (show 16 > 0 by decide)
  exact ⟨_, by rw [i64s _ (by omega) (by omega)]; omega, by rw [i64s _ (by omega) (by omega)]; omega, rfl⟩
theorem seg_same {ix : List (Nat × Nat)} {n : Nat} {f : Nat → Value} (hl : ∀ j, j < n → lit1 (f j) = true) : ChunkReLe ix (segC n f) (segC n f) := ⟨id, Nat.le_refl _, fun j hj => by
  have hj : j < n := hj
  rw [seg_at hj]; exact .plain (lit1_plain (hl j hj))⟩
theorem tbl_ren {ix : List (Nat × Nat)} {T : Tbl} : ChunkReLe ix (tblC T) (tblC T) := ⟨id, Nat.le_refl _, fun j hj => absurd hj (Nat.not_lt_zero j)⟩
theorem rd1 {o : Bool} {c p n : Nat} {T : Nat → Int} (i : Nat) (hn : n = 1) (h : i < c) (e : p = i * 1) : Reads (riC o c T) p false n (.int .i64 (T i)) := by
  subst e hn
  refine ⟨by show i * 1 < c * 1; omega, rfl, ?_⟩
  rw [riC_f (by omega), show i * 1 / 1 = i from by omega]; rfl
theorem rowS_zero {m : Nat} {n : Int} (h : 1 ≤ m) : rowS m n [] = [n] := by unfold rowS; exact List.take_of_length_le (by simpa using h)
theorem rowS_len {m : Nat} {n : Int} {R : List Int} (h : 1 ≤ m) : 1 ≤ (rowS m n R).length ∧ (rowS m n R).length ≤ m := by unfold rowS; rw [List.length_take, List.length_cons]; omega
theorem rowS_eq {m : Nat} {n x : Int} {R : List Int} {j : Nat} (hx : R[j]? = some x) (e : x = n) : rowS m n (R.take (j + 1)) = rowS m n (R.take j) := by
  unfold rowS; rw [List.take_add_one, hx]; simp [e]
theorem rowS_ne {m : Nat} {n x : Int} {R : List Int} {j : Nat} (hx : R[j]? = some x) (e : x ≠ n) (hl : (rowS m n (R.take j)).length < m) : rowS m n (R.take (j + 1)) = rowS m n (R.take j) ++ [x] := by
  unfold rowS at hl ⊢
  rw [List.length_take] at hl
  have hs : List.filter (fun x => decide (x ≠ n)) (some x).toList = [x] := by simp [e]
  rw [List.take_add_one, hx, List.filter_append, hs, List.take_of_length_le (l := n :: List.filter _ (R.take j)) (by omega), List.take_of_length_le (by simp only [List.length_cons, List.length_append, List.length_nil] at hl ⊢; omega)]
  rfl
theorem rowS_full {m : Nat} {n x : Int} {R : List Int} {j : Nat} (hx : R[j]? = some x) (hl : ¬ (rowS m n (R.take j)).length < m) : rowS m n (R.take (j + 1)) = rowS m n (R.take j) := by
  unfold rowS at hl ⊢
  rw [List.length_take] at hl
  rw [List.take_add_one, hx, List.filter_append, ← List.cons_append, List.take_append_of_le_length (by omega)]
abbrev rl (R : List Int) (c : Nat) : Chunk := riC true c (fun i => R.getD i 0)
theorem lit_ren {ix : List (Nat × Nat)} {n : Int} : ChunkReLe ix (rl [n] 1) ⟨true, 1, [(0, 1, .agg ⟨[.int .i64 n]⟩)]⟩ := ⟨id, Nat.le_refl _, fun j hj => by
  have hj : j < 1 := hj
  obtain rfl : j = 0 := by omega
  exact .plain rfl⟩
theorem seti_rl (S : List Int) (x : Int) : setri (fun i => S.getD i 0) S.length x = fun i => (S ++ [x]).getD i 0 := by
  funext i
  unfold setri
  by_cases h : i = S.length
  · rw [if_pos h]; simp [h]
  · rw [if_neg h]
    by_cases h2 : i < S.length
    · simp [List.getD_eq_getElem?_getD, List.getElem?_append_left h2]
    · simp [List.getD_eq_getElem?_getD, List.getElem?_eq_none (l := S) (i := i) (by omega), List.getElem?_eq_none (l := S ++ [x]) (i := i) (by simp; omega)]
theorem growi_rl (S : List Int) (x : Int) (i : Nat) : (S ++ [x]).getD i 0 = growri (fun i => S.getD i 0) S.length x i := by
  rw [← congrFun (seti_rl S x) i]
  unfold setri growri
  by_cases h : i < S.length
  · rw [if_neg (by omega), if_pos h]
  · rw [if_neg h]
    by_cases h2 : i = S.length
    · rw [if_pos h2, if_pos h2]
    · rw [if_neg h2, if_neg h2]; simp [List.getD_eq_getElem?_getD, List.getElem?_eq_none (l := S) (i := i) (by omega)]
theorem lit_ren' {ix : List (Nat × Nat)} {n : Int} {S : List Int} (e : S = [n]) : ChunkReLe ix (rl S 1) ⟨true, 1, [(0, 1, .agg ⟨[.int .i64 n]⟩)]⟩ := by subst e; exact lit_ren
theorem rl_ren {ix : List (Nat × Nat)} {S S' : List Int} {c : Nat} (e : S' = S) : ChunkReLe ix (rl S' c) (rl S c) := by subst e; exact riC_ren fun _ _ => rfl
theorem set_ren {ix : List (Nat × Nat)} {S S' : List Int} {x : Int} {c : Nat} (e : S' = S ++ [x]) : ChunkReLe ix (rl S' c) (riC true c (setri (fun i => S.getD i 0) S.length x)) := by subst e; rw [seti_rl]; exact riC_ren fun _ _ => rfl
theorem grow_ren {ix : List (Nat × Nat)} {S S' : List Int} {x : Int} {c cap : Nat} (e : S' = S ++ [x]) (h : S.length < cap) (hc : S.length ≤ c) : ChunkReLe ix (rl S' cap) (grown (rl S c) S.length 1 1 (.agg #[.int .i64 x]) (.agg #[.int .i64 0]) cap) := by
  subst e
  exact grownri_ren h (fun j hj => riC_f (by omega)) fun i _ => growi_rl S x i
theorem sl_ren {ix : List (Nat × Nat)} {i j l l' c : Nat} (e : l' = l) (h : ixK ix i = some j) : Re ix (.slice (some ⟨j, 0, some 0⟩) l' c) (.slice (some ⟨i, 0, some 0⟩) l c) := by subst e; exact .one (.slice h)
structure RS where
  x : Nat
  T : Tbl
  R : List Int
  c : Nat
def RS.ok (m len : Nat) (q : RS) : Prop := 1 ≤ q.x ∧ q.x ≤ len ∧ q.x ≤ 150 ∧ q.T.most = m ∧ Room q.T q.R q.x ∧ 1 ≤ q.R.length ∧ q.R.length ≤ q.c
set_option maxRecDepth 100000 in
set_option maxHeartbeats 2000000 in
theorem walk (a : Int) (ad : Addr) (len lcap : Nat) (f : Nat → Value) (cl : Nat → Nat → Int) (w : World) (hlen : len ≤ 9223372036854775807) (hsn : SeenIn w ⟨ad, len * 1, f⟩) (hf : ∀ i, i < len → ∀ j, j < 1 → f (i * 1 + j) = .int .i64 (cl i j)) :
    Calls Try.prog 3 #[.int .i64 a, .slice (some ad) len lcap] w fun e w' => e = .returned (.bool true) ∧ Below w.heap.size w w' := by
  obtain ⟨n1, n2⟩ := u64mod a 8 (by decide) (by decide)
  have hl : ∀ j, j < len * 1 → lit1 (f j) = true := rows_lit (by decide) fun i hi j hj => by rw [hf i hi j hj]; rfl
  refine calls_args (G := tys) (vs := [.int .i64 a, .slice (some ⟨0, 0, some 0⟩) len lcap]) [⟨ad, len * 1, f⟩] w tysOK mixed Try.func3 (by rfl) (by simpa using hsn) ⟨.plain rfl, .slice rfl, trivial⟩ rfl ?_
  repeat' (refine N.go ?_; first | with_reducible refine N.obl (by decide) ?_ | with_reducible refine N.obl (flat_wi _ _ _) ?_ | with_reducible refine N.obl (flat_lim _ _) ?_ | with_reducible refine N.eq ?_ | with_reducible refine N.obl rfl ?_ | with_reducible refine N.obl ⟨by kernel_rfl, by kernel_rfl⟩ ?_ | with_reducible refine N.forkT ?_ | with_reducible refine N.forkF ?_ | refine N.forkYes (by rw [decide_eq_true_eq]; omega) ?_ | refine N.forkNo (by rw [decide_eq_false_iff_not]; omega) ?_ | refine N.forkYes (by decide) ?_ | refine N.forkNo (by decide) ?_ | fail_if_success skip)
  refine N.go ?_
  generalize IntKind.i64.wrap ((IntKind.u64.wrap a).tmod 8) = n0 at n1 n2 ⊢
  obtain ⟨m, hm1, hm8, hm⟩ : ∃ m : Nat, 1 ≤ m ∧ m ≤ 8 ∧ IntKind.i64.wrap (1 + n0) = m := ⟨(1 + n0).toNat, by omega, by omega, by rw [i64s (1 + n0) (by omega) (by omega)]; omega⟩
  generalize IntKind.i64.wrap (1 + n0) = mz at hm ⊢
  subst hm
  refine N.call (cNewT m 1 _ (by rfl)) ?_
  have rm0 := room_new (m := m) (by omega)
  have hmo : (Tbl.new m).most = m := by unfold Tbl.new; simp only; omega
  repeat' (refine N.go ?_; first | with_reducible refine N.obl (by decide) ?_ | with_reducible refine N.obl (flat_wi _ _ _) ?_ | with_reducible refine N.obl (flat_lim _ _) ?_ | with_reducible refine N.eq ?_ | with_reducible refine N.obl rfl ?_ | with_reducible refine N.obl ⟨by kernel_rfl, by kernel_rfl⟩ ?_ | with_reducible refine N.forkT ?_ | with_reducible refine N.forkF ?_ | refine N.forkYes (by rw [decide_eq_true_eq]; omega) ?_ | refine N.forkNo (by rw [decide_eq_false_iff_not]; omega) ?_ | refine N.forkYes (by decide) ?_ | refine N.forkNo (by decide) ?_ | fail_if_success skip)
  refine N.go ?_
  refine N.loopR (α := Option RS) (fun x => match x with | none => True | some q => q.ok m len) (fun x => match x with | none => len + 1 | some q => len - q.x) (fun x => match x with | none => [(25, .int .i64 0), (6, .slice none 0 0)] | some q => [(25, .int .i64 (q.x : Int)), (6, .slice (some ⟨2, 0, some 0⟩) q.R.length q.c)]) (fun x => match x with | none => [] | some q => [(1, tblC q.T), (2, rl q.R q.c)]) none [(0, 0), (1, 1)] trivial ?_ ?_
  · repeat' (refine N.go ?_; first | with_reducible refine N.obl (by decide) ?_ | with_reducible refine N.obl (flat_wi _ _ _) ?_ | with_reducible refine N.obl (flat_lim _ _) ?_ | with_reducible refine N.eq ?_ | with_reducible refine N.obl rfl ?_ | with_reducible refine N.obl ⟨by kernel_rfl, by kernel_rfl⟩ ?_ | with_reducible refine N.forkT ?_ | with_reducible refine N.forkF ?_ | exact N.true | refine N.obl (.plain (by rfl)) ?_ | refine N.obl (.one (.ptr rfl)) ?_ | refine N.obl (.one (.slice rfl)) ?_ | refine N.obl (ChunkReLe.same (agg_plain (by rfl) (by rfl))) ?_ | refine N.obl (seg_same hl) ?_ | refine N.obl tbl_ren ?_ | fail_if_success skip)
  · intro x hx
    cases x with
    | none =>
      by_cases hlt : 0 < len
      · refine N.go ?_
        refine N.forkYes (by simpa using hlt) ?_
        refine N.go ?_
        refine N.idx 0 1 rfl hlt ?_
        refine N.go ?_
        refine N.load _ (row1 hf hlt (by omega) rfl) ?_
        obtain ⟨n, hn0, hn1, hn⟩ := and15 (cl 0 0)
        refine N.go ?_
        refine N.forkNo (by decide) ?_
        refine N.go ?_
        rw [hn]
        obtain ⟨T1, he, hmo1, rm1⟩ := room_step rm0 hmo (n := n) ⟨hn0, by omega⟩ (by decide)
        refine N.call (cHear _ rm0.ok n 0 0 0 0 T1 he 1 _ (by rfl)) ?_
        have hrow := rowS_zero (m := m) (n := n) hm1
        rw [hrow] at rm1
        have hln := rm1.len
        obtain ⟨e1, hg⟩ : ∃ e, dGet T1.E n = some e := by
          cases hg : dGet T1.E n with
          | none => exact absurd hg ((rm1.mem n).1 (List.mem_singleton.2 rfl))
          | some e => exact ⟨e, rfl⟩
        repeat' (refine N.go ?_; first | with_reducible refine N.obl (by decide) ?_ | with_reducible refine N.obl (flat_wi _ _ _) ?_ | with_reducible refine N.obl (flat_lim _ _) ?_ | with_reducible refine N.eq ?_ | with_reducible refine N.obl rfl ?_ | with_reducible refine N.obl ⟨by kernel_rfl, by kernel_rfl⟩ ?_ | with_reducible refine N.forkT ?_ | with_reducible refine N.forkF ?_ | refine N.call (cLenT T1 1 _ (by rfl)) ?_ | refine N.call (cGetY T1 n e1 hg 1 _ (by rfl)) ?_ | refine N.forkNo (by rw [hln]; rfl) ?_ | refine N.forkYes (by rw [decide_eq_true_eq]; omega) ?_ | refine N.forkNo (by rw [decide_eq_false_iff_not]; omega) ?_ | refine N.forkYes (by decide) ?_ | refine N.forkNo (by decide) ?_ | refine N.roll 2 ?_ | refine N.idx 0 1 rfl (by decide) ?_ | refine N.load (.int .i64 n) ⟨Nat.le_of_ble_eq_true rfl, rfl, rfl⟩ ?_ | fail_if_success skip)
        refine N.go ?_
        have hok : RS.ok m len ⟨1, T1, [n], 1⟩ := ⟨Nat.le_refl _, hlt, by show 1 ≤ 150; decide, hmo1, rm1, Nat.le_refl _, Nat.le_refl _⟩
        refine N.nextR (α := Option RS) (some ⟨1, T1, [n], 1⟩) [(0, 0), (1, 1), (2, 2)] (And.intro hok (by show len - 1 < len + 1; omega)) ?_
        repeat' (refine N.go ?_; first | with_reducible refine N.obl (by decide) ?_ | with_reducible refine N.obl (flat_wi _ _ _) ?_ | with_reducible refine N.obl (flat_lim _ _) ?_ | with_reducible refine N.eq ?_ | with_reducible refine N.obl rfl ?_ | with_reducible refine N.obl ⟨by kernel_rfl, by kernel_rfl⟩ ?_ | with_reducible refine N.forkT ?_ | with_reducible refine N.forkF ?_ | refine N.obl lit_ren ?_ | exact N.true | refine N.obl (.plain (by rfl)) ?_ | refine N.obl (.one (.ptr rfl)) ?_ | refine N.obl (.one (.slice rfl)) ?_ | refine N.obl (ChunkReLe.same (agg_plain (by rfl) (by rfl))) ?_ | refine N.obl (seg_same hl) ?_ | refine N.obl tbl_ren ?_ | fail_if_success skip)
      · refine N.go ?_
        refine N.forkNo (by simpa using hlt) ?_
        repeat' (refine N.go ?_; first | with_reducible refine N.obl (by decide) ?_ | with_reducible refine N.obl (flat_wi _ _ _) ?_ | with_reducible refine N.obl (flat_lim _ _) ?_ | with_reducible refine N.eq ?_ | with_reducible refine N.obl rfl ?_ | with_reducible refine N.obl ⟨by kernel_rfl, by kernel_rfl⟩ ?_ | with_reducible refine N.forkT ?_ | with_reducible refine N.forkF ?_ | with_reducible refine N.call (cAwake _) ?_ | refine N.forkYes (by rw [decide_eq_true_eq]; omega) ?_ | refine N.forkNo (by rw [decide_eq_false_iff_not]; omega) ?_ | refine N.forkYes (by decide) ?_ | refine N.forkNo (by decide) ?_ | fail_if_success skip)
        all_goals rfl
    | some q =>
      obtain ⟨q1, q2, q3, q4, rm, q5, q6⟩ := hx
      have hRm : q.R.length ≤ m := by have := rm.len; have := rm.ok.len; omega
      by_cases hlt : q.x < len
      · refine N.go ?_
        refine N.forkYes (by simpa using hlt) ?_
        refine N.go ?_
        refine N.idx q.x 1 rfl hlt ?_
        refine N.go ?_
        refine N.load _ (row1 hf hlt (by omega) rfl) ?_
        obtain ⟨n, hn0, hn1, hn⟩ := and15 (cl q.x 0)
        refine N.go ?_
        by_cases h150 : q.x < 150
        · refine N.forkNo (by rw [decide_eq_false_iff_not]; omega) ?_
          refine N.go ?_
          rw [hn]
          obtain ⟨T1, he, hmo1, rm1⟩ := room_step rm q4 (n := n) ⟨hn0, by omega⟩ h150
          refine N.call (cHear _ rm.ok n 0 q.x q.x 0 T1 he 1 _ (by rfl)) ?_
          repeat' (refine N.go ?_; first | with_reducible refine N.obl (by decide) ?_ | with_reducible refine N.obl (flat_wi _ _ _) ?_ | with_reducible refine N.obl (flat_lim _ _) ?_ | with_reducible refine N.eq ?_ | with_reducible refine N.obl rfl ?_ | with_reducible refine N.obl ⟨by kernel_rfl, by kernel_rfl⟩ ?_ | with_reducible refine N.forkT ?_ | with_reducible refine N.forkF ?_ | refine N.forkYes (by rw [decide_eq_true_eq]; omega) ?_ | refine N.forkNo (by rw [decide_eq_false_iff_not]; omega) ?_ | refine N.forkYes (by decide) ?_ | refine N.forkNo (by decide) ?_ | fail_if_success skip)
          refine N.go ?_
          refine N_loopD 2199023255552 ?_ ?_
          · repeat' (refine N.go ?_; first | with_reducible refine N.obl (by decide) ?_ | with_reducible refine N.obl (flat_wi _ _ _) ?_ | with_reducible refine N.obl (flat_lim _ _) ?_ | with_reducible refine N.eq ?_ | with_reducible refine N.obl rfl ?_ | with_reducible refine N.obl ⟨by kernel_rfl, by kernel_rfl⟩ ?_ | with_reducible refine N.forkT ?_ | with_reducible refine N.forkF ?_ | exact N.true | refine N.obl (ChunkLe.refl _) ?_ | fail_if_success skip)
          refine N.go ?_
          refine N.loopR (α := Nat × Nat) (fun x => x.1 ≤ q.R.length ∧ 1 ≤ x.2 ∧ (rowS m n (q.R.take x.1)).length ≤ x.2) (fun x => q.R.length - x.1) (fun x => [(44, .int .i64 (x.1 : Int)), (9, .slice (some ⟨3, 0, some 0⟩) (rowS m n (q.R.take x.1)).length x.2)]) (fun x => [(3, rl (rowS m n (q.R.take x.1)) x.2)]) (0, 1) [(0, 0), (1, 1), (2, 2), (3, 3)] ⟨Nat.zero_le _, Nat.le_refl _, by show (rowS m n []).length ≤ 1; rw [rowS_zero hm1]; exact Nat.le_refl _⟩ ?_ ?_
          · repeat' (refine N.go ?_; first | with_reducible refine N.obl (by decide) ?_ | with_reducible refine N.obl (flat_wi _ _ _) ?_ | with_reducible refine N.obl (flat_lim _ _) ?_ | with_reducible refine N.eq ?_ | with_reducible refine N.obl rfl ?_ | with_reducible refine N.obl ⟨by kernel_rfl, by kernel_rfl⟩ ?_ | with_reducible refine N.forkT ?_ | with_reducible refine N.forkF ?_ | refine N.obl (sl_ren (show (rowS m n []).length = 1 by rw [rowS_zero hm1]; rfl) (by rfl)) ?_ | refine N.obl (rl_ren rfl) ?_ | refine N.obl (lit_ren' (rowS_zero hm1)) ?_ | exact N.true | refine N.obl (.plain (by rfl)) ?_ | refine N.obl (.one (.ptr rfl)) ?_ | refine N.obl (.one (.slice rfl)) ?_ | refine N.obl (ChunkReLe.same (agg_plain (by rfl) (by rfl))) ?_ | refine N.obl (seg_same hl) ?_ | refine N.obl tbl_ren ?_ | fail_if_success skip)
          · intro y hy
            obtain ⟨j1, j2, j3⟩ := hy
            by_cases hj : y.1 < q.R.length
            · have hx : q.R[y.1]? = some (q.R.getD y.1 0) := by simp [hj]
              refine N.go ?_
              refine N.forkYes (by simpa using hj) ?_
              refine N.go ?_
              refine N.idx y.1 1 rfl hj ?_
              refine N.go ?_
              refine N.load _ (rd1 y.1 rfl (by omega) (by omega)) ?_
              refine N.go ?_
              by_cases hxn : q.R.getD y.1 0 = n
              · have e2 := rowS_eq (m := m) hx hxn
                refine N.forkNo (by rw [hxn]; simp) ?_
                repeat' (refine N.go ?_; first | with_reducible refine N.obl (by decide) ?_ | with_reducible refine N.obl (flat_wi _ _ _) ?_ | with_reducible refine N.obl (flat_lim _ _) ?_ | with_reducible refine N.eq ?_ | with_reducible refine N.obl rfl ?_ | with_reducible refine N.obl ⟨by kernel_rfl, by kernel_rfl⟩ ?_ | with_reducible refine N.forkT ?_ | with_reducible refine N.forkF ?_ | refine N.forkYes (by rw [decide_eq_true_eq]; omega) ?_ | refine N.forkNo (by rw [decide_eq_false_iff_not]; omega) ?_ | refine N.forkYes (by decide) ?_ | refine N.forkNo (by decide) ?_ | fail_if_success skip)
                refine N.go ?_
                refine N.nextR (y.1 + 1, y.2) [(0, 0), (1, 1), (2, 2), (3, 3)] ⟨⟨by show y.1 + 1 ≤ q.R.length; omega, j2, by show (rowS m n (q.R.take (y.1 + 1))).length ≤ y.2; rw [e2]; exact j3⟩, by show q.R.length - (y.1 + 1) < q.R.length - y.1; omega⟩ ?_
                repeat' (refine N.go ?_; first | with_reducible refine N.obl (by decide) ?_ | with_reducible refine N.obl (flat_wi _ _ _) ?_ | with_reducible refine N.obl (flat_lim _ _) ?_ | with_reducible refine N.eq ?_ | with_reducible refine N.obl rfl ?_ | with_reducible refine N.obl ⟨by kernel_rfl, by kernel_rfl⟩ ?_ | with_reducible refine N.forkT ?_ | with_reducible refine N.forkF ?_ | refine N.obl (re_eq (int_eq (by rw [i64s ((y.1 : Int) + 1) (by omega) (by omega)]; rfl)) rfl) ?_ | refine N.obl (sl_ren (by show (rowS m n (q.R.take (y.1 + 1))).length = _; rw [e2]) (by rfl)) ?_ | refine N.obl (rl_ren rfl) ?_ | refine N.obl (rl_ren e2) ?_ | exact N.true | refine N.obl (.plain (by rfl)) ?_ | refine N.obl (.one (.ptr rfl)) ?_ | refine N.obl (.one (.slice rfl)) ?_ | refine N.obl (ChunkReLe.same (agg_plain (by rfl) (by rfl))) ?_ | refine N.obl (seg_same hl) ?_ | refine N.obl tbl_ren ?_ | fail_if_success skip)
              · refine N.forkYes (by simpa using hxn) ?_
                refine N.go ?_
                by_cases hfu : (rowS m n (q.R.take y.1)).length < m
                · have e2 := rowS_ne (m := m) hx hxn hfu
                  repeat' (refine N.go ?_; first | with_reducible refine N.obl (by decide) ?_ | with_reducible refine N.obl (flat_wi _ _ _) ?_ | with_reducible refine N.obl (flat_lim _ _) ?_ | with_reducible refine N.eq ?_ | with_reducible refine N.obl rfl ?_ | with_reducible refine N.obl ⟨by kernel_rfl, by kernel_rfl⟩ ?_ | with_reducible refine N.forkT ?_ | with_reducible refine N.forkF ?_ | refine N.forkYes (by rw [decide_eq_true_eq]; omega) ?_ | refine N.forkNo (by rw [decide_eq_false_iff_not]; omega) ?_ | refine N.forkYes (by decide) ?_ | refine N.forkNo (by decide) ?_ | fail_if_success skip)
                  refine N.go ?_
                  refine App_mk (.agg #[.int .i64 (q.R.getD y.1 0)]) (rd_all (by rfl) (by rfl)) (by rfl) (by show _ * 1 ≤ y.2 * 1; omega) (by omega) (by show (_ + 1) * 8 ≤ _; omega) (riC true y.2 (setri (fun i => (rowS m n (q.R.take y.1)).getD i 0) (rowS m n (q.R.take y.1)).length (q.R.getD y.1 0))) (fun h => wr_ri (by omega) rfl) (fun hr => ?_) (fun hg2 cap hcap => ?_)
                  · repeat' (refine N.go ?_; first | with_reducible refine N.obl (by decide) ?_ | with_reducible refine N.obl (flat_wi _ _ _) ?_ | with_reducible refine N.obl (flat_lim _ _) ?_ | with_reducible refine N.eq ?_ | with_reducible refine N.obl rfl ?_ | with_reducible refine N.obl ⟨by kernel_rfl, by kernel_rfl⟩ ?_ | with_reducible refine N.forkT ?_ | with_reducible refine N.forkF ?_ | refine N.forkYes (by rw [decide_eq_true_eq]; omega) ?_ | refine N.forkNo (by rw [decide_eq_false_iff_not]; omega) ?_ | refine N.forkYes (by decide) ?_ | refine N.forkNo (by decide) ?_ | fail_if_success skip)
                    refine N.go ?_
                    refine N.nextR (y.1 + 1, y.2) [(0, 0), (1, 1), (2, 2), (3, 3)] ⟨⟨by show y.1 + 1 ≤ q.R.length; omega, j2, by show (rowS m n (q.R.take (y.1 + 1))).length ≤ y.2; rw [e2, List.length_append]; exact hr⟩, by show q.R.length - (y.1 + 1) < q.R.length - y.1; omega⟩ ?_
                    repeat' (refine N.go ?_; first | with_reducible refine N.obl (by decide) ?_ | with_reducible refine N.obl (flat_wi _ _ _) ?_ | with_reducible refine N.obl (flat_lim _ _) ?_ | with_reducible refine N.eq ?_ | with_reducible refine N.obl rfl ?_ | with_reducible refine N.obl ⟨by kernel_rfl, by kernel_rfl⟩ ?_ | with_reducible refine N.forkT ?_ | with_reducible refine N.forkF ?_ | refine N.obl (re_eq (int_eq (by rw [i64s ((y.1 : Int) + 1) (by omega) (by omega)]; rfl)) rfl) ?_ | refine N.obl (sl_ren (by show (rowS m n (q.R.take (y.1 + 1))).length = _; rw [e2, List.length_append]; rfl) (by rfl)) ?_ | refine N.obl (rl_ren rfl) ?_ | refine N.obl (set_ren e2) ?_ | exact N.true | refine N.obl (.plain (by rfl)) ?_ | refine N.obl (.one (.ptr rfl)) ?_ | refine N.obl (.one (.slice rfl)) ?_ | refine N.obl (ChunkReLe.same (agg_plain (by rfl) (by rfl))) ?_ | refine N.obl (seg_same hl) ?_ | refine N.obl tbl_ren ?_ | fail_if_success skip)
                  · repeat' (refine N.go ?_; first | with_reducible refine N.obl (by decide) ?_ | with_reducible refine N.obl (flat_wi _ _ _) ?_ | with_reducible refine N.obl (flat_lim _ _) ?_ | with_reducible refine N.eq ?_ | with_reducible refine N.obl rfl ?_ | with_reducible refine N.obl ⟨by kernel_rfl, by kernel_rfl⟩ ?_ | with_reducible refine N.forkT ?_ | with_reducible refine N.forkF ?_ | refine N.forkYes (by rw [decide_eq_true_eq]; omega) ?_ | refine N.forkNo (by rw [decide_eq_false_iff_not]; omega) ?_ | refine N.forkYes (by decide) ?_ | refine N.forkNo (by decide) ?_ | fail_if_success skip)
                    refine N.go ?_
                    refine N.nextR (y.1 + 1, cap) [(0, 0), (1, 1), (2, 2), (5, 3)] ⟨⟨by show y.1 + 1 ≤ q.R.length; omega, by show 1 ≤ cap; omega, by show (rowS m n (q.R.take (y.1 + 1))).length ≤ cap; rw [e2, List.length_append]; exact hcap⟩, by show q.R.length - (y.1 + 1) < q.R.length - y.1; omega⟩ ?_
                    repeat' (refine N.go ?_; first | with_reducible refine N.obl (by decide) ?_ | with_reducible refine N.obl (flat_wi _ _ _) ?_ | with_reducible refine N.obl (flat_lim _ _) ?_ | with_reducible refine N.eq ?_ | with_reducible refine N.obl rfl ?_ | with_reducible refine N.obl ⟨by kernel_rfl, by kernel_rfl⟩ ?_ | with_reducible refine N.forkT ?_ | with_reducible refine N.forkF ?_ | refine N.obl (re_eq (int_eq (by rw [i64s ((y.1 : Int) + 1) (by omega) (by omega)]; rfl)) rfl) ?_ | refine N.obl (sl_ren (by show (rowS m n (q.R.take (y.1 + 1))).length = _; rw [e2, List.length_append]; rfl) (by rfl)) ?_ | refine N.obl (rl_ren rfl) ?_ | refine N.obl (grow_ren e2 hcap j3) ?_ | exact N.true | refine N.obl (.plain (by rfl)) ?_ | refine N.obl (.one (.ptr rfl)) ?_ | refine N.obl (.one (.slice rfl)) ?_ | refine N.obl (ChunkReLe.same (agg_plain (by rfl) (by rfl))) ?_ | refine N.obl (seg_same hl) ?_ | refine N.obl tbl_ren ?_ | fail_if_success skip)
                · have e2 := rowS_full (m := m) hx hfu
                  repeat' (refine N.go ?_; first | with_reducible refine N.obl (by decide) ?_ | with_reducible refine N.obl (flat_wi _ _ _) ?_ | with_reducible refine N.obl (flat_lim _ _) ?_ | with_reducible refine N.eq ?_ | with_reducible refine N.obl rfl ?_ | with_reducible refine N.obl ⟨by kernel_rfl, by kernel_rfl⟩ ?_ | with_reducible refine N.forkT ?_ | with_reducible refine N.forkF ?_ | refine N.forkYes (by rw [decide_eq_true_eq]; omega) ?_ | refine N.forkNo (by rw [decide_eq_false_iff_not]; omega) ?_ | refine N.forkYes (by decide) ?_ | refine N.forkNo (by decide) ?_ | fail_if_success skip)
                  refine N.go ?_
                  refine N.nextR (y.1 + 1, y.2) [(0, 0), (1, 1), (2, 2), (3, 3)] ⟨⟨by show y.1 + 1 ≤ q.R.length; omega, j2, by show (rowS m n (q.R.take (y.1 + 1))).length ≤ y.2; rw [e2]; exact j3⟩, by show q.R.length - (y.1 + 1) < q.R.length - y.1; omega⟩ ?_
                  repeat' (refine N.go ?_; first | with_reducible refine N.obl (by decide) ?_ | with_reducible refine N.obl (flat_wi _ _ _) ?_ | with_reducible refine N.obl (flat_lim _ _) ?_ | with_reducible refine N.eq ?_ | with_reducible refine N.obl rfl ?_ | with_reducible refine N.obl ⟨by kernel_rfl, by kernel_rfl⟩ ?_ | with_reducible refine N.forkT ?_ | with_reducible refine N.forkF ?_ | refine N.obl (re_eq (int_eq (by rw [i64s ((y.1 : Int) + 1) (by omega) (by omega)]; rfl)) rfl) ?_ | refine N.obl (sl_ren (by show (rowS m n (q.R.take (y.1 + 1))).length = _; rw [e2]) (by rfl)) ?_ | refine N.obl (rl_ren rfl) ?_ | refine N.obl (rl_ren e2) ?_ | exact N.true | refine N.obl (.plain (by rfl)) ?_ | refine N.obl (.one (.ptr rfl)) ?_ | refine N.obl (.one (.slice rfl)) ?_ | refine N.obl (ChunkReLe.same (agg_plain (by rfl) (by rfl))) ?_ | refine N.obl (seg_same hl) ?_ | refine N.obl tbl_ren ?_ | fail_if_success skip)
            · have hS : rowS m n (q.R.take y.1) = rowS m n q.R := by rw [List.take_of_length_le (by omega)]
              have hln : (T1.E.length : Int) = ((rowS m n (q.R.take y.1)).length : Nat) := by rw [hS, rm1.len]
              refine N.go ?_
              refine N.forkNo (by simpa using hj) ?_
              repeat' (refine N.go ?_; first | with_reducible refine N.obl (by decide) ?_ | with_reducible refine N.obl (flat_wi _ _ _) ?_ | with_reducible refine N.obl (flat_lim _ _) ?_ | with_reducible refine N.eq ?_ | with_reducible refine N.obl rfl ?_ | with_reducible refine N.obl ⟨by kernel_rfl, by kernel_rfl⟩ ?_ | with_reducible refine N.forkT ?_ | with_reducible refine N.forkF ?_ | refine N.call (cLenT T1 1 _ (by rfl)) ?_ | refine N.forkNo (by rw [hln]; simp) ?_ | refine N.forkYes (by rw [decide_eq_true_eq]; omega) ?_ | refine N.forkNo (by rw [decide_eq_false_iff_not]; omega) ?_ | refine N.forkYes (by decide) ?_ | refine N.forkNo (by decide) ?_ | fail_if_success skip)
              refine N.go ?_
              have hlS := rowS_len (n := n) (R := q.R) hm1
              have hlT := rowS_len (n := n) (R := q.R.take y.1) hm1
              refine N.loopR (α := Nat) (fun z => z ≤ (rowS m n (q.R.take y.1)).length) (fun z => (rowS m n (q.R.take y.1)).length - z) (fun z => [(70, .int .i64 (z : Int))]) (fun _ => []) 0 [(0, 0), (1, 1), (2, 2), (3, 3)] (Nat.zero_le _) ?_ ?_
              · repeat' (refine N.go ?_; first | with_reducible refine N.obl (by decide) ?_ | with_reducible refine N.obl (flat_wi _ _ _) ?_ | with_reducible refine N.obl (flat_lim _ _) ?_ | with_reducible refine N.eq ?_ | with_reducible refine N.obl rfl ?_ | with_reducible refine N.obl ⟨by kernel_rfl, by kernel_rfl⟩ ?_ | with_reducible refine N.forkT ?_ | with_reducible refine N.forkF ?_ | refine N.obl (rl_ren rfl) ?_ | exact N.true | refine N.obl (.plain (by rfl)) ?_ | refine N.obl (.one (.ptr rfl)) ?_ | refine N.obl (.one (.slice rfl)) ?_ | refine N.obl (ChunkReLe.same (agg_plain (by rfl) (by rfl))) ?_ | refine N.obl (seg_same hl) ?_ | refine N.obl tbl_ren ?_ | fail_if_success skip)
              · intro z hz
                have hz : z ≤ (rowS m n (q.R.take y.1)).length := hz
                by_cases hzl : z < (rowS m n (q.R.take y.1)).length
                · refine N.go ?_
                  refine N.forkYes (by simpa using hzl) ?_
                  refine N.go ?_
                  refine N.idx z 1 rfl hzl ?_
                  refine N.go ?_
                  refine N.load _ (rd1 z rfl (by omega) (by omega)) ?_
                  obtain ⟨e1, hg⟩ : ∃ e, dGet T1.E ((rowS m n (q.R.take y.1)).getD z 0) = some e := by
                    cases hg : dGet T1.E ((rowS m n (q.R.take y.1)).getD z 0) with
                    | none => exact absurd hg ((rm1.mem _).1 (by rw [← hS]; simp [List.getD_eq_getElem?_getD, hzl]))
                    | some e => exact ⟨e, rfl⟩
                  repeat' (refine N.go ?_; first | with_reducible refine N.obl (by decide) ?_ | with_reducible refine N.obl (flat_wi _ _ _) ?_ | with_reducible refine N.obl (flat_lim _ _) ?_ | with_reducible refine N.eq ?_ | with_reducible refine N.obl rfl ?_ | with_reducible refine N.obl ⟨by kernel_rfl, by kernel_rfl⟩ ?_ | with_reducible refine N.forkT ?_ | with_reducible refine N.forkF ?_ | refine N.call (cGetY T1 _ e1 hg 1 _ (by rfl)) ?_ | refine N.forkYes (by rw [decide_eq_true_eq]; omega) ?_ | refine N.forkNo (by rw [decide_eq_false_iff_not]; omega) ?_ | refine N.forkYes (by decide) ?_ | refine N.forkNo (by decide) ?_ | fail_if_success skip)
                  refine N.go ?_
                  refine N.nextR (α := Nat) (z + 1) [(0, 0), (1, 1), (2, 2), (3, 3)] ⟨by show z + 1 ≤ (rowS m n (q.R.take y.1)).length; omega, by show (rowS m n (q.R.take y.1)).length - (z + 1) < (rowS m n (q.R.take y.1)).length - z; omega⟩ ?_
                  repeat' (refine N.go ?_; first | with_reducible refine N.obl (by decide) ?_ | with_reducible refine N.obl (flat_wi _ _ _) ?_ | with_reducible refine N.obl (flat_lim _ _) ?_ | with_reducible refine N.eq ?_ | with_reducible refine N.obl rfl ?_ | with_reducible refine N.obl ⟨by kernel_rfl, by kernel_rfl⟩ ?_ | with_reducible refine N.forkT ?_ | with_reducible refine N.forkF ?_ | refine N.obl (re_eq (int_eq (by rw [i64s ((z : Int) + 1) (by omega) (by omega)]; rfl)) rfl) ?_ | refine N.obl (rl_ren rfl) ?_ | exact N.true | refine N.obl (.plain (by rfl)) ?_ | refine N.obl (.one (.ptr rfl)) ?_ | refine N.obl (.one (.slice rfl)) ?_ | refine N.obl (ChunkReLe.same (agg_plain (by rfl) (by rfl))) ?_ | refine N.obl (seg_same hl) ?_ | refine N.obl tbl_ren ?_ | fail_if_success skip)
                · refine N.go ?_
                  refine N.forkNo (by simpa using hzl) ?_
                  repeat' (refine N.go ?_; first | with_reducible refine N.obl (by decide) ?_ | with_reducible refine N.obl (flat_wi _ _ _) ?_ | with_reducible refine N.obl (flat_lim _ _) ?_ | with_reducible refine N.eq ?_ | with_reducible refine N.obl rfl ?_ | with_reducible refine N.obl ⟨by kernel_rfl, by kernel_rfl⟩ ?_ | with_reducible refine N.forkT ?_ | with_reducible refine N.forkF ?_ | refine N.forkYes (by rw [decide_eq_true_eq]; omega) ?_ | refine N.forkNo (by rw [decide_eq_false_iff_not]; omega) ?_ | refine N.forkYes (by decide) ?_ | refine N.forkNo (by decide) ?_ | fail_if_success skip)
                  refine N.go ?_
                  have hok : RS.ok m len ⟨q.x + 1, T1, rowS m n q.R, y.2⟩ := ⟨by show 1 ≤ q.x + 1; omega, by show q.x + 1 ≤ len; omega, by show q.x + 1 ≤ 150; omega, hmo1, rm1, hlS.1, by show (rowS m n q.R).length ≤ y.2; rw [← hS]; exact j3⟩
                  refine N.nextR (α := Option RS) (some ⟨q.x + 1, T1, rowS m n q.R, y.2⟩) [(0, 0), (1, 1), (3, 2)] (And.intro hok (by show len - (q.x + 1) < len - q.x; omega)) ?_
                  repeat' (refine N.go ?_; first | with_reducible refine N.obl (by decide) ?_ | with_reducible refine N.obl (flat_wi _ _ _) ?_ | with_reducible refine N.obl (flat_lim _ _) ?_ | with_reducible refine N.eq ?_ | with_reducible refine N.obl rfl ?_ | with_reducible refine N.obl ⟨by kernel_rfl, by kernel_rfl⟩ ?_ | with_reducible refine N.forkT ?_ | with_reducible refine N.forkF ?_ | refine N.obl (re_eq (int_eq (by rw [i64s ((q.x : Int) + 1) (by omega) (by omega)]; rfl)) rfl) ?_ | refine N.obl (sl_ren (by show (rowS m n q.R).length = _; rw [hS]) (by rfl)) ?_ | refine N.obl (rl_ren hS.symm) ?_ | exact N.true | refine N.obl (.plain (by rfl)) ?_ | refine N.obl (.one (.ptr rfl)) ?_ | refine N.obl (.one (.slice rfl)) ?_ | refine N.obl (ChunkReLe.same (agg_plain (by rfl) (by rfl))) ?_ | refine N.obl (seg_same hl) ?_ | refine N.obl tbl_ren ?_ | fail_if_success skip)
        · refine N.forkYes (by rw [decide_eq_true_eq]; omega) ?_
          repeat' (refine N.go ?_; first | with_reducible refine N.obl (by decide) ?_ | with_reducible refine N.obl (flat_wi _ _ _) ?_ | with_reducible refine N.obl (flat_lim _ _) ?_ | with_reducible refine N.eq ?_ | with_reducible refine N.obl rfl ?_ | with_reducible refine N.obl ⟨by kernel_rfl, by kernel_rfl⟩ ?_ | with_reducible refine N.forkT ?_ | with_reducible refine N.forkF ?_ | with_reducible refine N.call (cAwake _) ?_ | refine N.forkYes (by rw [decide_eq_true_eq]; omega) ?_ | refine N.forkNo (by rw [decide_eq_false_iff_not]; omega) ?_ | refine N.forkYes (by decide) ?_ | refine N.forkNo (by decide) ?_ | fail_if_success skip)
          all_goals rfl
      · refine N.go ?_
        refine N.forkNo (by simpa using hlt) ?_
        repeat' (refine N.go ?_; first | with_reducible refine N.obl (by decide) ?_ | with_reducible refine N.obl (flat_wi _ _ _) ?_ | with_reducible refine N.obl (flat_lim _ _) ?_ | with_reducible refine N.eq ?_ | with_reducible refine N.obl rfl ?_ | with_reducible refine N.obl ⟨by kernel_rfl, by kernel_rfl⟩ ?_ | with_reducible refine N.forkT ?_ | with_reducible refine N.forkF ?_ | with_reducible refine N.call (cAwake _) ?_ | refine N.forkYes (by rw [decide_eq_true_eq]; omega) ?_ | refine N.forkNo (by rw [decide_eq_false_iff_not]; omega) ?_ | refine N.forkYes (by decide) ?_ | refine N.forkNo (by decide) ?_ | fail_if_success skip)
        all_goals rfl
set_option maxRecDepth 100000 in
set_option maxHeartbeats 2000000 in
theorem walk0 (a : Int) (w : World) :
    Calls Try.prog 3 #[.int .i64 a, .slice none 0 0] w fun e w' => e = .returned (.bool true) ∧ Below w.heap.size w w' := by
  obtain ⟨n1, n2⟩ := u64mod a 8 (by decide) (by decide)
  refine calls_pure (G := tys) w tysOK mixed Try.func3 (by rfl) (by rfl) (by rfl) ?_
  repeat' (refine N.go ?_; first | with_reducible refine N.obl (by decide) ?_ | with_reducible refine N.obl (flat_wi _ _ _) ?_ | with_reducible refine N.obl (flat_lim _ _) ?_ | with_reducible refine N.eq ?_ | with_reducible refine N.obl rfl ?_ | with_reducible refine N.obl ⟨by kernel_rfl, by kernel_rfl⟩ ?_ | with_reducible refine N.forkT ?_ | with_reducible refine N.forkF ?_ | with_reducible refine N.call (cAwake _) ?_ | refine N.forkYes (by rw [decide_eq_true_eq]; omega) ?_ | refine N.forkNo (by rw [decide_eq_false_iff_not]; omega) ?_ | refine N.forkYes (by decide) ?_ | refine N.forkNo (by decide) ?_ | refine N.roll 1 ?_ | fail_if_success skip)
  refine N.go ?_
  generalize IntKind.i64.wrap ((IntKind.u64.wrap a).tmod 8) = n0 at n1 n2 ⊢
  obtain ⟨m, hm1, hm8, hm⟩ : ∃ m : Nat, 1 ≤ m ∧ m ≤ 8 ∧ IntKind.i64.wrap (1 + n0) = m := ⟨(1 + n0).toNat, by omega, by omega, by rw [i64s (1 + n0) (by omega) (by omega)]; omega⟩
  generalize IntKind.i64.wrap (1 + n0) = mz at hm ⊢
  subst hm
  refine N.call (cNewT m 0 _ (by rfl)) ?_
  repeat' (refine N.go ?_; first | with_reducible refine N.obl (by decide) ?_ | with_reducible refine N.obl (flat_wi _ _ _) ?_ | with_reducible refine N.obl (flat_lim _ _) ?_ | with_reducible refine N.eq ?_ | with_reducible refine N.obl rfl ?_ | with_reducible refine N.obl ⟨by kernel_rfl, by kernel_rfl⟩ ?_ | with_reducible refine N.forkT ?_ | with_reducible refine N.forkF ?_ | with_reducible refine N.call (cAwake _) ?_ | refine N.forkYes (by rw [decide_eq_true_eq]; omega) ?_ | refine N.forkNo (by rw [decide_eq_false_iff_not]; omega) ?_ | refine N.forkYes (by decide) ?_ | refine N.forkNo (by decide) ?_ | refine N.roll 1 ?_ | fail_if_success skip)
  all_goals rfl
set_option maxRecDepth 100000 in
theorem lifted (os : Os) (started : os.Started) (H : Type) (enc : TypeId × Value → H) :
    ReturnsInHanded {} Try.checked os 3 .any (Rows.tableRoomSpec.pre6 enc Try.prog Try.f3 Rows.tableRoomRow.domain false) (Rows.tableRoomSpec.post enc Try.prog Try.f3 false true false false) := by
  refine law_lifted (C := Try.checked) (tb := 4) Try.own started (by kernel_rfl) Try.func3 Try.laidOut (by kernel_rfl) rfl Try.underlying4 rfl
    (fun ds hds => by match ds, hds with | [_, _], _ => rfl)
    (ChangeSpec.witness6 (enc := enc) (C := Try.checked) false ⟨#[], #[.int .i64 0, .slice none 0 0], []⟩ 8 (by kernel_rfl) (by kernel_rfl) (by kernel_rfl) (by kernel_rfl)) ?_
  intro W base args ds p hval0 hA0 hsz0
  have hval : ∀ (j : Nat) t v, Try.f3.params[j]? = some t → args[j]? = some v → Value.okWide Try.prog W .any base t v := hval0
  have hA : DataW.TrodAll enc Try.prog W 0 (fun _ => true) true Try.f3.params.toList args.toList ds p := hA0
  have hsz : (DataW.weightsEach Try.prog Try.f3.params.toList ds).all (· ≤ reachBytes) = true := hsz0
  rw [Try.params3] at hA hval hsz
  obtain ⟨v0, vs0, d0, ds0, p0, q0, hargs, rfl, rfl, h0, r0⟩ := trodAll_cons hA
  obtain ⟨v1, vs1, d1, ds1, p1, q1, rfl, rfl, rfl, h1, r1⟩ := trodAll_cons r0
  obtain ⟨rfl, rfl, rfl⟩ := trodAll_nil r1
  obtain rfl : args = #[v0, v1] := by cases args; simp_all
  obtain ⟨a0, rfl, rfl, rfl, w0⟩ := open_int Try.underlying3 (hval 0 _ v0 rfl rfl) h0
  rcases open_l (hval 1 _ v1 rfl rfl) h1 with rfl | ⟨a, n, cap, f, cl, rfl, hn, hs, hf⟩
  · exact walk0 a0 W
  exact walk a0 a n cap f cl W hn hs hf

theorem proved : Rows.TableRoomSaid :=
  OpenClaim.holds_of_wide 3 Try.f3 rfl rfl rfl rfl rfl rfl rfl ⟨rfl, rfl, rfl, rfl, rfl⟩ rfl rfl rfl rfl rfl (by kernel_rfl) Try.func3 (by kernel_rfl)
    (of_decide_eq_true (by kernel_rfl)) (by unfold Func.isWrapper; rw [if_neg (by decide +kernel)]; exact ⟨rfl, rfl⟩)
    (fun os started H enc _ => lifted os started H enc)
#print axioms proved
end Go.Proofs.Ytpafcfelaaibgaa.tableRoom
