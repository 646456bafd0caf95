/-
  The statement TableOnce: for every input the law returns true.
-/
import Derived.Test.YtpafcfelaaibgaaTblOnce
import Derived.Test.YtpafcfelaaibgaaRows
set_option linter.unusedVariables false
set_option linter.unusedSimpArgs false
namespace Go.Proofs.Ytpafcfelaaibgaa.tableOnce
open Go Go.ChangeShapes Go.WideShapes Go.ChangeAt Go.RowKit Sx

theorem wf64 {n : Int} (h : (Lit.int .i64 n).wf = true) : -9223372036854775808 ≤ n ∧ n < 9223372036854775808 := by
  have e1 : IntKind.i64.min = -9223372036854775808 := by decide
  have e2 : IntKind.i64.max = 9223372036854775807 := by decide
  have h : (decide (IntKind.i64.min ≤ n) && decide (n ≤ IntKind.i64.max)) = true := h
  rw [e1, e2, Bool.and_eq_true, decide_eq_true_eq, decide_eq_true_eq] at h
  omega
set_option maxRecDepth 100000 in
theorem open_l {H : Type} {enc : TypeId × Value → H} {W : World} {r : Reach} {base : Nat} {v : Value} {d : DataW H} {p : List MemPlace}
    (hv : Value.okWide Try.prog W r base 48 v) (h : DataW.Trod enc Try.prog W 0 (fun _ => true) true 48 v d p) :
    v = .slice none 0 0 ∨ ∃ (a : Addr) (n cap : Nat) (f : Nat → Value) (cl : Nat → Nat → Int), v = .slice (some a) n cap ∧ n ≤ 9223372036854775807 ∧ SeenIn W ⟨a, n * 11, f⟩ ∧ (∀ i, i < n → ∀ j, j < 11 → f (i * 11 + j) = .int .i64 (cl i j)) ∧ ∀ i j, i < n → j < 11 → -9223372036854775808 ≤ cl i j ∧ cl i j < 9223372036854775808 := by
  have hsh := slice_shape Try.underlying48 hv
  obtain ⟨A, n, cap, f, rfl, hl, hm, hd, hseg, hrow⟩ := open_rows (C := 11) Try.underlying48 (by kernel_rfl) h hsh
  cases A with
  | none =>
    obtain ⟨rfl, rfl⟩ := okWide_nil Try.underlying48 hv
    exact .inl rfl
  | some a =>
    have hf : ∀ i, i < n → ∀ j, j < 11 → f (i * 11 + j) = .int .i64 (intOf (f (i * 11 + j))) := by
      intro i hi j hj
      obtain ⟨x, fuel, cs, ht, hcl, hc⟩ := hrow i hi
      match j, hj with
      | 0, _ => exact (leaf_int (d := 5) (l := 3) (j := 0) (by kernel_rfl) (@Try.underlying3) (hc 0 (by omega)) ht).1
      | 1, _ => exact (leaf_int (d := 5) (l := 3) (j := 1) (by kernel_rfl) (@Try.underlying3) (hc 1 (by omega)) ht).1
      | 2, _ => exact (leaf_int (d := 5) (l := 3) (j := 2) (by kernel_rfl) (@Try.underlying3) (hc 2 (by omega)) ht).1
      | 3, _ => exact (leaf_int (d := 5) (l := 3) (j := 3) (by kernel_rfl) (@Try.underlying3) (hc 3 (by omega)) ht).1
      | 4, _ => exact (leaf_int (d := 5) (l := 2) (j := 4) (by kernel_rfl) (@Try.underlying2) (hc 4 (by omega)) ht).1
      | 5, _ => exact (leaf_int (d := 5) (l := 2) (j := 5) (by kernel_rfl) (@Try.underlying2) (hc 5 (by omega)) ht).1
      | 6, _ => exact (leaf_int (d := 5) (l := 2) (j := 6) (by kernel_rfl) (@Try.underlying2) (hc 6 (by omega)) ht).1
      | 7, _ => exact (leaf_int (d := 5) (l := 2) (j := 7) (by kernel_rfl) (@Try.underlying2) (hc 7 (by omega)) ht).1
      | 8, _ => exact (leaf_int (d := 5) (l := 2) (j := 8) (by kernel_rfl) (@Try.underlying2) (hc 8 (by omega)) ht).1
      | 9, _ => exact (leaf_int (d := 5) (l := 2) (j := 9) (by kernel_rfl) (@Try.underlying2) (hc 9 (by omega)) ht).1
      | 10, _ => exact (leaf_int (d := 5) (l := 2) (j := 10) (by kernel_rfl) (@Try.underlying2) (hc 10 (by omega)) ht).1
    have hb : ∀ i j, i < n → j < 11 → -9223372036854775808 ≤ intOf (f (i * 11 + j)) ∧ intOf (f (i * 11 + j)) < 9223372036854775808 := by
      intro i j hi hj
      obtain ⟨x, fuel, cs, ht, hcl, hc⟩ := hrow i hi
      match j, hj with
      | 0, _ => exact wf64 (leaf_int (d := 5) (l := 3) (j := 0) (by kernel_rfl) (@Try.underlying3) (hc 0 (by omega)) ht).2
      | 1, _ => exact wf64 (leaf_int (d := 5) (l := 3) (j := 1) (by kernel_rfl) (@Try.underlying3) (hc 1 (by omega)) ht).2
      | 2, _ => exact wf64 (leaf_int (d := 5) (l := 3) (j := 2) (by kernel_rfl) (@Try.underlying3) (hc 2 (by omega)) ht).2
      | 3, _ => exact wf64 (leaf_int (d := 5) (l := 3) (j := 3) (by kernel_rfl) (@Try.underlying3) (hc 3 (by omega)) ht).2
      | 4, _ => exact wf64 (leaf_int (d := 5) (l := 2) (j := 4) (by kernel_rfl) (@Try.underlying2) (hc 4 (by omega)) ht).2
      | 5, _ => exact wf64 (leaf_int (d := 5) (l := 2) (j := 5) (by kernel_rfl) (@Try.underlying2) (hc 5 (by omega)) ht).2
      | 6, _ => exact wf64 (leaf_int (d := 5) (l := 2) (j := 6) (by kernel_rfl) (@Try.underlying2) (hc 6 (by omega)) ht).2
      | 7, _ => exact wf64 (leaf_int (d := 5) (l := 2) (j := 7) (by kernel_rfl) (@Try.underlying2) (hc 7 (by omega)) ht).2
      | 8, _ => exact wf64 (leaf_int (d := 5) (l := 2) (j := 8) (by kernel_rfl) (@Try.underlying2) (hc 8 (by omega)) ht).2
      | 9, _ => exact wf64 (leaf_int (d := 5) (l := 2) (j := 9) (by kernel_rfl) (@Try.underlying2) (hc 9 (by omega)) ht).2
      | 10, _ => exact wf64 (leaf_int (d := 5) (l := 2) (j := 10) (by kernel_rfl) (@Try.underlying2) (hc 10 (by omega)) ht).2
    have hlit := rows_lit (f := f) (n := n) (k := 11) (by decide) fun i hi j hj => by rw [hf i hi j hj]; rfl
    exact .inr ⟨a, n, cap, f, fun i j => intOf (f (i * 11 + j)), rfl, by simp only [maxLen] at hm; omega, SeenIn.some Try.underlying48 hv hseg hlit, hf, hb⟩
def bicell (x : Bool) : Nat → Value
  | _ => .bool x
theorem bicell_plain (x : Bool) (k : Nat) : plain1 (bicell x k) = true := by unfold bicell; split <;> rfl
theorem bicell_in (x : Bool) {k : Nat} (h : k < 1) : cellIn (.agg #[.bool x]) k = bicell x k := by
  match k, h with
  | 0, _ => rfl
theorem bicell_zero (j : Nat) : repZ 1 (.agg #[.bool false]) j = bicell (false) (j % 1) := by
  unfold repZ
  have h : j % 1 < 1 := Nat.mod_lt _ (by decide)
  generalize j % 1 = k at h
  match k, h with
  | 0, _ => rfl

/-- Elements, with room. -/
abbrev biC (o : Bool) (c : Nat) (T : Nat → Bool) : Chunk := ⟨o, c * 1, [(0, c * 1, .agg ⟨segL (c * 1) (fun j => bicell (T (j / 1)) (j % 1))⟩)]⟩
theorem biC_f {o : Bool} {c j : Nat} {T : Nat → Bool} (h : j < c * 1) : (biC o c T).f j = bicell (T (j / 1)) (j % 1) := seg_cell h
theorem biC_re {ix : List (Nat × Nat)} {o o' : Bool} {c : Nat} {T T' : Nat → Bool} (h : ∀ i, i < c → T i = T' i) : ChunkRe ix (biC o c T) (biC o' c T') := fun j hj => by
  have hj : j < c * 1 := hj
  rw [seg_cell hj, seg_cell hj, h (j / 1) (by omega)]; exact .plain (bicell_plain _ _)
theorem biC_post {ix : List (Nat × Nat)} {c : Nat} {T T' : Nat → Bool} {hp : List (Option Chunk)} {n : Nat} (h : ∀ i, i < c → T i = T' i) (hh : hp[n]? = some (some (biC true c T'))) : PostC ix hp n (biC true c T) := ⟨_, hh, id, Nat.le_refl _, biC_re h⟩
theorem biC_ren {ix : List (Nat × Nat)} {c : Nat} {T T' : Nat → Bool} (h : ∀ i, i < c → T i = T' i) : ChunkReLe ix (biC true c T) (biC true c T') := ⟨id, Nat.le_refl _, biC_re h⟩
theorem rd_bi {o : Bool} {c p n : Nat} {T : Nat → Bool} (i : Nat) (hn : n = 1) (h : i < c) (e : p = i * 1) : Reads (biC o c T) p true n (.agg #[.bool (T i)]) := by
  subst e hn
  refine ⟨by show i * 1 + 1 ≤ c * 1; omega, _, rfl, rfl, fun j hj => ?_⟩
  rw [seg_cell (by omega), show (i * 1 + j) / 1 = i from by omega, show (i * 1 + j) % 1 = j from by omega]
  exact (bicell_in _ hj).symm
def setbi (T : Nat → Bool) (l : Nat) (x : Bool) (i : Nat) : Bool := if i = l then x else T i
theorem wr_bi {c l p : Nat} {T : Nat → Bool} {x : Bool} (h : l < c) (e : p = l * 1) : Writes (biC true c T) p (1 * 1) (.agg #[.bool x]) (biC true c (setbi T l x)) := by
  subst e
  refine ⟨rfl, by show l * 1 + 1 * 1 ≤ c * 1; omega, rfl, fun j hj => ?_⟩
  have hj : j < c * 1 := hj
  rw [seg_cell hj, seg_cell hj]
  unfold setbi
  by_cases e : l * 1 ≤ j ∧ j < l * 1 + 1 * 1
  · rw [if_pos e, if_pos (by omega), bicell_in _ (by omega)]
    congr 1; omega
  · rw [if_neg e, if_neg (by omega)]
def growbi (T : Nat → Bool) (l : Nat) (x : Bool) (i : Nat) : Bool := if i < l then T i else if i = l then x else false
theorem grown_bi {ci : Chunk} {l cap : Nat} {T : Nat → Bool} {x : Bool} (h : l < cap) (hc : ∀ j, j < l * 1 → ci.f j = bicell (T (j / 1)) (j % 1)) {j : Nat} (hj : j < cap * 1) : (grown ci l 1 1 (.agg #[.bool x]) (.agg #[.bool false]) cap).f j = bicell (growbi T l x (j / 1)) (j % 1) := by
  unfold growbi
  by_cases h1 : j < l * 1
  · rw [grown_old h1, if_pos (by omega)]; exact hc j h1
  · rw [if_neg (by omega)]
    by_cases h2 : j < (l + 1) * 1
    · have := grown_new (ci := ci) (l := l) (m := 1) (size := 1) (cap := cap) (v := .agg #[.bool x]) (z := .agg #[.bool false]) (j := j - l * 1) (by omega)
      rw [show l * 1 + (j - l * 1) = j from by omega] at this
      rw [this, if_pos (by omega), bicell_in _ (by omega)]
      congr 1; omega
    · rw [grown_zero (by omega) hj, if_neg (by omega)]; exact bicell_zero j
theorem grownbi_post {ix : List (Nat × Nat)} {ci : Chunk} {l cap : Nat} {T : Nat → Bool} {x : Bool} {hp : List (Option Chunk)} {n : Nat} (h : l < cap) (hc : ∀ j, j < l * 1 → ci.f j = bicell (T (j / 1)) (j % 1)) (hh : hp[n]? = some (some (grown ci l 1 1 (.agg #[.bool x]) (.agg #[.bool false]) cap))) : PostC ix hp n (biC true cap (growbi T l x)) :=
  ⟨_, hh, fun _ => rfl, by show cap * 1 ≤ cap * 1; omega, fun j hj => by
    have hj : j < cap * 1 := hj
    rw [seg_cell hj, grown_bi h hc hj]; exact .plain (bicell_plain _ _)⟩
theorem grownbi_ren {ix : List (Nat × Nat)} {ci : Chunk} {l cap : Nat} {T T' : Nat → Bool} {x : Bool} (h : l < cap) (hc : ∀ j, j < l * 1 → ci.f j = bicell (T (j / 1)) (j % 1)) (he : ∀ i, i < cap → T' i = growbi T l x i) : ChunkReLe ix (biC true cap T') (grown ci l 1 1 (.agg #[.bool x]) (.agg #[.bool false]) cap) :=
  ⟨fun _ => rfl, by show cap * 1 ≤ cap * 1; omega, fun j hj => by
    have hj : j < cap * 1 := hj
    rw [seg_cell hj, grown_bi h hc hj, he _ (by omega)]; exact .plain (bicell_plain _ _)⟩
theorem and3 (x : Int) : ∃ n : Fin 4, IntKind.i64.wrap ((BitVec.ofInt IntKind.i64.bits x &&& BitVec.ofInt IntKind.i64.bits 3).toNat : Nat) = (n.val : Nat) := by
  have h1 : (BitVec.ofInt IntKind.i64.bits 3).toNat = 2 ^ 2 - 1 := by decide
  have h2 : (BitVec.ofInt IntKind.i64.bits x &&& BitVec.ofInt IntKind.i64.bits 3).toNat = (BitVec.ofInt IntKind.i64.bits x).toNat % 4 := by
    rw [BitVec.toNat_and, h1, Nat.and_two_pow_sub_one_eq_mod]
  rw [h2]
  have := Nat.mod_lt (BitVec.ofInt IntKind.i64.bits x).toNat (show 4 > 0 by decide)
  exact ⟨⟨_, this⟩, i64s _ (by omega) (by omega)⟩
theorem and15 (x : Int) : ∃ n : Fin 16, IntKind.i64.wrap ((BitVec.ofInt IntKind.i64.bits x &&& BitVec.ofInt IntKind.i64.bits 15).toNat : Nat) = (n.val : Nat) := by
  have h1 : (BitVec.ofInt IntKind.i64.bits 15).toNat = 2 ^ 4 - 1 := by decide
  have h2 : (BitVec.ofInt IntKind.i64.bits x &&& BitVec.ofInt IntKind.i64.bits 15).toNat = (BitVec.ofInt IntKind.i64.bits x).toNat % 16 := by
    rw [BitVec.toNat_and, h1, Nat.and_two_pow_sub_one_eq_mod]
  rw [h2]
  have := Nat.mod_lt (BitVec.ofInt IntKind.i64.bits x).toNat (show 16 > 0 by decide)
  exact ⟨⟨_, this⟩, i64s _ (by omega) (by omega)⟩
theorem and14 (x : Int) : ∃ n : Fin 16384, IntKind.i64.wrap ((BitVec.ofInt IntKind.i64.bits x &&& BitVec.ofInt IntKind.i64.bits 16383).toNat : Nat) = (n.val : Nat) := by
  have h1 : (BitVec.ofInt IntKind.i64.bits 16383).toNat = 2 ^ 14 - 1 := by decide
  have h2 : (BitVec.ofInt IntKind.i64.bits x &&& BitVec.ofInt IntKind.i64.bits 16383).toNat = (BitVec.ofInt IntKind.i64.bits x).toNat % 16384 := by
    rw [BitVec.toNat_and, h1, Nat.and_two_pow_sub_one_eq_mod]
  rw [h2]
  have := Nat.mod_lt (BitVec.ofInt IntKind.i64.bits x).toNat (show 16384 > 0 by decide)
  exact ⟨⟨_, this⟩, i64s _ (by omega) (by omega)⟩
theorem row11 {n i p m : Nat} {f : Nat → Value} {cl : Nat → Nat → Int} (hf : ∀ i, i < n → ∀ j, j < 11 → f (i * 11 + j) = .int .i64 (cl i j)) (hi : i < n) (hp : p = i * 11) (hm : m = 11) :
    Reads ⟨false, n * 11, [(0, n * 11, .agg ⟨segL (n * 11) f⟩)]⟩ p true m (.agg ⟨[.int .i64 (cl i 0), .int .i64 (cl i 1), .int .i64 (cl i 2), .int .i64 (cl i 3), .int .i64 (cl i 4), .int .i64 (cl i 5), .int .i64 (cl i 6), .int .i64 (cl i 7), .int .i64 (cl i 8), .int .i64 (cl i 9), .int .i64 (cl i 10)]⟩) := by
  subst hp hm
  refine reads_seg _ (by omega) rfl fun j hj => ?_
  rw [hf i hi j hj]
  match j, hj with
  | 0, _ => rfl
  | 1, _ => rfl
  | 2, _ => rfl
  | 3, _ => rfl
  | 4, _ => rfl
  | 5, _ => rfl
  | 6, _ => rfl
  | 7, _ => rfl
  | 8, _ => rfl
  | 9, _ => rfl
  | 10, _ => rfl
theorem seg_same {ix : List (Nat × Nat)} {n : Nat} {f : Nat → Value} (hl : ∀ j, j < n → lit1 (f j) = true) : ChunkReLe ix (segC n f) (segC n f) := ⟨id, Nat.le_refl _, fun j hj => by
  have hj : j < n := hj
  rw [seg_at hj]; exact .plain (lit1_plain (hl j hj))⟩
theorem st_ren {ix : List (Nat × Nat)} {κ α : Type} {kenc : κ → Value} {enc : α → Value} {D : List (κ × α)} : ChunkReLe ix (stC kenc enc D) (stC kenc enc D) := ⟨id, Nat.le_refl _, fun j hj => absurd hj (Nat.not_lt_zero j)⟩
abbrev encI (x : Int) : Value := .int .i64 x
def fz {β : Type} (f : Fin 4 → β) (d : β) (i : Nat) : β := if h : i < 4 then f ⟨i, h⟩ else d
theorem fz_at {β : Type} (f : Fin 4 → β) (d : β) (n : Fin 4) : fz f d n.val = f n := by unfold fz; rw [dif_pos n.isLt]
abbrev lfC (f : Fin 4 → Int) : Chunk := riC true 4 (fz f 0)
abbrev ltC (f : Fin 4 → Bool) : Chunk := biC true 4 (fz f false)
theorem rd_lf {f : Fin 4 → Int} {p m : Nat} (n : Fin 4) (hm : m = 1) (e : p = n.val * 1) : Reads (lfC f) p false m (.int .i64 (f n)) := by
  have := rd1 (o := true) (c := 4) (T := fz f 0) n.val hm n.isLt e
  rwa [fz_at] at this
theorem rd_lt {f : Fin 4 → Bool} {p m : Nat} (n : Fin 4) (hm : m = 1) (e : p = n.val * 1) : Reads (ltC f) p false m (.bool (f n)) := by
  subst e hm
  have hn := n.isLt
  refine ⟨by show n.val * 1 < 4 * 1; omega, rfl, ?_⟩
  rw [biC_f (by omega), show n.val * 1 / 1 = n.val from by omega, fz_at]; rfl
theorem wr_lf {f : Fin 4 → Int} {p m : Nat} {x : Int} (n : Fin 4) (hm : m = 1) (e : p = n.val * 1) : Writes (lfC f) p m (.int .i64 x) (lfC (upd f n x)) := by
  subst e hm
  have hn := n.isLt
  refine ⟨rfl, by show n.val * 1 + 1 ≤ 4 * 1; omega, rfl, fun j hj => ?_⟩
  have hj : j < 4 * 1 := hj
  rw [riC_f hj, riC_f hj]
  by_cases e : j = n.val
  · subst e
    rw [if_pos (by omega), show n.val / 1 = n.val from by omega, fz_at, upd_at, show n.val - n.val * 1 = 0 from by omega]; rfl
  · rw [if_neg (by omega), show j / 1 = j from by omega]
    have : fz (upd f n x) 0 j = fz f 0 j := by
      unfold fz
      rw [dif_pos (by omega), dif_pos (by omega), upd_ne (fun h => e (by rw [← h]))]
    rw [this]
theorem wr_lt {f : Fin 4 → Bool} {p m : Nat} {x : Bool} (n : Fin 4) (hm : m = 1) (e : p = n.val * 1) : Writes (ltC f) p m (.bool x) (ltC (upd f n x)) := by
  subst e hm
  have hn := n.isLt
  refine ⟨rfl, by show n.val * 1 + 1 ≤ 4 * 1; omega, rfl, fun j hj => ?_⟩
  have hj : j < 4 * 1 := hj
  rw [biC_f hj, biC_f hj]
  by_cases e : j = n.val
  · subst e
    rw [if_pos (by omega), show n.val / 1 = n.val from by omega, fz_at, upd_at, show n.val - n.val * 1 = 0 from by omega]; rfl
  · rw [if_neg (by omega), show j / 1 = j from by omega]
    have : fz (upd f n x) false j = fz f false j := by
      unfold fz
      rw [dif_pos (by omega), dif_pos (by omega), upd_ne (fun h => e (by rw [← h]))]
    rw [this]
theorem ar4 {ix : List (Nat × Nat)} : ChunkReLe ix (lfC fun _ => -1) ⟨true, 4, [(0, 4, .agg ⟨[.int .i64 (-1), .int .i64 (-1), .int .i64 (-1), .int .i64 (-1)]⟩)]⟩ := ⟨id, Nat.le_refl _, fun j hj => by
  match j, hj with
  | 0, _ => exact .plain rfl
  | 1, _ => exact .plain rfl
  | 2, _ => exact .plain rfl
  | 3, _ => exact .plain rfl⟩
theorem ab4 {ix : List (Nat × Nat)} : ChunkReLe ix (ltC fun _ => false) ⟨true, 4, [(0, 4, .agg ⟨[.bool false, .bool false, .bool false, .bool false]⟩)]⟩ := ⟨id, Nat.le_refl _, fun j hj => by
  match j, hj with
  | 0, _ => exact .plain rfl
  | 1, _ => exact .plain rfl
  | 2, _ => exact .plain rfl
  | 3, _ => exact .plain rfl⟩
theorem ar_ren {ix : List (Nat × Nat)} {f : Fin 4 → Int} : ChunkReLe ix (lfC f) (lfC f) := riC_ren fun _ _ => rfl
theorem ab_ren {ix : List (Nat × Nat)} {f : Fin 4 → Bool} : ChunkReLe ix (ltC f) (ltC f) := biC_ren fun _ _ => rfl
structure OS where
  x : Nat
  T : Tbl
  D : List (K3 × Int)
  lf : Fin 4 → Int
  lt : Fin 4 → Bool
def OS.ok (len : Nat) (q : OS) : Prop := q.x ≤ len ∧ q.x ≤ 150 ∧ Once q.T q.D q.lf q.lt
set_option maxRecDepth 100000 in
set_option maxHeartbeats 2000000 in
theorem walk (a : Int) (ad : Addr) (len lcap : Nat) (f : Nat → Value) (cl : Nat → Nat → Int) (w : World) (hlen : len ≤ 9223372036854775807) (hsn : SeenIn w ⟨ad, len * 11, f⟩) (hf : ∀ i, i < len → ∀ j, j < 11 → f (i * 11 + j) = .int .i64 (cl i j)) (hcl : ∀ i j, i < len → j < 11 → -9223372036854775808 ≤ cl i j ∧ cl i j < 9223372036854775808) :
    Calls Try.prog 6 #[.int .i64 a, .slice (some ad) len lcap] w fun e w' => e = .returned (.bool true) ∧ Below w.heap.size w w' := by
  have hl : ∀ j, j < len * 11 → lit1 (f j) = true := rows_lit (by decide) fun i hi j hj => by rw [hf i hi j hj]; rfl
  refine calls_args (G := tys) (vs := [.int .i64 a, .slice (some ⟨0, 0, some 0⟩) len lcap]) [⟨ad, len * 11, f⟩] w tysOK mixed Try.func6 (by rfl) (by simpa using hsn) ⟨.plain rfl, .slice rfl, trivial⟩ rfl ?_
  repeat' (refine N.go ?_; first | with_reducible refine N.obl (by decide) ?_ | with_reducible refine N.obl (flat_wi _ _ _) ?_ | with_reducible refine N.obl (flat_lim _ _) ?_ | with_reducible refine N.eq ?_ | with_reducible refine N.obl rfl ?_ | with_reducible refine N.obl ⟨by kernel_rfl, by kernel_rfl⟩ ?_ | with_reducible refine N.forkT ?_ | with_reducible refine N.forkF ?_ | refine N.forkYes (by rw [decide_eq_true_eq]; omega) ?_ | refine N.forkNo (by rw [decide_eq_false_iff_not]; omega) ?_ | refine N.forkYes (by decide) ?_ | refine N.forkNo (by decide) ?_ | fail_if_success skip)
  refine N.go ?_
  refine N.call (cNewT a 1 _ (by rfl)) ?_
  repeat' (refine N.go ?_; first | with_reducible refine N.obl (by decide) ?_ | with_reducible refine N.obl (flat_wi _ _ _) ?_ | with_reducible refine N.obl (flat_lim _ _) ?_ | with_reducible refine N.eq ?_ | with_reducible refine N.obl rfl ?_ | with_reducible refine N.obl ⟨by kernel_rfl, by kernel_rfl⟩ ?_ | with_reducible refine N.forkT ?_ | with_reducible refine N.forkF ?_ | refine N.forkYes (by rw [decide_eq_true_eq]; omega) ?_ | refine N.forkNo (by rw [decide_eq_false_iff_not]; omega) ?_ | refine N.forkYes (by decide) ?_ | refine N.forkNo (by decide) ?_ | fail_if_success skip)
  refine N.go ?_
  refine N_mkMapS k3 encI ?_
  repeat' (refine N.go ?_; first | with_reducible refine N.obl (by decide) ?_ | with_reducible refine N.obl (flat_wi _ _ _) ?_ | with_reducible refine N.obl (flat_lim _ _) ?_ | with_reducible refine N.eq ?_ | with_reducible refine N.obl rfl ?_ | with_reducible refine N.obl ⟨by kernel_rfl, by kernel_rfl⟩ ?_ | with_reducible refine N.forkT ?_ | with_reducible refine N.forkF ?_ | refine N.forkYes (by rw [decide_eq_true_eq]; omega) ?_ | refine N.forkNo (by rw [decide_eq_false_iff_not]; omega) ?_ | refine N.forkYes (by decide) ?_ | refine N.forkNo (by decide) ?_ | fail_if_success skip)
  refine N.go ?_
  refine N.loopR (α := OS) (OS.ok len) (fun q => len - q.x) (fun q => [(24, .int .i64 (q.x : Int))]) (fun q => [(1, tblC q.T), (2, stC k3 encI q.D), (3, lfC q.lf), (4, ltC q.lt)]) ⟨0, Tbl.new a, [], fun _ => -1, fun _ => false⟩ [(0, 0), (1, 1), (2, 2), (3, 3), (4, 4)] ⟨Nat.zero_le _, Nat.zero_le _, once_new a⟩ ?_ ?_
  · repeat' (refine N.go ?_; first | with_reducible refine N.obl (by decide) ?_ | with_reducible refine N.obl (flat_wi _ _ _) ?_ | with_reducible refine N.obl (flat_lim _ _) ?_ | with_reducible refine N.eq ?_ | with_reducible refine N.obl rfl ?_ | with_reducible refine N.obl ⟨by kernel_rfl, by kernel_rfl⟩ ?_ | with_reducible refine N.forkT ?_ | with_reducible refine N.forkF ?_ | exact N.true | refine N.obl (.plain (by rfl)) ?_ | refine N.obl (.one (.ptr rfl)) ?_ | refine N.obl (.one (.slice rfl)) ?_ | refine N.obl (.one (.map rfl)) ?_ | refine N.obl (seg_same hl) ?_ | refine N.obl tbl_ren ?_ | refine N.obl st_ren ?_ | refine N.obl ar4 ?_ | refine N.obl ab4 ?_ | fail_if_success skip)
  · intro q hq
    obtain ⟨q1, q2, oc⟩ := hq
    by_cases hlt : q.x < len
    · refine N.go ?_
      refine N.forkYes (by simpa using hlt) ?_
      refine N.go ?_
      refine N.idx q.x 1 rfl hlt ?_
      refine N.go ?_
      refine N.load _ (row11 hf hlt (by first | rfl | omega) rfl) ?_
      obtain ⟨n, hn⟩ := and3 (cl q.x 1)
      obtain ⟨b, hb⟩ := and15 (cl q.x 2)
      obtain ⟨k, hk⟩ := and14 (cl q.x 3)
      have hnl := n.isLt
      by_cases h150 : q.x < 150
      · repeat' (refine N.go ?_; first | with_reducible refine N.obl (by decide) ?_ | with_reducible refine N.obl (flat_wi _ _ _) ?_ | with_reducible refine N.obl (flat_lim _ _) ?_ | with_reducible refine N.eq ?_ | with_reducible refine N.obl rfl ?_ | with_reducible refine N.obl ⟨by kernel_rfl, by kernel_rfl⟩ ?_ | with_reducible refine N.forkT ?_ | with_reducible refine N.forkF ?_ | refine N.forkYes (by rw [decide_eq_true_eq]; omega) ?_ | refine N.forkNo (by rw [decide_eq_false_iff_not]; omega) ?_ | refine N.forkYes (by decide) ?_ | refine N.forkNo (by decide) ?_ | fail_if_success skip)
        refine N.go ?_
        rw [hn, hb, hk]
        by_cases hc1 : cl q.x 0 = 1
        · refine N.forkYes (by rw [hc1]; rfl) ?_
          cases hlv : q.T.lives (ni n) with
          | none =>
            obtain ⟨c1, c2⟩ := once_no oc n hlv
            have hu : upd q.lt n (decide (q.lf n ≥ 0)) = q.lt := by
              funext m
              unfold upd
              by_cases e : m = n
              · rw [if_pos e, e, c1, c2]; rfl
              · rw [if_neg e]
            repeat' (refine N.go ?_; first | with_reducible refine N.obl (by decide) ?_ | with_reducible refine N.obl (flat_wi _ _ _) ?_ | with_reducible refine N.obl (flat_lim _ _) ?_ | with_reducible refine N.eq ?_ | with_reducible refine N.obl rfl ?_ | with_reducible refine N.obl ⟨by kernel_rfl, by kernel_rfl⟩ ?_ | with_reducible refine N.forkT ?_ | with_reducible refine N.forkF ?_ | refine N.call (cLeaveN q.T (ni n) hlv 1 _ (by rfl)) ?_ | refine N.call (cLeaveY q.T (ni n) ⟨by unfold ni; omega, by unfold ni; omega⟩ l hlv 1 _ (by rfl)) ?_ | refine N.idx n.val 1 rfl hnl ?_ | refine N.load _ (rd_lf n rfl (by first | rfl | omega)) ?_ | refine N.load _ (rd_lt n rfl (by first | rfl | omega)) ?_ | refine N.forkNo (by rw [c1]; rfl) ?_ | refine N.forkNo (by simp [c1]) ?_ | fail_if_success skip)
            refine N.go ?_
            refine N.forkNo c2 ?_
            repeat' (refine N.go ?_; first | with_reducible refine N.obl (by decide) ?_ | with_reducible refine N.obl (flat_wi _ _ _) ?_ | with_reducible refine N.obl (flat_lim _ _) ?_ | with_reducible refine N.eq ?_ | with_reducible refine N.obl rfl ?_ | with_reducible refine N.obl ⟨by kernel_rfl, by kernel_rfl⟩ ?_ | with_reducible refine N.forkT ?_ | with_reducible refine N.forkF ?_ | refine N.idx n.val 1 rfl hnl ?_ | refine N.load _ (rd_lf n rfl (by first | rfl | omega)) ?_ | refine N.load _ (rd_lt n rfl (by first | rfl | omega)) ?_ | refine N.store _ (wr_lt n rfl (by first | rfl | omega)) ?_ | refine N.store _ (wr_lf n rfl (by first | rfl | omega)) ?_ | refine N.forkYes (by simpa using hne) ?_ | refine N.forkNo (by decide) ?_ | fail_if_success skip)
            refine N.go ?_
            have oc2 : OS.ok len ⟨q.x + 1, q.T, q.D, q.lf, upd q.lt n (decide (q.lf n ≥ 0))⟩ := ⟨hlt, by show q.x + 1 ≤ 150; omega, by rw [hu]; exact oc⟩
            refine N.nextR (α := OS) ⟨q.x + 1, q.T, q.D, q.lf, upd q.lt n (decide (q.lf n ≥ 0))⟩ [(0, 0), (1, 1), (2, 2), (3, 3), (4, 4)] (And.intro oc2 (by show len - (q.x + 1) < len - q.x; omega)) ?_
            repeat' (refine N.go ?_; first | with_reducible refine N.obl (by decide) ?_ | with_reducible refine N.obl (flat_wi _ _ _) ?_ | with_reducible refine N.obl (flat_lim _ _) ?_ | with_reducible refine N.eq ?_ | with_reducible refine N.obl rfl ?_ | with_reducible refine N.obl ⟨by kernel_rfl, by kernel_rfl⟩ ?_ | with_reducible refine N.forkT ?_ | with_reducible refine N.forkF ?_ | refine N.obl (re_eq (int_eq (by rw [i64s ((q.x : Int) + 1) (by omega) (by omega)]; rfl)) rfl) ?_ | refine N.obl ar_ren ?_ | refine N.obl ab_ren ?_ | exact N.true | refine N.obl (.plain (by rfl)) ?_ | refine N.obl (.one (.ptr rfl)) ?_ | refine N.obl (.one (.slice rfl)) ?_ | refine N.obl (.one (.map rfl)) ?_ | refine N.obl (seg_same hl) ?_ | refine N.obl tbl_ren ?_ | refine N.obl st_ren ?_ | refine N.obl ar4 ?_ | refine N.obl ab4 ?_ | fail_if_success skip)
          | some l =>
            obtain ⟨c1, oc'⟩ := once_leave oc n l hlv
            have hd0 : decide (q.lf n ≥ 0) = true := decide_eq_true c1
            repeat' (refine N.go ?_; first | with_reducible refine N.obl (by decide) ?_ | with_reducible refine N.obl (flat_wi _ _ _) ?_ | with_reducible refine N.obl (flat_lim _ _) ?_ | with_reducible refine N.eq ?_ | with_reducible refine N.obl rfl ?_ | with_reducible refine N.obl ⟨by kernel_rfl, by kernel_rfl⟩ ?_ | with_reducible refine N.forkT ?_ | with_reducible refine N.forkF ?_ | refine N.call (cLeaveN q.T (ni n) hlv 1 _ (by rfl)) ?_ | refine N.call (cLeaveY q.T (ni n) ⟨by unfold ni; omega, by unfold ni; omega⟩ l hlv 1 _ (by rfl)) ?_ | refine N.idx n.val 1 rfl hnl ?_ | refine N.load _ (rd_lf n rfl (by first | rfl | omega)) ?_ | refine N.load _ (rd_lt n rfl (by first | rfl | omega)) ?_ | refine N.forkNo (by rw [c1]; rfl) ?_ | refine N.forkNo (by simp [c1]) ?_ | fail_if_success skip)
            refine N.go ?_
            cases hlt2 : q.lt n with
            | true =>
              refine N.forkT ?_
              repeat' (refine N.go ?_; first | with_reducible refine N.obl (by decide) ?_ | with_reducible refine N.obl (flat_wi _ _ _) ?_ | with_reducible refine N.obl (flat_lim _ _) ?_ | with_reducible refine N.eq ?_ | with_reducible refine N.obl rfl ?_ | with_reducible refine N.obl ⟨by kernel_rfl, by kernel_rfl⟩ ?_ | with_reducible refine N.forkT ?_ | with_reducible refine N.forkF ?_ | refine N.idx n.val 1 rfl hnl ?_ | refine N.load _ (rd_lf n rfl (by first | rfl | omega)) ?_ | refine N.load _ (rd_lt n rfl (by first | rfl | omega)) ?_ | refine N.store _ (wr_lt n rfl (by first | rfl | omega)) ?_ | refine N.store _ (wr_lf n rfl (by first | rfl | omega)) ?_ | refine N.forkYes (by simpa using hne) ?_ | refine N.forkNo (by decide) ?_ | fail_if_success skip)
              refine N.go ?_
              have oc2 : OS.ok len ⟨q.x + 1, ⟨q.T.most, dDel q.T.E (ni n), setL q.T.lives (ni n) ⟨l.boot, true, l.W⟩⟩, q.D, q.lf, upd q.lt n true⟩ := ⟨hlt, by show q.x + 1 ≤ 150; omega, oc'⟩
              refine N.nextR (α := OS) ⟨q.x + 1, ⟨q.T.most, dDel q.T.E (ni n), setL q.T.lives (ni n) ⟨l.boot, true, l.W⟩⟩, q.D, q.lf, upd q.lt n true⟩ [(0, 0), (1, 1), (2, 2), (3, 3), (4, 4)] (And.intro oc2 (by show len - (q.x + 1) < len - q.x; omega)) ?_
              repeat' (refine N.go ?_; first | with_reducible refine N.obl (by decide) ?_ | with_reducible refine N.obl (flat_wi _ _ _) ?_ | with_reducible refine N.obl (flat_lim _ _) ?_ | with_reducible refine N.eq ?_ | with_reducible refine N.obl rfl ?_ | with_reducible refine N.obl ⟨by kernel_rfl, by kernel_rfl⟩ ?_ | with_reducible refine N.forkT ?_ | with_reducible refine N.forkF ?_ | refine N.obl (re_eq (int_eq (by rw [i64s ((q.x : Int) + 1) (by omega) (by omega)]; rfl)) rfl) ?_ | refine N.obl ar_ren ?_ | refine N.obl ab_ren ?_ | exact N.true | refine N.obl (.plain (by rfl)) ?_ | refine N.obl (.one (.ptr rfl)) ?_ | refine N.obl (.one (.slice rfl)) ?_ | refine N.obl (.one (.map rfl)) ?_ | refine N.obl (seg_same hl) ?_ | refine N.obl tbl_ren ?_ | refine N.obl st_ren ?_ | refine N.obl ar4 ?_ | refine N.obl ab4 ?_ | fail_if_success skip)
            | false =>
              refine N.forkF ?_
              repeat' (refine N.go ?_; first | with_reducible refine N.obl (by decide) ?_ | with_reducible refine N.obl (flat_wi _ _ _) ?_ | with_reducible refine N.obl (flat_lim _ _) ?_ | with_reducible refine N.eq ?_ | with_reducible refine N.obl rfl ?_ | with_reducible refine N.obl ⟨by kernel_rfl, by kernel_rfl⟩ ?_ | with_reducible refine N.forkT ?_ | with_reducible refine N.forkF ?_ | refine N.idx n.val 1 rfl hnl ?_ | refine N.load _ (rd_lf n rfl (by first | rfl | omega)) ?_ | refine N.load _ (rd_lt n rfl (by first | rfl | omega)) ?_ | refine N.store _ (wr_lt n rfl (by first | rfl | omega)) ?_ | refine N.store _ (wr_lf n rfl (by first | rfl | omega)) ?_ | refine N.forkYes (by simpa using hne) ?_ | refine N.forkNo (by decide) ?_ | fail_if_success skip)
              refine N.go ?_
              have oc2 : OS.ok len ⟨q.x + 1, ⟨q.T.most, dDel q.T.E (ni n), setL q.T.lives (ni n) ⟨l.boot, true, l.W⟩⟩, q.D, q.lf, upd q.lt n (decide (q.lf n ≥ 0))⟩ := ⟨hlt, by show q.x + 1 ≤ 150; omega, by rw [hd0]; exact oc'⟩
              refine N.nextR (α := OS) ⟨q.x + 1, ⟨q.T.most, dDel q.T.E (ni n), setL q.T.lives (ni n) ⟨l.boot, true, l.W⟩⟩, q.D, q.lf, upd q.lt n (decide (q.lf n ≥ 0))⟩ [(0, 0), (1, 1), (2, 2), (3, 3), (4, 4)] (And.intro oc2 (by show len - (q.x + 1) < len - q.x; omega)) ?_
              repeat' (refine N.go ?_; first | with_reducible refine N.obl (by decide) ?_ | with_reducible refine N.obl (flat_wi _ _ _) ?_ | with_reducible refine N.obl (flat_lim _ _) ?_ | with_reducible refine N.eq ?_ | with_reducible refine N.obl rfl ?_ | with_reducible refine N.obl ⟨by kernel_rfl, by kernel_rfl⟩ ?_ | with_reducible refine N.forkT ?_ | with_reducible refine N.forkF ?_ | refine N.obl (re_eq (int_eq (by rw [i64s ((q.x : Int) + 1) (by omega) (by omega)]; rfl)) rfl) ?_ | refine N.obl ar_ren ?_ | refine N.obl ab_ren ?_ | exact N.true | refine N.obl (.plain (by rfl)) ?_ | refine N.obl (.one (.ptr rfl)) ?_ | refine N.obl (.one (.slice rfl)) ?_ | refine N.obl (.one (.map rfl)) ?_ | refine N.obl (seg_same hl) ?_ | refine N.obl tbl_ren ?_ | refine N.obl st_ren ?_ | refine N.obl ar4 ?_ | refine N.obl ab4 ?_ | fail_if_success skip)
        · refine N.forkNo (by simpa using hc1) ?_
          refine N.go ?_
          by_cases hc2 : cl q.x 0 = 2
          · refine N.forkYes (by rw [hc2]; rfl) ?_
            repeat' (refine N.go ?_; first | with_reducible refine N.obl (by decide) ?_ | with_reducible refine N.obl (flat_wi _ _ _) ?_ | with_reducible refine N.obl (flat_lim _ _) ?_ | with_reducible refine N.eq ?_ | with_reducible refine N.obl rfl ?_ | with_reducible refine N.obl ⟨by kernel_rfl, by kernel_rfl⟩ ?_ | with_reducible refine N.forkT ?_ | with_reducible refine N.forkF ?_ | refine N.call (cLeaveN q.T (ni n) hlv 1 _ (by rfl)) ?_ | refine N.call (cLeaveY q.T (ni n) ⟨by unfold ni; omega, by unfold ni; omega⟩ l hlv 1 _ (by rfl)) ?_ | refine N.idx n.val 1 rfl hnl ?_ | refine N.load _ (rd_lf n rfl (by first | rfl | omega)) ?_ | refine N.load _ (rd_lt n rfl (by first | rfl | omega)) ?_ | refine N.forkNo (by rw [c1]; rfl) ?_ | refine N.forkNo (by simp [c1]) ?_ | fail_if_success skip)
            refine N.go ?_
            have oc2 : OS.ok len ⟨q.x + 1, q.T.ev (cl q.x 4) (cl q.x 5), q.D, q.lf, q.lt⟩ := ⟨hlt, by show q.x + 1 ≤ 150; omega, once_ev oc _ _⟩
            refine N.callAll (cEvict q.T (by have := oc.ok.len; have := oc.ok.most; omega) (cl q.x 4) (cl q.x 5) (hcl q.x 4 hlt (by decide)).2 (hcl q.x 5 hlt (by decide)) 1 6 _ (by rfl) (by rfl)) fun v ms hR => ?_
            rcases hR with ⟨_, rfl, rfl⟩ | ⟨cap, _, _, rfl, rfl⟩
            · repeat' (refine N.go ?_; first | with_reducible refine N.obl (by decide) ?_ | with_reducible refine N.obl (flat_wi _ _ _) ?_ | with_reducible refine N.obl (flat_lim _ _) ?_ | with_reducible refine N.eq ?_ | with_reducible refine N.obl rfl ?_ | with_reducible refine N.obl ⟨by kernel_rfl, by kernel_rfl⟩ ?_ | with_reducible refine N.forkT ?_ | with_reducible refine N.forkF ?_ | refine N.idx n.val 1 rfl hnl ?_ | refine N.load _ (rd_lf n rfl (by first | rfl | omega)) ?_ | refine N.load _ (rd_lt n rfl (by first | rfl | omega)) ?_ | refine N.store _ (wr_lt n rfl (by first | rfl | omega)) ?_ | refine N.store _ (wr_lf n rfl (by first | rfl | omega)) ?_ | refine N.forkYes (by simpa using hne) ?_ | refine N.forkNo (by decide) ?_ | fail_if_success skip)
              refine N.go ?_
              refine N.nextR (α := OS) ⟨q.x + 1, q.T.ev (cl q.x 4) (cl q.x 5), q.D, q.lf, q.lt⟩ [(0, 0), (1, 1), (2, 2), (3, 3), (4, 4)] (And.intro oc2 (by show len - (q.x + 1) < len - q.x; omega)) ?_
              repeat' (refine N.go ?_; first | with_reducible refine N.obl (by decide) ?_ | with_reducible refine N.obl (flat_wi _ _ _) ?_ | with_reducible refine N.obl (flat_lim _ _) ?_ | with_reducible refine N.eq ?_ | with_reducible refine N.obl rfl ?_ | with_reducible refine N.obl ⟨by kernel_rfl, by kernel_rfl⟩ ?_ | with_reducible refine N.forkT ?_ | with_reducible refine N.forkF ?_ | refine N.obl (re_eq (int_eq (by rw [i64s ((q.x : Int) + 1) (by omega) (by omega)]; rfl)) rfl) ?_ | refine N.obl ar_ren ?_ | refine N.obl ab_ren ?_ | exact N.true | refine N.obl (.plain (by rfl)) ?_ | refine N.obl (.one (.ptr rfl)) ?_ | refine N.obl (.one (.slice rfl)) ?_ | refine N.obl (.one (.map rfl)) ?_ | refine N.obl (seg_same hl) ?_ | refine N.obl tbl_ren ?_ | refine N.obl st_ren ?_ | refine N.obl ar4 ?_ | refine N.obl ab4 ?_ | fail_if_success skip)
            · repeat' (refine N.go ?_; first | with_reducible refine N.obl (by decide) ?_ | with_reducible refine N.obl (flat_wi _ _ _) ?_ | with_reducible refine N.obl (flat_lim _ _) ?_ | with_reducible refine N.eq ?_ | with_reducible refine N.obl rfl ?_ | with_reducible refine N.obl ⟨by kernel_rfl, by kernel_rfl⟩ ?_ | with_reducible refine N.forkT ?_ | with_reducible refine N.forkF ?_ | refine N.idx n.val 1 rfl hnl ?_ | refine N.load _ (rd_lf n rfl (by first | rfl | omega)) ?_ | refine N.load _ (rd_lt n rfl (by first | rfl | omega)) ?_ | refine N.store _ (wr_lt n rfl (by first | rfl | omega)) ?_ | refine N.store _ (wr_lf n rfl (by first | rfl | omega)) ?_ | refine N.forkYes (by simpa using hne) ?_ | refine N.forkNo (by decide) ?_ | fail_if_success skip)
              refine N.go ?_
              refine N.nextR (α := OS) ⟨q.x + 1, q.T.ev (cl q.x 4) (cl q.x 5), q.D, q.lf, q.lt⟩ [(0, 0), (1, 1), (2, 2), (3, 3), (4, 4)] (And.intro oc2 (by show len - (q.x + 1) < len - q.x; omega)) ?_
              repeat' (refine N.go ?_; first | with_reducible refine N.obl (by decide) ?_ | with_reducible refine N.obl (flat_wi _ _ _) ?_ | with_reducible refine N.obl (flat_lim _ _) ?_ | with_reducible refine N.eq ?_ | with_reducible refine N.obl rfl ?_ | with_reducible refine N.obl ⟨by kernel_rfl, by kernel_rfl⟩ ?_ | with_reducible refine N.forkT ?_ | with_reducible refine N.forkF ?_ | refine N.obl (re_eq (int_eq (by rw [i64s ((q.x : Int) + 1) (by omega) (by omega)]; rfl)) rfl) ?_ | refine N.obl ar_ren ?_ | refine N.obl ab_ren ?_ | exact N.true | refine N.obl (.plain (by rfl)) ?_ | refine N.obl (.one (.ptr rfl)) ?_ | refine N.obl (.one (.slice rfl)) ?_ | refine N.obl (.one (.map rfl)) ?_ | refine N.obl (seg_same hl) ?_ | refine N.obl tbl_ren ?_ | refine N.obl st_ren ?_ | refine N.obl ar4 ?_ | refine N.obl ab4 ?_ | fail_if_success skip)
          · refine N.forkNo (by simpa using hc2) ?_
            repeat' (refine N.go ?_; first | with_reducible refine N.obl (by decide) ?_ | with_reducible refine N.obl (flat_wi _ _ _) ?_ | with_reducible refine N.obl (flat_lim _ _) ?_ | with_reducible refine N.eq ?_ | with_reducible refine N.obl rfl ?_ | with_reducible refine N.obl ⟨by kernel_rfl, by kernel_rfl⟩ ?_ | with_reducible refine N.forkT ?_ | with_reducible refine N.forkF ?_ | refine N.call (cLeaveN q.T (ni n) hlv 1 _ (by rfl)) ?_ | refine N.call (cLeaveY q.T (ni n) ⟨by unfold ni; omega, by unfold ni; omega⟩ l hlv 1 _ (by rfl)) ?_ | refine N.idx n.val 1 rfl hnl ?_ | refine N.load _ (rd_lf n rfl (by first | rfl | omega)) ?_ | refine N.load _ (rd_lt n rfl (by first | rfl | omega)) ?_ | refine N.forkNo (by rw [c1]; rfl) ?_ | refine N.forkNo (by simp [c1]) ?_ | fail_if_success skip)
            refine N.go ?_
            rcases once_hear oc n b k q.x h150 with ⟨T', e, he, hne, oc'⟩ | ⟨T', e1, he, oc', hg, hle, hlf, hE, hE1, hE2⟩
            · have oc2 : OS.ok len ⟨q.x + 1, T', q.D, q.lf, q.lt⟩ := ⟨hlt, by show q.x + 1 ≤ 150; omega, oc'⟩
              refine N.call (cHear q.T oc.ok (ni n) (b.val : Nat) (k.val : Nat) q.x e T' he 1 _ (by rfl)) ?_
              repeat' (refine N.go ?_; first | with_reducible refine N.obl (by decide) ?_ | with_reducible refine N.obl (flat_wi _ _ _) ?_ | with_reducible refine N.obl (flat_lim _ _) ?_ | with_reducible refine N.eq ?_ | with_reducible refine N.obl rfl ?_ | with_reducible refine N.obl ⟨by kernel_rfl, by kernel_rfl⟩ ?_ | with_reducible refine N.forkT ?_ | with_reducible refine N.forkF ?_ | refine N.idx n.val 1 rfl hnl ?_ | refine N.load _ (rd_lf n rfl (by first | rfl | omega)) ?_ | refine N.load _ (rd_lt n rfl (by first | rfl | omega)) ?_ | refine N.store _ (wr_lt n rfl (by first | rfl | omega)) ?_ | refine N.store _ (wr_lf n rfl (by first | rfl | omega)) ?_ | refine N.forkYes (by simpa using hne) ?_ | refine N.forkNo (by decide) ?_ | fail_if_success skip)
              refine N.go ?_
              refine N.nextR (α := OS) ⟨q.x + 1, T', q.D, q.lf, q.lt⟩ [(0, 0), (1, 1), (2, 2), (3, 3), (4, 4)] (And.intro oc2 (by show len - (q.x + 1) < len - q.x; omega)) ?_
              repeat' (refine N.go ?_; first | with_reducible refine N.obl (by decide) ?_ | with_reducible refine N.obl (flat_wi _ _ _) ?_ | with_reducible refine N.obl (flat_lim _ _) ?_ | with_reducible refine N.eq ?_ | with_reducible refine N.obl rfl ?_ | with_reducible refine N.obl ⟨by kernel_rfl, by kernel_rfl⟩ ?_ | with_reducible refine N.forkT ?_ | with_reducible refine N.forkF ?_ | refine N.obl (re_eq (int_eq (by rw [i64s ((q.x : Int) + 1) (by omega) (by omega)]; rfl)) rfl) ?_ | refine N.obl ar_ren ?_ | refine N.obl ab_ren ?_ | exact N.true | refine N.obl (.plain (by rfl)) ?_ | refine N.obl (.one (.ptr rfl)) ?_ | refine N.obl (.one (.slice rfl)) ?_ | refine N.obl (.one (.map rfl)) ?_ | refine N.obl (seg_same hl) ?_ | refine N.obl tbl_ren ?_ | refine N.obl st_ren ?_ | refine N.obl ar4 ?_ | refine N.obl ab4 ?_ | fail_if_success skip)
            · refine N.call (cHear q.T oc.ok (ni n) (b.val : Nat) (k.val : Nat) q.x 0 T' he 1 _ (by rfl)) ?_
              repeat' (refine N.go ?_; first | with_reducible refine N.obl (by decide) ?_ | with_reducible refine N.obl (flat_wi _ _ _) ?_ | with_reducible refine N.obl (flat_lim _ _) ?_ | with_reducible refine N.eq ?_ | with_reducible refine N.obl rfl ?_ | with_reducible refine N.obl ⟨by kernel_rfl, by kernel_rfl⟩ ?_ | with_reducible refine N.forkT ?_ | with_reducible refine N.forkF ?_ | refine N.idx n.val 1 rfl hnl ?_ | refine N.load _ (rd_lf n rfl (by first | rfl | omega)) ?_ | refine N.load _ (rd_lt n rfl (by first | rfl | omega)) ?_ | refine N.store _ (wr_lt n rfl (by first | rfl | omega)) ?_ | refine N.store _ (wr_lf n rfl (by first | rfl | omega)) ?_ | refine N.forkYes (by simpa using hne) ?_ | refine N.forkNo (by decide) ?_ | fail_if_success skip)
              refine N.go ?_
              have hset : (q.D ++ [((n, b, k), (0 : Int))]).set q.D.length ((n, b, k), (1 : Int)) = q.D ++ [((n, b, k), 1)] := by
                rw [List.set_append_right _ _ (Nat.le_refl _), Nat.sub_self]; rfl
              have hg1 : kGet (q.D ++ [((n, b, k), (1 : Int))]) (n, b, k) = some 1 := by rw [kGet_push 1 hg, if_pos rfl]
              have fL0 : ∀ {K : Value → Prop}, K (.int .i64 0) → N (LookN Try.prog 49 (stC k3 encI q.D) (k3 (n, b, k)) false K) := fun h => N_lookS (k := (n, b, k)) encI q.D rfl Try.underlying49 k3_ok Try.type3 rfl (.int .i64 0) (by rw [hg]; rfl) rfl h
              have fL1 : ∀ {K : Value → Prop}, K (.int .i64 0) → N (LookN Try.prog 49 (stC k3 encI (q.D ++ [((n, b, k), (0 : Int))])) (k3 (n, b, k)) false K) := fun h => N_lookS (k := (n, b, k)) encI (q.D ++ [((n, b, k), (0 : Int))]) rfl Try.underlying49 k3_ok Try.type3 rfl (.int .i64 0) (by rw [kGet_push 0 hg, if_pos rfl]; rfl) rfl h
              have fE : ∀ {K : Value → Chunk → Prop}, K (.tuple #[.int .i64 0, .int .i64 (q.D.length : Nat)]) (stC k3 encI (q.D ++ [((n, b, k), 0)])) → N (TurnV Try.prog (stC k3 encI q.D) (fun b0 => Instr.mapEntry 49 (.map (some b0)) (k3 (n, b, k))) K) := fun h => N_entryNew (k := (n, b, k)) encI q.D rfl rfl Try.underlying49 k3_ok Try.type3 0 rfl hg rfl h
              have fS : ∀ {K : Chunk → Prop}, K (stC k3 encI (q.D ++ [((n, b, k), 1)])) → N (TurnN Try.prog (stC k3 encI (q.D ++ [((n, b, k), (0 : Int))])) (fun b => Instr.entryStore 49 (.map (some b)) (.int .i64 (q.D.length : Nat)) (.int .i64 1)) K) := fun h => N_storeS encI (q.D ++ [((n, b, k), (0 : Int))]) rfl rfl q.D.length 0 1 (by rw [List.getElem?_append_right (Nat.le_refl _), Nat.sub_self]; rfl) rfl (by rw [hset]; exact h)
              apply N.ord
              · kernel_rfl
              · repeat' (refine N.go ?_; first | with_reducible refine N.both ?_ ?_ | with_reducible exact N.true | with_reducible refine N.obl rfl ?_ | with_reducible refine N.obl (by decide) ?_ | with_reducible exact N.mk rfl | refine fL0 ?_ | refine fL1 ?_ | refine fE ?_ | refine fS ?_ | fail_if_success skip)
              refine N.go ?_
              repeat' (refine N.go ?_; first | with_reducible refine N.obl (by decide) ?_ | with_reducible refine N.obl (flat_wi _ _ _) ?_ | with_reducible refine N.obl (flat_lim _ _) ?_ | with_reducible refine N.eq ?_ | with_reducible refine N.obl rfl ?_ | with_reducible refine N.obl ⟨by kernel_rfl, by kernel_rfl⟩ ?_ | with_reducible refine N.forkT ?_ | with_reducible refine N.forkF ?_ | refine N.idx n.val 1 rfl hnl ?_ | refine N.load _ (rd_lf n rfl (by first | rfl | omega)) ?_ | refine N.load _ (rd_lt n rfl (by first | rfl | omega)) ?_ | refine N.store _ (wr_lt n rfl (by first | rfl | omega)) ?_ | refine N.store _ (wr_lf n rfl (by first | rfl | omega)) ?_ | refine N.forkYes (by simpa using hne) ?_ | refine N.forkNo (by decide) ?_ | fail_if_success skip)
              refine N.go ?_
              refine N_lookS (k := (n, b, k)) encI (q.D ++ [((n, b, k), (1 : Int))]) rfl Try.underlying49 k3_ok Try.type3 rfl (.int .i64 1) (by rw [hg1]; rfl) rfl ?_
              repeat' (refine N.go ?_; first | with_reducible refine N.obl (by decide) ?_ | with_reducible refine N.obl (flat_wi _ _ _) ?_ | with_reducible refine N.obl (flat_lim _ _) ?_ | with_reducible refine N.eq ?_ | with_reducible refine N.obl rfl ?_ | with_reducible refine N.obl ⟨by kernel_rfl, by kernel_rfl⟩ ?_ | with_reducible refine N.forkT ?_ | with_reducible refine N.forkF ?_ | refine N.idx n.val 1 rfl hnl ?_ | refine N.load _ (rd_lf n rfl (by first | rfl | omega)) ?_ | refine N.load _ (rd_lt n rfl (by first | rfl | omega)) ?_ | refine N.forkNo (by decide) ?_ | refine N.forkNo (decide_eq_false (by omega)) ?_ | fail_if_success skip)
              refine N.go ?_
              by_cases hbl : q.lf n = (b.val : Nat)
              · have hup : upd q.lf n (b.val : Nat) = q.lf := by
                  funext m; unfold upd
                  by_cases e : m = n
                  · rw [if_pos e, e, hbl]
                  · rw [if_neg e]
                have hut : upd q.lt n false = q.lt := by
                  funext m; unfold upd
                  by_cases e : m = n
                  · rw [if_pos e, e, hlf hbl]
                  · rw [if_neg e]
                rw [hup, hut] at oc'
                have oc2 : OS.ok len ⟨q.x + 1, T', q.D ++ [((n, b, k), 1)], q.lf, q.lt⟩ := ⟨hlt, by show q.x + 1 ≤ 150; omega, oc'⟩
                refine N.forkYes (by rw [hbl]; exact beq_self_eq_true _) ?_
                repeat' (refine N.go ?_; first | with_reducible refine N.obl (by decide) ?_ | with_reducible refine N.obl (flat_wi _ _ _) ?_ | with_reducible refine N.obl (flat_lim _ _) ?_ | with_reducible refine N.eq ?_ | with_reducible refine N.obl rfl ?_ | with_reducible refine N.obl ⟨by kernel_rfl, by kernel_rfl⟩ ?_ | with_reducible refine N.forkT ?_ | with_reducible refine N.forkF ?_ | refine N.idx n.val 1 rfl hnl ?_ | refine N.load _ (rd_lf n rfl (by first | rfl | omega)) ?_ | refine N.load _ (rd_lt n rfl (by first | rfl | omega)) ?_ | refine N.store _ (wr_lt n rfl (by first | rfl | omega)) ?_ | refine N.store _ (wr_lf n rfl (by first | rfl | omega)) ?_ | refine N.call (cGetY T' (ni n) e1 hE 1 _ (by rfl)) ?_ | refine N.forkNo (by rw [hE1]; simp) ?_ | refine N.forkNo (by rw [hE2]; simp) ?_ | refine N.forkNo (by decide) ?_ | refine N.forkYes (decide_eq_true (by omega)) ?_ | refine N.forkNo (decide_eq_false (by omega)) ?_ | fail_if_success skip)
                refine N.go ?_
                refine N.forkNo (hlf hbl) ?_
                repeat' (refine N.go ?_; first | with_reducible refine N.obl (by decide) ?_ | with_reducible refine N.obl (flat_wi _ _ _) ?_ | with_reducible refine N.obl (flat_lim _ _) ?_ | with_reducible refine N.eq ?_ | with_reducible refine N.obl rfl ?_ | with_reducible refine N.obl ⟨by kernel_rfl, by kernel_rfl⟩ ?_ | with_reducible refine N.forkT ?_ | with_reducible refine N.forkF ?_ | refine N.idx n.val 1 rfl hnl ?_ | refine N.load _ (rd_lf n rfl (by first | rfl | omega)) ?_ | refine N.load _ (rd_lt n rfl (by first | rfl | omega)) ?_ | refine N.store _ (wr_lt n rfl (by first | rfl | omega)) ?_ | refine N.store _ (wr_lf n rfl (by first | rfl | omega)) ?_ | refine N.call (cGetY T' (ni n) e1 hE 1 _ (by rfl)) ?_ | refine N.forkNo (by rw [hE1]; simp) ?_ | refine N.forkNo (by rw [hE2]; simp) ?_ | refine N.forkNo (by decide) ?_ | refine N.forkYes (decide_eq_true (by omega)) ?_ | refine N.forkNo (decide_eq_false (by omega)) ?_ | fail_if_success skip)
                refine N.go ?_
                refine N.nextR (α := OS) ⟨q.x + 1, T', q.D ++ [((n, b, k), 1)], q.lf, q.lt⟩ [(0, 0), (1, 1), (2, 2), (3, 3), (4, 4)] (And.intro oc2 (by show len - (q.x + 1) < len - q.x; omega)) ?_
                repeat' (refine N.go ?_; first | with_reducible refine N.obl (by decide) ?_ | with_reducible refine N.obl (flat_wi _ _ _) ?_ | with_reducible refine N.obl (flat_lim _ _) ?_ | with_reducible refine N.eq ?_ | with_reducible refine N.obl rfl ?_ | with_reducible refine N.obl ⟨by kernel_rfl, by kernel_rfl⟩ ?_ | with_reducible refine N.forkT ?_ | with_reducible refine N.forkF ?_ | refine N.obl (re_eq (int_eq (by rw [i64s ((q.x : Int) + 1) (by omega) (by omega)]; rfl)) rfl) ?_ | refine N.obl ar_ren ?_ | refine N.obl ab_ren ?_ | exact N.true | refine N.obl (.plain (by rfl)) ?_ | refine N.obl (.one (.ptr rfl)) ?_ | refine N.obl (.one (.slice rfl)) ?_ | refine N.obl (.one (.map rfl)) ?_ | refine N.obl (seg_same hl) ?_ | refine N.obl tbl_ren ?_ | refine N.obl st_ren ?_ | refine N.obl ar4 ?_ | refine N.obl ab4 ?_ | fail_if_success skip)
              · have oc2 : OS.ok len ⟨q.x + 1, T', q.D ++ [((n, b, k), 1)], upd q.lf n (b.val : Nat), upd q.lt n false⟩ := ⟨hlt, by show q.x + 1 ≤ 150; omega, oc'⟩
                refine N.forkNo (by simpa using Ne.symm hbl) ?_
                repeat' (refine N.go ?_; first | with_reducible refine N.obl (by decide) ?_ | with_reducible refine N.obl (flat_wi _ _ _) ?_ | with_reducible refine N.obl (flat_lim _ _) ?_ | with_reducible refine N.eq ?_ | with_reducible refine N.obl rfl ?_ | with_reducible refine N.obl ⟨by kernel_rfl, by kernel_rfl⟩ ?_ | with_reducible refine N.forkT ?_ | with_reducible refine N.forkF ?_ | refine N.idx n.val 1 rfl hnl ?_ | refine N.load _ (rd_lf n rfl (by first | rfl | omega)) ?_ | refine N.load _ (rd_lt n rfl (by first | rfl | omega)) ?_ | refine N.store _ (wr_lt n rfl (by first | rfl | omega)) ?_ | refine N.store _ (wr_lf n rfl (by first | rfl | omega)) ?_ | refine N.call (cGetY T' (ni n) e1 hE 1 _ (by rfl)) ?_ | refine N.forkNo (by rw [hE1]; simp) ?_ | refine N.forkNo (by rw [hE2]; simp) ?_ | refine N.forkNo (by decide) ?_ | refine N.forkYes (decide_eq_true (by omega)) ?_ | refine N.forkNo (decide_eq_false (by omega)) ?_ | fail_if_success skip)
                refine N.go ?_
                refine N.nextR (α := OS) ⟨q.x + 1, T', q.D ++ [((n, b, k), 1)], upd q.lf n (b.val : Nat), upd q.lt n false⟩ [(0, 0), (1, 1), (2, 2), (3, 3), (4, 4)] (And.intro oc2 (by show len - (q.x + 1) < len - q.x; omega)) ?_
                repeat' (refine N.go ?_; first | with_reducible refine N.obl (by decide) ?_ | with_reducible refine N.obl (flat_wi _ _ _) ?_ | with_reducible refine N.obl (flat_lim _ _) ?_ | with_reducible refine N.eq ?_ | with_reducible refine N.obl rfl ?_ | with_reducible refine N.obl ⟨by kernel_rfl, by kernel_rfl⟩ ?_ | with_reducible refine N.forkT ?_ | with_reducible refine N.forkF ?_ | refine N.obl (re_eq (int_eq (by rw [i64s ((q.x : Int) + 1) (by omega) (by omega)]; rfl)) rfl) ?_ | refine N.obl ar_ren ?_ | refine N.obl ab_ren ?_ | exact N.true | refine N.obl (.plain (by rfl)) ?_ | refine N.obl (.one (.ptr rfl)) ?_ | refine N.obl (.one (.slice rfl)) ?_ | refine N.obl (.one (.map rfl)) ?_ | refine N.obl (seg_same hl) ?_ | refine N.obl tbl_ren ?_ | refine N.obl st_ren ?_ | refine N.obl ar4 ?_ | refine N.obl ab4 ?_ | fail_if_success skip)
      · repeat' (refine N.go ?_; first | with_reducible refine N.obl (by decide) ?_ | with_reducible refine N.obl (flat_wi _ _ _) ?_ | with_reducible refine N.obl (flat_lim _ _) ?_ | with_reducible refine N.eq ?_ | with_reducible refine N.obl rfl ?_ | with_reducible refine N.obl ⟨by kernel_rfl, by kernel_rfl⟩ ?_ | with_reducible refine N.forkT ?_ | with_reducible refine N.forkF ?_ | with_reducible refine N.call (cAwake _) ?_ | refine N.forkYes (by rw [decide_eq_true_eq]; omega) ?_ | refine N.forkNo (by rw [decide_eq_false_iff_not]; omega) ?_ | refine N.forkYes (by decide) ?_ | refine N.forkNo (by decide) ?_ | fail_if_success skip)
        all_goals rfl
    · refine N.go ?_
      refine N.forkNo (by simpa using hlt) ?_
      repeat' (refine N.go ?_; first | with_reducible refine N.obl (by decide) ?_ | with_reducible refine N.obl (flat_wi _ _ _) ?_ | with_reducible refine N.obl (flat_lim _ _) ?_ | with_reducible refine N.eq ?_ | with_reducible refine N.obl rfl ?_ | with_reducible refine N.obl ⟨by kernel_rfl, by kernel_rfl⟩ ?_ | with_reducible refine N.forkT ?_ | with_reducible refine N.forkF ?_ | with_reducible refine N.call (cAwake _) ?_ | refine N.forkYes (by rw [decide_eq_true_eq]; omega) ?_ | refine N.forkNo (by rw [decide_eq_false_iff_not]; omega) ?_ | refine N.forkYes (by decide) ?_ | refine N.forkNo (by decide) ?_ | fail_if_success skip)
      all_goals rfl
set_option maxRecDepth 100000 in
set_option maxHeartbeats 2000000 in
theorem walk0 (a : Int) (w : World) :
    Calls Try.prog 6 #[.int .i64 a, .slice none 0 0] w fun e w' => e = .returned (.bool true) ∧ Below w.heap.size w w' := by
  refine calls_pure (G := tys) w tysOK mixed Try.func6 (by rfl) (by rfl) (by rfl) ?_
  repeat' (refine N.go ?_; first | with_reducible refine N.obl (by decide) ?_ | with_reducible refine N.obl (flat_wi _ _ _) ?_ | with_reducible refine N.obl (flat_lim _ _) ?_ | with_reducible refine N.eq ?_ | with_reducible refine N.obl rfl ?_ | with_reducible refine N.obl ⟨by kernel_rfl, by kernel_rfl⟩ ?_ | with_reducible refine N.forkT ?_ | with_reducible refine N.forkF ?_ | with_reducible refine N.call (cAwake _) ?_ | refine N.forkYes (by rw [decide_eq_true_eq]; omega) ?_ | refine N.forkNo (by rw [decide_eq_false_iff_not]; omega) ?_ | refine N.forkYes (by decide) ?_ | refine N.forkNo (by decide) ?_ | refine N.roll 1 ?_ | fail_if_success skip)
  refine N.go ?_
  refine N.call (cNewT a 0 _ (by rfl)) ?_
  repeat' (refine N.go ?_; first | with_reducible refine N.obl (by decide) ?_ | with_reducible refine N.obl (flat_wi _ _ _) ?_ | with_reducible refine N.obl (flat_lim _ _) ?_ | with_reducible refine N.eq ?_ | with_reducible refine N.obl rfl ?_ | with_reducible refine N.obl ⟨by kernel_rfl, by kernel_rfl⟩ ?_ | with_reducible refine N.forkT ?_ | with_reducible refine N.forkF ?_ | with_reducible refine N.call (cAwake _) ?_ | refine N.forkYes (by rw [decide_eq_true_eq]; omega) ?_ | refine N.forkNo (by rw [decide_eq_false_iff_not]; omega) ?_ | refine N.forkYes (by decide) ?_ | refine N.forkNo (by decide) ?_ | refine N.roll 1 ?_ | fail_if_success skip)
  refine N.go ?_
  refine N_mkMapS k3 encI ?_
  repeat' (refine N.go ?_; first | with_reducible refine N.obl (by decide) ?_ | with_reducible refine N.obl (flat_wi _ _ _) ?_ | with_reducible refine N.obl (flat_lim _ _) ?_ | with_reducible refine N.eq ?_ | with_reducible refine N.obl rfl ?_ | with_reducible refine N.obl ⟨by kernel_rfl, by kernel_rfl⟩ ?_ | with_reducible refine N.forkT ?_ | with_reducible refine N.forkF ?_ | with_reducible refine N.call (cAwake _) ?_ | refine N.forkYes (by rw [decide_eq_true_eq]; omega) ?_ | refine N.forkNo (by rw [decide_eq_false_iff_not]; omega) ?_ | refine N.forkYes (by decide) ?_ | refine N.forkNo (by decide) ?_ | refine N.roll 1 ?_ | fail_if_success skip)
  all_goals rfl
set_option maxRecDepth 100000 in
theorem lifted (os : Os) (started : os.Started) (H : Type) (enc : TypeId × Value → H) :
    ReturnsInHanded {} Try.checked os 6 .any (Rows.tableOnceSpec.pre6 enc Try.prog Try.f6 Rows.tableOnceRow.domain false) (Rows.tableOnceSpec.post enc Try.prog Try.f6 false true false false) := by
  refine law_lifted (C := Try.checked) (tb := 4) Try.own started (by kernel_rfl) Try.func6 Try.laidOut (by kernel_rfl) rfl Try.underlying4 rfl
    (fun ds hds => by match ds, hds with | [_, _], _ => rfl)
    (ChangeSpec.witness6 (enc := enc) (C := Try.checked) false ⟨#[], #[.int .i64 0, .slice none 0 0], []⟩ 8 (by kernel_rfl) (by kernel_rfl) (by kernel_rfl) (by kernel_rfl)) ?_
  intro W base args ds p hval0 hA0 hsz0
  have hval : ∀ (j : Nat) t v, Try.f6.params[j]? = some t → args[j]? = some v → Value.okWide Try.prog W .any base t v := hval0
  have hA : DataW.TrodAll enc Try.prog W 0 (fun _ => true) true Try.f6.params.toList args.toList ds p := hA0
  have hsz : (DataW.weightsEach Try.prog Try.f6.params.toList ds).all (· ≤ reachBytes) = true := hsz0
  rw [Try.params6] at hA hval hsz
  obtain ⟨v0, vs0, d0, ds0, p0, q0, hargs, rfl, rfl, h0, r0⟩ := trodAll_cons hA
  obtain ⟨v1, vs1, d1, ds1, p1, q1, rfl, rfl, rfl, h1, r1⟩ := trodAll_cons r0
  obtain ⟨rfl, rfl, rfl⟩ := trodAll_nil r1
  obtain rfl : args = #[v0, v1] := by cases args; simp_all
  obtain ⟨a0, rfl, rfl, rfl, w0⟩ := open_int Try.underlying3 (hval 0 _ v0 rfl rfl) h0
  rcases open_l (hval 1 _ v1 rfl rfl) h1 with rfl | ⟨a, n, cap, f, cl, rfl, hn, hs, hf, hb⟩
  · exact walk0 a0 W
  exact walk a0 a n cap f cl W hn hs hf hb

theorem proved : Rows.TableOnceSaid :=
  OpenClaim.holds_of_wide 6 Try.f6 rfl rfl rfl rfl rfl rfl rfl ⟨rfl, rfl, rfl, rfl, rfl⟩ rfl rfl rfl rfl rfl (by kernel_rfl) Try.func6 (by kernel_rfl)
    (of_decide_eq_true (by kernel_rfl)) (by unfold Func.isWrapper; rw [if_neg (by decide +kernel)]; exact ⟨rfl, rfl⟩)
    (fun os started H enc _ => lifted os started H enc)
#print axioms proved
end Go.Proofs.Ytpafcfelaaibgaa.tableOnce
