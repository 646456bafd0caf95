/-
  The statement TableSilent: for every input the law returns true.
-/
import Derived.Test.YtpafcfelaaibgaaTblSil
import Derived.Test.YtpafcfelaaibgaaMapI
import Derived.Test.YtpafcfelaaibgaaRows
set_option linter.unusedVariables false
set_option linter.unusedSimpArgs false
namespace Go.Proofs.Ytpafcfelaaibgaa.tableSilent
open Go Go.ChangeShapes Go.WideShapes Go.ChangeAt Go.RowKit Sx

theorem new_lives (most n : Int) : (Tbl.new most).lives n = none := rfl
theorem win_lives (T : Tbl) (n boot now : Int) (E : List (Int × Ent)) (W : Win) : (T.win n boot now E W).lives n = some ⟨boot, false, W⟩ := by
  show setL T.lives n _ n = _
  unfold setL; rw [if_pos rfl]
theorem row1 {n i p m : Nat} {f : Nat → Value} {cl : Nat → Nat → Int} (hf : ∀ i, i < n → ∀ j, j < 1 → f (i * 1 + j) = .int .i64 (cl i j)) (hi : i < n) (hp : p = i * 1) (hm : m = 1) :
    Reads ⟨false, n * 1, [(0, n * 1, .agg ⟨segL (n * 1) f⟩)]⟩ p false m (.int .i64 (cl i 0)) := by
  subst hp hm
  exact ⟨by show i * 1 < n * 1; omega, rfl, by rw [seg_at (by omega)]; exact hf i hi 0 (by decide)⟩
theorem setL_at (lv : Int → Option Life) (n : Int) (l : Life) : setL lv n l n = some l := by unfold setL; rw [if_pos rfl]
theorem setL_ne {lv : Int → Option Life} {n m : Int} (l : Life) (h : m ≠ n) : setL lv n l m = lv m := by unfold setL; rw [if_neg h]
theorem hear_left {T : Tbl} {n boot seq now : Int} {l : Life} (ha : argsOK n boot seq now) (hl : T.lives n = some l) (hb : l.boot = boot) (hf : l.left = true) : hearT T n boot seq now = (9, T) := by
  unfold hearT; rw [if_pos ha, hl]; simp only [if_pos hb, if_pos hf]
theorem hear_old {T : Tbl} {n boot seq now : Int} {l : Life} (ha : argsOK n boot seq now) (hl : T.lives n = some l) (hb : l.boot ≠ boot) (hf : ¬ (0 < serD l.boot boot ∧ serD l.boot boot < 32768)) : hearT T n boot seq now = (9, T) := by
  unfold hearT; rw [if_pos ha, hl]; simp only [if_neg hb, if_neg hf]
theorem hear_next {T : Tbl} {n boot seq now : Int} {l : Life} (ha : argsOK n boot seq now) (hl : T.lives n = some l) (hb : l.boot ≠ boot) (hf : 0 < serD l.boot boot ∧ serD l.boot boot < 32768) : hearT T n boot seq now = (0, T.win n boot now (begE T.E n) ⟨true, seq, 1⟩) := by
  unfold hearT; rw [if_pos ha, hl]; simp only [if_neg hb, if_pos hf]
set_option maxRecDepth 100000 in
theorem open_l {H : Type} {enc : TypeId × Value → H} {W : World} {r : Reach} {base : Nat} {v : Value} {d : DataW H} {p : List MemPlace}
    (hv : Value.okWide Try.prog W r base 22 v) (h : DataW.Trod enc Try.prog W 0 (fun _ => true) true 22 v d p) :
    v = .slice none 0 0 ∨ ∃ (a : Addr) (n cap : Nat) (f : Nat → Value) (cl : Nat → Nat → Int), v = .slice (some a) n cap ∧ n ≤ 9223372036854775807 ∧ SeenIn W ⟨a, n * 1, f⟩ ∧ ∀ i, i < n → ∀ j, j < 1 → f (i * 1 + j) = .int .i64 (cl i j) := by
  have hsh := slice_shape Try.underlying22 hv
  obtain ⟨A, n, cap, f, rfl, hl, hm, hd, hseg, hrow⟩ := open_rows (C := 1) Try.underlying22 (by kernel_rfl) h hsh
  cases A with
  | none =>
    obtain ⟨rfl, rfl⟩ := okWide_nil Try.underlying22 hv
    exact .inl rfl
  | some a =>
    have hf : ∀ i, i < n → ∀ j, j < 1 → f (i * 1 + j) = .int .i64 (intOf (f (i * 1 + j))) := by
      intro i hi j hj
      obtain ⟨x, fuel, cs, ht, hcl, hc⟩ := hrow i hi
      match j, hj with
      | 0, _ => exact (leaf_int (d := 3) (l := 3) (j := 0) (by kernel_rfl) (@Try.underlying3) (hc 0 (by omega)) ht).1
    have hlit := rows_lit (f := f) (n := n) (k := 1) (by decide) fun i hi j hj => by rw [hf i hi j hj]; rfl
    exact .inr ⟨a, n, cap, f, fun i j => intOf (f (i * 1 + j)), rfl, by simp only [maxLen] at hm; omega, SeenIn.some Try.underlying22 hv hseg hlit, hf⟩
theorem seg_same {ix : List (Nat × Nat)} {n : Nat} {f : Nat → Value} (hl : ∀ j, j < n → lit1 (f j) = true) : ChunkReLe ix (segC n f) (segC n f) := ⟨id, Nat.le_refl _, fun j hj => by
  have hj : j < n := hj
  rw [seg_at hj]; exact .plain (lit1_plain (hl j hj))⟩
theorem map_ren {α : Type} {enc : α → Value} {ix : List (Nat × Nat)} {D : List (Int × α)} : ChunkReLe ix (mapC enc D) (mapC enc D) := ⟨id, Nat.le_refl _, fun j hj => absurd hj (Nat.not_lt_zero j)⟩
theorem it_ren {α : Type} {enc : α → Value} {ix : List (Nat × Nat)} {D : List (Int × α)} {s : List Nat} {r : Nat} : ChunkReLe ix (itC enc D s r) (itC enc D s r) := ⟨id, Nat.le_refl _, fun j hj => absurd hj (Nat.not_lt_zero j)⟩
abbrev encI (x : Int) : Value := .int .i64 x
theorem mask15 (x : Int) : IntKind.i64.wrap ((BitVec.ofInt IntKind.i64.bits x &&& BitVec.ofInt IntKind.i64.bits 15).toNat : Nat) = x % 16 := by
  have h1 : (BitVec.ofInt IntKind.i64.bits 15).toNat = 2 ^ 4 - 1 := by decide
  have h2 : (BitVec.ofInt IntKind.i64.bits x &&& BitVec.ofInt IntKind.i64.bits 15).toNat = (BitVec.ofInt IntKind.i64.bits x).toNat % 16 := by
    rw [BitVec.toNat_and, h1, Nat.and_two_pow_sub_one_eq_mod]
  have h3 : ((BitVec.ofInt IntKind.i64.bits x).toNat : Int) = x % 18446744073709551616 := by
    rw [BitVec.toNat_ofInt]
    have : (0 : Int) ≤ x % ((2 ^ IntKind.i64.bits : Nat) : Int) := Int.emod_nonneg _ (by decide)
    rw [Int.toNat_of_nonneg this]
    rfl
  rw [h2, IntKind.wrap_i64]
  omega
structure SS where
  x : Nat
  T : Tbl
  D : List (Int × Int)
  t : Int
def SS.ok (len : Nat) (q : SS) : Prop := q.x ≤ len ∧ q.x ≤ 100 ∧ 0 ≤ q.t ∧ q.t ≤ 3 * q.x ∧ Sil q.T q.D q.x q.t
def lastV (L : List Int) (j : Nat) : Int := if j = 0 then -1 else L.getD (j - 1) 0
structure GS where
  j : Nat
  D : List (Int × Int)
def GS.ok (L : List Int) (q : GS) : Prop := q.j ≤ L.length ∧ ∀ k, dGet q.D k = if k ∈ L.take q.j then some 1 else none
def seenOK (n : Nat) (s : List Nat) : Prop := s.Nodup ∧ (∀ j ∈ s, j < n) ∧ s.length ≤ n
theorem seen_step {n j : Nat} {s : List Nat} (h : seenOK n s) (hj : j < n) (hs : j ∉ s) : seenOK n (s ++ [j]) ∧ s.length < n := by
  have hn : (s ++ [j]).Nodup := List.nodup_append.2 ⟨h.1, by simp, fun a ha b hb e => by
    rw [List.mem_singleton] at hb
    exact hs (hb ▸ e ▸ ha)⟩
  have hm : ∀ x ∈ s ++ [j], x < n := fun x hx => by
    rcases List.mem_append.1 hx with hx | hx
    · exact h.2.1 x hx
    · rw [List.mem_singleton] at hx; omega
  have hl := nodup_le (a := (s ++ [j]).map fun i : Nat => (i : Int)) (b := (List.range n).map fun i : Nat => (i : Int)) (List.Pairwise.map _ (fun a b hab e => hab (by omega)) hn) fun x hx => by
    obtain ⟨i, hi, rfl⟩ := List.mem_map.1 hx
    exact List.mem_map.2 ⟨i, List.mem_range.2 (hm i hi), rfl⟩
  simp only [List.length_map, List.length_range] at hl
  refine ⟨⟨hn, hm, hl⟩, ?_⟩
  rw [List.length_append] at hl
  simp only [List.length_cons, List.length_nil] at hl
  omega
theorem shr4 (z : Int) (h : 0 ≤ z) : 0 ≤ IntKind.i64.wrap (z.tmod 4) ∧ IntKind.i64.wrap (z.tmod 4) < 4 := by
  have h1 : z.tmod 4 = z % 4 := Int.tmod_eq_emod_of_nonneg h
  rw [h1, IntKind.wrap_i64]; omega
theorem lastV_lt {L : List Int} (hs : L.Pairwise (· < ·)) (h0 : ∀ k ∈ L, 0 ≤ k) {j : Nat} (hj : j < L.length) : lastV L j < L.getD j 0 := by
  have e : L.getD j 0 = L[j] := by simp [List.getD_eq_getElem?_getD, hj]
  unfold lastV
  by_cases h : j = 0
  · rw [if_pos h, e]; have := h0 L[j] (List.getElem_mem hj); omega
  · rw [if_neg h, e]
    have hj1 : j - 1 < L.length := by omega
    have e1 : L.getD (j - 1) 0 = L[j - 1] := by simp [List.getD_eq_getElem?_getD, hj1]
    rw [e1]
    exact List.pairwise_iff_getElem.1 hs (j - 1) j hj1 hj (by omega)
theorem gs_step {L : List Int} (hs : L.Pairwise (· < ·)) {q : GS} (h : GS.ok L q) (hj : q.j < L.length) : dGet q.D (L.getD q.j 0) = none ∧ GS.ok L ⟨q.j + 1, dPut q.D (L.getD q.j 0) 1⟩ := by
  have e : L.getD q.j 0 = L[q.j] := by simp [List.getD_eq_getElem?_getD, hj]
  have ht : L.take (q.j + 1) = L.take q.j ++ [L[q.j]] := by rw [List.take_add_one, List.getElem?_eq_getElem hj]; rfl
  have hn : L[q.j] ∉ L.take q.j := fun hm => by
    obtain ⟨i, hi, ei⟩ := List.getElem_of_mem hm
    simp only [List.length_take] at hi
    rw [List.getElem_take] at ei
    have := List.pairwise_iff_getElem.1 hs i q.j (by omega) hj (by omega)
    omega
  rw [e]
  refine ⟨by rw [h.2, if_neg hn], by show q.j + 1 ≤ _; omega, fun k => ?_⟩
  show dGet (dPut q.D L[q.j] 1) k = if k ∈ L.take (q.j + 1) then some 1 else none
  rw [ht]
  by_cases hk : k = L[q.j]
  · subst hk; rw [dGet_put_same, if_pos (List.mem_append.2 (.inr (List.mem_singleton.2 rfl)))]
  · rw [dGet_put_ne _ _ hk, h.2]
    have : (k ∈ L.take q.j ++ [L[q.j]]) ↔ k ∈ L.take q.j := by rw [List.mem_append, List.mem_singleton]; exact or_iff_left hk
    simp only [this]
set_option maxRecDepth 100000 in
set_option maxHeartbeats 8000000 in
theorem walk (b c : Int) (ad : Addr) (len lcap : Nat) (f : Nat → Value) (cl : Nat → Nat → Int) (w : World) (hlen : len ≤ 9223372036854775807) (hsn : SeenIn w ⟨ad, len * 1, f⟩) (hf : ∀ i, i < len → ∀ j, j < 1 → f (i * 1 + j) = .int .i64 (cl i j)) :
    Calls Try.prog 4 #[.slice (some ad) len lcap, .int .i64 b, .int .i64 c] w fun e w' => e = .returned (.bool true) ∧ Below w.heap.size w w' := by
  have hl : ∀ j, j < len * 1 → lit1 (f j) = true := rows_lit (by decide) fun i hi j hj => by rw [hf i hi j hj]; rfl
  obtain ⟨n1, n2⟩ := u64mod b 30 (by decide) (by decide)
  refine calls_args (G := tys) (vs := [.slice (some ⟨0, 0, some 0⟩) len lcap, .int .i64 b, .int .i64 c]) [⟨ad, len * 1, f⟩] w tysOK mixed Try.func4 (by rfl) (by simpa using hsn) ⟨.slice rfl, .plain rfl, .plain rfl, trivial⟩ rfl ?_
  repeat' (refine N.go ?_; first | with_reducible refine N.obl (by decide) ?_ | with_reducible refine N.obl (flat_wi _ _ _) ?_ | with_reducible refine N.obl (flat_lim _ _) ?_ | with_reducible refine N.eq ?_ | with_reducible refine N.obl rfl ?_ | with_reducible refine N.obl ⟨by kernel_rfl, by kernel_rfl⟩ ?_ | with_reducible refine N.forkT ?_ | with_reducible refine N.forkF ?_ | refine N.forkYes (by rw [decide_eq_true_eq]; omega) ?_ | refine N.forkNo (by rw [decide_eq_false_iff_not]; omega) ?_ | refine N.forkYes (by decide) ?_ | refine N.forkNo (by decide) ?_ | fail_if_success skip)
  refine N.go ?_
  generalize IntKind.i64.wrap ((IntKind.u64.wrap b).tmod 30) = sb at n1 n2 ⊢
  rw [i64s (1 + sb) (by omega) (by omega)]
  have hs1 : 1 ≤ 1 + sb := by omega
  have hs2 : 1 + sb ≤ 30 := by omega
  generalize 1 + sb = s at hs1 hs2 ⊢
  refine N.call (cNewT 64 1 _ (by rfl)) ?_
  repeat' (refine N.go ?_; first | with_reducible refine N.obl (by decide) ?_ | with_reducible refine N.obl (flat_wi _ _ _) ?_ | with_reducible refine N.obl (flat_lim _ _) ?_ | with_reducible refine N.eq ?_ | with_reducible refine N.obl rfl ?_ | with_reducible refine N.obl ⟨by kernel_rfl, by kernel_rfl⟩ ?_ | with_reducible refine N.forkT ?_ | with_reducible refine N.forkF ?_ | refine N.forkYes (by rw [decide_eq_true_eq]; omega) ?_ | refine N.forkNo (by rw [decide_eq_false_iff_not]; omega) ?_ | refine N.forkYes (by decide) ?_ | refine N.forkNo (by decide) ?_ | fail_if_success skip)
  refine N.go ?_
  refine N_mkMap encI ?_
  repeat' (refine N.go ?_; first | with_reducible refine N.obl (by decide) ?_ | with_reducible refine N.obl (flat_wi _ _ _) ?_ | with_reducible refine N.obl (flat_lim _ _) ?_ | with_reducible refine N.eq ?_ | with_reducible refine N.obl rfl ?_ | with_reducible refine N.obl ⟨by kernel_rfl, by kernel_rfl⟩ ?_ | with_reducible refine N.forkT ?_ | with_reducible refine N.forkF ?_ | refine N.forkYes (by rw [decide_eq_true_eq]; omega) ?_ | refine N.forkNo (by rw [decide_eq_false_iff_not]; omega) ?_ | refine N.forkYes (by decide) ?_ | refine N.forkNo (by decide) ?_ | fail_if_success skip)
  refine N.go ?_
  refine N.loopR (α := SS) (SS.ok len) (fun q => len - q.x) (fun q => [(31, .int .i64 (q.x : Int)), (9, .int .i64 q.t)]) (fun q => [(1, tblC q.T), (2, mapC encI q.D)]) ⟨0, Tbl.new 64, [], 0⟩ [(0, 0), (1, 1), (2, 2)] ⟨Nat.zero_le _, Nat.zero_le _, Int.le_refl _, Int.le_refl _, sil_new⟩ ?_ ?_
  · repeat' (refine N.go ?_; first | with_reducible refine N.obl (by decide) ?_ | with_reducible refine N.obl (flat_wi _ _ _) ?_ | with_reducible refine N.obl (flat_lim _ _) ?_ | with_reducible refine N.eq ?_ | with_reducible refine N.obl rfl ?_ | with_reducible refine N.obl ⟨by kernel_rfl, by kernel_rfl⟩ ?_ | with_reducible refine N.forkT ?_ | with_reducible refine N.forkF ?_ | exact N.true | refine N.obl (.plain (by rfl)) ?_ | refine N.obl (.one (.ptr rfl)) ?_ | refine N.obl (.one (.slice rfl)) ?_ | refine N.obl (.one (.map rfl)) ?_ | refine N.obl (seg_same hl) ?_ | refine N.obl tbl_ren ?_ | refine N.obl map_ren ?_ | refine N.obl it_ren ?_ | refine N.obl (rl_ren rfl) ?_ | fail_if_success skip)
  · intro q hq
    obtain ⟨q1, q2, q3, q4, qs⟩ := hq
    by_cases hlt : q.x < len
    · refine N.go ?_
      refine N.forkYes (by simpa using hlt) ?_
      refine N.go ?_
      refine N.idx q.x 1 rfl hlt ?_
      refine N.go ?_
      refine N.load _ (row1 hf hlt (by first | rfl | omega) rfl) ?_
      by_cases h100 : q.x < 100
      · repeat' (refine N.go ?_; first | with_reducible refine N.obl (by decide) ?_ | with_reducible refine N.obl (flat_wi _ _ _) ?_ | with_reducible refine N.obl (flat_lim _ _) ?_ | with_reducible refine N.eq ?_ | with_reducible refine N.obl rfl ?_ | with_reducible refine N.obl ⟨by kernel_rfl, by kernel_rfl⟩ ?_ | with_reducible refine N.forkT ?_ | with_reducible refine N.forkF ?_ | refine N.forkYes (by rw [decide_eq_true_eq]; omega) ?_ | refine N.forkNo (by rw [decide_eq_false_iff_not]; omega) ?_ | refine N.forkYes (by decide) ?_ | refine N.forkNo (by decide) ?_ | fail_if_success skip)
        refine N.go ?_
        obtain ⟨d1, d2⟩ := shr4 ((IntKind.u64.wrap (cl q.x 0)).fdiv (2 ^ sh 8 IntKind.u64)) (by
          have hz : 0 ≤ IntKind.u64.wrap (cl q.x 0) := by rw [IntKind.wrap_u64]; omega
          exact Int.fdiv_nonneg hz (by decide))
        generalize IntKind.i64.wrap (((IntKind.u64.wrap (cl q.x 0)).fdiv (2 ^ sh 8 IntKind.u64)).tmod 4) = d at d1 d2 ⊢
        rw [mask15, i64s (q.t + d) (by omega) (by omega)]
        have hn : 0 ≤ cl q.x 0 % 16 ∧ cl q.x 0 % 16 < 16 := by omega
        obtain ⟨T', he, hS'⟩ := sil_hear (n := cl q.x 0 % 16) (t' := q.t + d) qs (by omega) hn (by omega) (by omega)
        generalize hnq : cl q.x 0 % 16 = n at hn he hS' ⊢
        have oc2 : SS.ok len ⟨q.x + 1, T', dPut q.D n (q.t + d), q.t + d⟩ := ⟨hlt, by show q.x + 1 ≤ 100; omega, by show 0 ≤ q.t + d; omega, by show q.t + d ≤ 3 * ((q.x + 1 : Nat) : Int); omega, hS'⟩
        refine N.call (cHear q.T qs.st.ok n 0 q.x (q.t + d) 0 T' he 1 _ (by rfl)) ?_
        repeat' (refine N.go ?_; first | with_reducible refine N.obl (by decide) ?_ | with_reducible refine N.obl (flat_wi _ _ _) ?_ | with_reducible refine N.obl (flat_lim _ _) ?_ | with_reducible refine N.eq ?_ | with_reducible refine N.obl rfl ?_ | with_reducible refine N.obl ⟨by kernel_rfl, by kernel_rfl⟩ ?_ | with_reducible refine N.forkT ?_ | with_reducible refine N.forkF ?_ | refine N.forkYes (by rw [decide_eq_true_eq]; omega) ?_ | refine N.forkNo (by rw [decide_eq_false_iff_not]; omega) ?_ | refine N.forkYes (by decide) ?_ | refine N.forkNo (by decide) ?_ | fail_if_success skip)
        refine N.go ?_
        rw [mask15, hnq]
        refine N_put encI q.D (q.t + d) (by with_reducible rfl) rfl ⟨by omega, by omega⟩ rfl Try.underlying41 Try.underlying3 ?_
        repeat' (refine N.go ?_; first | with_reducible refine N.obl (by decide) ?_ | with_reducible refine N.obl (flat_wi _ _ _) ?_ | with_reducible refine N.obl (flat_lim _ _) ?_ | with_reducible refine N.eq ?_ | with_reducible refine N.obl rfl ?_ | with_reducible refine N.obl ⟨by kernel_rfl, by kernel_rfl⟩ ?_ | with_reducible refine N.forkT ?_ | with_reducible refine N.forkF ?_ | refine N.forkYes (by rw [decide_eq_true_eq]; omega) ?_ | refine N.forkNo (by rw [decide_eq_false_iff_not]; omega) ?_ | refine N.forkYes (by decide) ?_ | refine N.forkNo (by decide) ?_ | fail_if_success skip)
        refine N.go ?_
        refine N.nextR (α := SS) ⟨q.x + 1, T', dPut q.D n (q.t + d), q.t + d⟩ [(0, 0), (1, 1), (2, 2)] (And.intro oc2 (by show len - (q.x + 1) < len - q.x; omega)) ?_
        repeat' (refine N.go ?_; first | with_reducible refine N.obl (by decide) ?_ | with_reducible refine N.obl (flat_wi _ _ _) ?_ | with_reducible refine N.obl (flat_lim _ _) ?_ | with_reducible refine N.eq ?_ | with_reducible refine N.obl rfl ?_ | with_reducible refine N.obl ⟨by kernel_rfl, by kernel_rfl⟩ ?_ | with_reducible refine N.forkT ?_ | with_reducible refine N.forkF ?_ | refine N.obl (re_eq (int_eq (by rw [i64s ((q.x : Int) + 1) (by omega) (by omega)]; rfl)) rfl) ?_ | exact N.true | refine N.obl (.plain (by rfl)) ?_ | refine N.obl (.one (.ptr rfl)) ?_ | refine N.obl (.one (.slice rfl)) ?_ | refine N.obl (.one (.map rfl)) ?_ | refine N.obl (seg_same hl) ?_ | refine N.obl tbl_ren ?_ | refine N.obl map_ren ?_ | refine N.obl it_ren ?_ | refine N.obl (rl_ren rfl) ?_ | fail_if_success skip)
      · repeat' (refine N.go ?_; first | with_reducible refine N.obl (by decide) ?_ | with_reducible refine N.obl (flat_wi _ _ _) ?_ | with_reducible refine N.obl (flat_lim _ _) ?_ | with_reducible refine N.eq ?_ | with_reducible refine N.obl rfl ?_ | with_reducible refine N.obl ⟨by kernel_rfl, by kernel_rfl⟩ ?_ | with_reducible refine N.forkT ?_ | with_reducible refine N.forkF ?_ | refine N.forkYes (by rw [decide_eq_true_eq]; omega) ?_ | refine N.forkNo (by rw [decide_eq_false_iff_not]; omega) ?_ | refine N.forkYes (by decide) ?_ | refine N.forkNo (by decide) ?_ | fail_if_success skip)
        refine N.go ?_
        obtain ⟨c1, c2⟩ := u64mod c 60 (by decide) (by decide)
        generalize IntKind.i64.wrap ((IntKind.u64.wrap c).tmod 60) = cb at c1 c2 ⊢
        rw [i64s (q.t + cb) (by omega) (by omega)]
        have hnow : 0 ≤ q.t + cb ∧ q.t + cb ≤ 400 := by omega
        have hle : q.t ≤ q.t + cb := by omega
        generalize q.t + cb = now at hnow hle ⊢
        refine N_mkMap encI ?_
        repeat' (refine N.go ?_; first | with_reducible refine N.obl (by decide) ?_ | with_reducible refine N.obl (flat_wi _ _ _) ?_ | with_reducible refine N.obl (flat_lim _ _) ?_ | with_reducible refine N.eq ?_ | with_reducible refine N.obl rfl ?_ | with_reducible refine N.obl ⟨by kernel_rfl, by kernel_rfl⟩ ?_ | with_reducible refine N.forkT ?_ | with_reducible refine N.forkF ?_ | refine N.forkYes (by rw [decide_eq_true_eq]; omega) ?_ | refine N.forkNo (by rw [decide_eq_false_iff_not]; omega) ?_ | refine N.forkYes (by decide) ?_ | refine N.forkNo (by decide) ?_ | fail_if_success skip)
        refine N.go ?_
        have hgone := fun k => sil_gone (now := now) qs hs1 k
        have hL1 := evict_lt qs.st.ek now s
        have hget := fun k => evict_get qs.st.ek now s k
        have hmem := fun k => evict_mem (T := q.T) qs.st.ek now s k
        have hL0 : ∀ k ∈ evictL q.T now s, 0 ≤ k ∧ k < 16 := fun k hk => by
          obtain ⟨e, he, _⟩ := (hmem k).1 hk
          exact qs.st.ks k (by rw [he]; simp)
        have hT2 := silT_ev qs.st now s
        have hLw : ∀ k, k ∈ evictL q.T now s → ∃ v, dGet q.D k = some v ∧ v + s ≤ now ∧ 0 ≤ v := fun k hk => by
          obtain ⟨v, h1, h2⟩ := (hgone k).1 hk
          exact ⟨v, h1, h2, (qs.hb k v h1).1⟩
        have hLlen : (evictL q.T now s).length ≤ (q.T).E.length := by unfold evictL; exact evL_le _ _ _
        have hev : (q.T).E.length ≤ 64 := by have := qs.st.len; omega
        obtain ⟨T3, he3, hT3, ⟨e3, he4, _⟩, _⟩ := silT_hear (q := 200) (n := 3) (t := now) hT2 (by omega) (by omega) (by omega) (by decide) (by omega)
        have hDn := qs.dn
        have hDb := qs.hb
        have hDe := qs.he
        refine N.callAll (cEvict q.T hev now s (by omega) ⟨by omega, by omega⟩ 1 5 _ (by rfl) (by rfl)) fun v ms hR => ?_
        generalize hTv : (q.T).ev now s = T2 at hT2 he3 hget hR
        generalize hLv : evictL q.T now s = L at hLlen hgone hL1 hL0 hLw hR hget hmem
        rcases hR with ⟨hnil, rfl, rfl⟩ | ⟨cap, hp, hcap, rfl, rfl⟩
        · subst hnil
          repeat' (refine N.go ?_; first | with_reducible refine N.obl (by decide) ?_ | with_reducible refine N.obl (flat_wi _ _ _) ?_ | with_reducible refine N.obl (flat_lim _ _) ?_ | with_reducible refine N.eq ?_ | with_reducible refine N.obl rfl ?_ | with_reducible refine N.obl ⟨by kernel_rfl, by kernel_rfl⟩ ?_ | with_reducible refine N.forkT ?_ | with_reducible refine N.forkF ?_ | refine N.forkYes (by rw [decide_eq_true_eq]; omega) ?_ | refine N.forkNo (by rw [decide_eq_false_iff_not]; omega) ?_ | refine N.forkYes (by decide) ?_ | refine N.forkNo (by decide) ?_ | fail_if_success skip)
          refine N.go ?_
          refine N.roll 1 ?_
          repeat' (refine N.go ?_; first | with_reducible refine N.obl (by decide) ?_ | with_reducible refine N.obl (flat_wi _ _ _) ?_ | with_reducible refine N.obl (flat_lim _ _) ?_ | with_reducible refine N.eq ?_ | with_reducible refine N.obl rfl ?_ | with_reducible refine N.obl ⟨by kernel_rfl, by kernel_rfl⟩ ?_ | with_reducible refine N.forkT ?_ | with_reducible refine N.forkF ?_ | refine N.forkYes (by rw [decide_eq_true_eq]; omega) ?_ | refine N.forkNo (by rw [decide_eq_false_iff_not]; omega) ?_ | refine N.forkYes (by decide) ?_ | refine N.forkNo (by decide) ?_ | fail_if_success skip)
          refine N.go ?_
          have hgo : ∀ k, dGet ([] : List (Int × Int)) k = if k ∈ ([] : List Int) then some 1 else none := fun k => rfl
          repeat' (refine N.go ?_; first | with_reducible refine N.obl (by decide) ?_ | with_reducible refine N.obl (flat_wi _ _ _) ?_ | with_reducible refine N.obl (flat_lim _ _) ?_ | with_reducible refine N.eq ?_ | with_reducible refine N.obl rfl ?_ | with_reducible refine N.obl ⟨by kernel_rfl, by kernel_rfl⟩ ?_ | with_reducible refine N.forkT ?_ | with_reducible refine N.forkF ?_ | refine N.forkYes (by rw [decide_eq_true_eq]; omega) ?_ | refine N.forkNo (by rw [decide_eq_false_iff_not]; omega) ?_ | refine N.forkYes (by decide) ?_ | refine N.forkNo (by decide) ?_ | fail_if_success skip)
          refine N.go ?_
          refine N_range 2 encI q.D rfl (by rfl) (by rfl) Try.underlying41 fun r => ?_
          repeat' (refine N.go ?_; first | with_reducible refine N.obl (by decide) ?_ | with_reducible refine N.obl (flat_wi _ _ _) ?_ | with_reducible refine N.obl (flat_lim _ _) ?_ | with_reducible refine N.eq ?_ | with_reducible refine N.obl rfl ?_ | with_reducible refine N.obl ⟨by kernel_rfl, by kernel_rfl⟩ ?_ | with_reducible refine N.forkT ?_ | with_reducible refine N.forkF ?_ | refine N.forkYes (by rw [decide_eq_true_eq]; omega) ?_ | refine N.forkNo (by rw [decide_eq_false_iff_not]; omega) ?_ | refine N.forkYes (by decide) ?_ | refine N.forkNo (by decide) ?_ | fail_if_success skip)
          refine N.go ?_
          refine N.loopR (α := List Nat) (seenOK (q.D).length) (fun u => (q.D).length - u.length) (fun u => []) (fun u => [(1, tblC T2), (2, itC encI q.D u r)]) [] [(0, 0), (1, 1), (2, 2), (3, 3)] ⟨List.nodup_nil, fun j hj => (by cases hj), Nat.zero_le _⟩ ?_ ?_
          · repeat' (refine N.go ?_; first | with_reducible refine N.obl (by decide) ?_ | with_reducible refine N.obl (flat_wi _ _ _) ?_ | with_reducible refine N.obl (flat_lim _ _) ?_ | with_reducible refine N.eq ?_ | with_reducible refine N.obl rfl ?_ | with_reducible refine N.obl ⟨by kernel_rfl, by kernel_rfl⟩ ?_ | with_reducible refine N.forkT ?_ | with_reducible refine N.forkF ?_ | exact N.true | refine N.obl (.plain (by rfl)) ?_ | refine N.obl (.one (.ptr rfl)) ?_ | refine N.obl (.one (.slice rfl)) ?_ | refine N.obl (.one (.map rfl)) ?_ | refine N.obl (seg_same hl) ?_ | refine N.obl tbl_ren ?_ | refine N.obl map_ren ?_ | refine N.obl it_ren ?_ | refine N.obl (rl_ren rfl) ?_ | fail_if_success skip)
          · intro u hg
            refine N.go ?_
            refine N_next 2 encI q.D u rfl (by rfl) (by rfl) (fun _ => rfl) (fun _ => ?_) fun j k h hj hjs => ?_
            · repeat' (refine N.go ?_; first | with_reducible refine N.obl (by decide) ?_ | with_reducible refine N.obl (flat_wi _ _ _) ?_ | with_reducible refine N.obl (flat_lim _ _) ?_ | with_reducible refine N.eq ?_ | with_reducible refine N.obl rfl ?_ | with_reducible refine N.obl ⟨by kernel_rfl, by kernel_rfl⟩ ?_ | with_reducible refine N.forkT ?_ | with_reducible refine N.forkF ?_ | with_reducible refine N.call (cAwake _) ?_ | refine N.call (cHear T2 hT2.ok 3 0 200 now 0 T3 he3 1 _ (by rfl)) ?_ | refine N.call (cGetY T3 3 e3 he4 1 _ (by rfl)) ?_ | refine N.forkYes (by rw [decide_eq_true_eq]; omega) ?_ | refine N.forkNo (by rw [decide_eq_false_iff_not]; omega) ?_ | refine N.forkYes (by decide) ?_ | refine N.forkNo (by decide) ?_ | fail_if_success skip)
              all_goals rfl
            · obtain ⟨hg2, hgl2⟩ := seen_step hg (List.getElem?_eq_some_iff.1 hj).1 hjs
              have hDk : dGet q.D k = some h := dGet_mem hDn (List.mem_of_getElem? hj)
              obtain ⟨hb1, hb2⟩ := hDb k h hDk
              have hik := hgone k
              repeat' (refine N.go ?_; first | with_reducible refine N.obl (by decide) ?_ | with_reducible refine N.obl (flat_wi _ _ _) ?_ | with_reducible refine N.obl (flat_lim _ _) ?_ | with_reducible refine N.eq ?_ | with_reducible refine N.obl rfl ?_ | with_reducible refine N.obl ⟨by kernel_rfl, by kernel_rfl⟩ ?_ | with_reducible refine N.forkT ?_ | with_reducible refine N.forkF ?_ | refine N.forkYes (by rw [decide_eq_true_eq]; omega) ?_ | refine N.forkNo (by rw [decide_eq_false_iff_not]; omega) ?_ | refine N.forkYes (by decide) ?_ | refine N.forkNo (by decide) ?_ | fail_if_success skip)
              refine N.go ?_
              refine N_entryI 2 encI q.D u j k h rfl (by rfl) (by rfl) hj rfl ?_
              by_cases hkL : k ∈ ([] : List Int)
              · have hTk : dGet T2.E k = none := by rw [hget k, if_pos hkL]
                have hgk : dGet ([] : List (Int × Int)) k = some 1 := by rw [hgo k, if_pos hkL]
                obtain ⟨v0, hv1, hv2⟩ := hik.1 hkL
                obtain rfl : v0 = h := by rw [hDk] at hv1; exact (Option.some.inj hv1).symm
                repeat' (refine N.go ?_; first | with_reducible refine N.obl (by decide) ?_ | with_reducible refine N.obl (flat_wi _ _ _) ?_ | with_reducible refine N.obl (flat_lim _ _) ?_ | with_reducible refine N.eq ?_ | with_reducible refine N.obl rfl ?_ | with_reducible refine N.obl ⟨by kernel_rfl, by kernel_rfl⟩ ?_ | with_reducible refine N.forkT ?_ | with_reducible refine N.forkF ?_ | refine N.call (cGetN T2 k hTk 1 _ (by rfl)) ?_ | refine N.forkYes (by rw [decide_eq_true_eq]; omega) ?_ | refine N.forkNo (by rw [decide_eq_false_iff_not]; omega) ?_ | refine N.forkYes (by decide) ?_ | refine N.forkNo (by decide) ?_ | refine N.forkNo (by rw [i64s (v0 + s) (by omega) (by omega), decide_eq_false (by omega)]; rfl) ?_ | refine N_look encI _ (by with_reducible rfl) Try.underlying43 Try.underlying3 Try.type3 rfl (.int .i64 1) (by rw [hgk]; rfl) rfl ?_ | fail_if_success skip)
                refine N.go ?_
                refine N.nextR (α := List Nat) (u ++ [j]) [(0, 0), (1, 1), (2, 2), (3, 3)] (And.intro hg2 (by show (q.D).length - (u ++ [j]).length < (q.D).length - u.length; rw [List.length_append]; simp only [List.length_cons, List.length_nil] at hgl2 ⊢; omega)) ?_
                repeat' (refine N.go ?_; first | with_reducible refine N.obl (by decide) ?_ | with_reducible refine N.obl (flat_wi _ _ _) ?_ | with_reducible refine N.obl (flat_lim _ _) ?_ | with_reducible refine N.eq ?_ | with_reducible refine N.obl rfl ?_ | with_reducible refine N.obl ⟨by kernel_rfl, by kernel_rfl⟩ ?_ | with_reducible refine N.forkT ?_ | with_reducible refine N.forkF ?_ | exact N.true | refine N.obl (.plain (by rfl)) ?_ | refine N.obl (.one (.ptr rfl)) ?_ | refine N.obl (.one (.slice rfl)) ?_ | refine N.obl (.one (.map rfl)) ?_ | refine N.obl (seg_same hl) ?_ | refine N.obl tbl_ren ?_ | refine N.obl map_ren ?_ | refine N.obl it_ren ?_ | refine N.obl (rl_ren rfl) ?_ | fail_if_success skip)
              · have hng : ¬ h + s ≤ now := fun hh => hkL (hik.2 ⟨h, hDk, hh⟩)
                have hTk : ∃ e, dGet T2.E k = some e := by
                  rw [hget k, if_neg hkL]
                  have := hDe k
                  rw [hDk] at this
                  cases hE : dGet (q.T).E k with
                  | none => rw [hE] at this; cases this
                  | some e => exact ⟨e, rfl⟩
                obtain ⟨ek, hTk⟩ := hTk
                have hgk : dGet ([] : List (Int × Int)) k = none := by rw [hgo k, if_neg hkL]
                repeat' (refine N.go ?_; first | with_reducible refine N.obl (by decide) ?_ | with_reducible refine N.obl (flat_wi _ _ _) ?_ | with_reducible refine N.obl (flat_lim _ _) ?_ | with_reducible refine N.eq ?_ | with_reducible refine N.obl rfl ?_ | with_reducible refine N.obl ⟨by kernel_rfl, by kernel_rfl⟩ ?_ | with_reducible refine N.forkT ?_ | with_reducible refine N.forkF ?_ | refine N.call (cGetY T2 k ek hTk 1 _ (by rfl)) ?_ | refine N.forkYes (by rw [decide_eq_true_eq]; omega) ?_ | refine N.forkNo (by rw [decide_eq_false_iff_not]; omega) ?_ | refine N.forkYes (by decide) ?_ | refine N.forkNo (by decide) ?_ | refine N.forkNo (by rw [i64s (h + s) (by omega) (by omega), decide_eq_true (by omega)]; rfl) ?_ | refine N_look encI _ (by with_reducible rfl) Try.underlying43 Try.underlying3 Try.type3 rfl (.int .i64 0) (by rw [hgk]; rfl) rfl ?_ | fail_if_success skip)
                refine N.go ?_
                refine N.nextR (α := List Nat) (u ++ [j]) [(0, 0), (1, 1), (2, 2), (3, 3)] (And.intro hg2 (by show (q.D).length - (u ++ [j]).length < (q.D).length - u.length; rw [List.length_append]; simp only [List.length_cons, List.length_nil] at hgl2 ⊢; omega)) ?_
                repeat' (refine N.go ?_; first | with_reducible refine N.obl (by decide) ?_ | with_reducible refine N.obl (flat_wi _ _ _) ?_ | with_reducible refine N.obl (flat_lim _ _) ?_ | with_reducible refine N.eq ?_ | with_reducible refine N.obl rfl ?_ | with_reducible refine N.obl ⟨by kernel_rfl, by kernel_rfl⟩ ?_ | with_reducible refine N.forkT ?_ | with_reducible refine N.forkF ?_ | exact N.true | refine N.obl (.plain (by rfl)) ?_ | refine N.obl (.one (.ptr rfl)) ?_ | refine N.obl (.one (.slice rfl)) ?_ | refine N.obl (.one (.map rfl)) ?_ | refine N.obl (seg_same hl) ?_ | refine N.obl tbl_ren ?_ | refine N.obl map_ren ?_ | refine N.obl it_ren ?_ | refine N.obl (rl_ren rfl) ?_ | fail_if_success skip)
        · repeat' (refine N.go ?_; first | with_reducible refine N.obl (by decide) ?_ | with_reducible refine N.obl (flat_wi _ _ _) ?_ | with_reducible refine N.obl (flat_lim _ _) ?_ | with_reducible refine N.eq ?_ | with_reducible refine N.obl rfl ?_ | with_reducible refine N.obl ⟨by kernel_rfl, by kernel_rfl⟩ ?_ | with_reducible refine N.forkT ?_ | with_reducible refine N.forkF ?_ | refine N.forkYes (by rw [decide_eq_true_eq]; omega) ?_ | refine N.forkNo (by rw [decide_eq_false_iff_not]; omega) ?_ | refine N.forkYes (by decide) ?_ | refine N.forkNo (by decide) ?_ | fail_if_success skip)
          refine N.go ?_
          refine N.loopR (α := GS) (GS.ok L) (fun g => L.length - g.j) (fun g => [(69, .int .i64 (g.j : Int)), (13, .int .i64 (lastV L g.j))]) (fun g => [(1, tblC T2), (2, mapC encI q.D), (3, mapC encI g.D), (5, rl L cap)]) ⟨0, []⟩ [(0, 0), (1, 1), (2, 2), (5, 5), (3, 3)] ⟨Nat.zero_le _, fun k => rfl⟩ ?_ ?_
          · repeat' (refine N.go ?_; first | with_reducible refine N.obl (by decide) ?_ | with_reducible refine N.obl (flat_wi _ _ _) ?_ | with_reducible refine N.obl (flat_lim _ _) ?_ | with_reducible refine N.eq ?_ | with_reducible refine N.obl rfl ?_ | with_reducible refine N.obl ⟨by kernel_rfl, by kernel_rfl⟩ ?_ | with_reducible refine N.forkT ?_ | with_reducible refine N.forkF ?_ | exact N.true | refine N.obl (.plain (by rfl)) ?_ | refine N.obl (.one (.ptr rfl)) ?_ | refine N.obl (.one (.slice rfl)) ?_ | refine N.obl (.one (.map rfl)) ?_ | refine N.obl (seg_same hl) ?_ | refine N.obl tbl_ren ?_ | refine N.obl map_ren ?_ | refine N.obl it_ren ?_ | refine N.obl (rl_ren rfl) ?_ | fail_if_success skip)
          · intro g hg
            by_cases hj : g.j < L.length
            · have hLj : L.getD g.j 0 ∈ L := by
                have e : L.getD g.j 0 = L[g.j] := by simp [List.getD_eq_getElem?_getD, hj]
                rw [e]; exact List.getElem_mem hj
              obtain ⟨v, hv1, hv2, hv3⟩ := hLw _ hLj
              have hlt := lastV_lt hL1 (fun k hk => (hL0 k hk).1) hj
              obtain ⟨hg0, hg1⟩ := gs_step hL1 hg hj
              have hkb := hL0 _ hLj
              have hlast : lastV L (g.j + 1) = L.getD g.j 0 := by unfold lastV; rw [if_neg (by omega)]; rfl
              have hjl : g.j < 9000000000000000000 := by
                have := hLlen; omega
              refine N.go ?_
              refine N.forkYes (by simpa using hj) ?_
              refine N.go ?_
              refine N.idx g.j 1 rfl hj ?_
              refine N.go ?_
              refine N.load _ (rd1 g.j rfl (by omega) (by first | rfl | omega)) ?_
              repeat' (refine N.go ?_; first | with_reducible refine N.obl (by decide) ?_ | with_reducible refine N.obl (flat_wi _ _ _) ?_ | with_reducible refine N.obl (flat_lim _ _) ?_ | with_reducible refine N.eq ?_ | with_reducible refine N.obl rfl ?_ | with_reducible refine N.obl ⟨by kernel_rfl, by kernel_rfl⟩ ?_ | with_reducible refine N.forkT ?_ | with_reducible refine N.forkF ?_ | refine N.forkNo (by rw [decide_eq_false_iff_not]; omega) ?_ | refine N_look encI q.D (by with_reducible rfl) Try.underlying41 Try.underlying3 Try.type2 rfl (.int .i64 v) (by rw [hv1]; rfl) rfl ?_ | refine N.forkNo (by rw [decide_eq_false_iff_not, i64s (v + s) (by omega) (by omega)]; omega) ?_ | refine N_look encI g.D (by with_reducible rfl) Try.underlying43 Try.underlying3 Try.type3 rfl (.int .i64 0) (by rw [hg0]; rfl) rfl ?_ | refine N_put encI g.D 1 (by with_reducible rfl) rfl ⟨by omega, by omega⟩ rfl Try.underlying43 Try.underlying3 ?_ | fail_if_success skip)
              refine N.go ?_
              refine N.nextR (α := GS) ⟨g.j + 1, dPut g.D (L.getD g.j 0) 1⟩ [(0, 0), (1, 1), (2, 2), (5, 5), (3, 3)] (And.intro hg1 (by show L.length - (g.j + 1) < L.length - g.j; omega)) ?_
              repeat' (refine N.go ?_; first | with_reducible refine N.obl (by decide) ?_ | with_reducible refine N.obl (flat_wi _ _ _) ?_ | with_reducible refine N.obl (flat_lim _ _) ?_ | with_reducible refine N.eq ?_ | with_reducible refine N.obl rfl ?_ | with_reducible refine N.obl ⟨by kernel_rfl, by kernel_rfl⟩ ?_ | with_reducible refine N.forkT ?_ | with_reducible refine N.forkF ?_ | refine N.obl (re_eq (int_eq (by rw [i64s ((g.j : Int) + 1) (by omega) (by omega)]; rfl)) rfl) ?_ | refine N.obl (re_eq (int_eq hlast.symm) rfl) ?_ | exact N.true | refine N.obl (.plain (by rfl)) ?_ | refine N.obl (.one (.ptr rfl)) ?_ | refine N.obl (.one (.slice rfl)) ?_ | refine N.obl (.one (.map rfl)) ?_ | refine N.obl (seg_same hl) ?_ | refine N.obl tbl_ren ?_ | refine N.obl map_ren ?_ | refine N.obl it_ren ?_ | refine N.obl (rl_ren rfl) ?_ | fail_if_success skip)
            · refine N.go ?_
              refine N.forkNo (by simpa using hj) ?_
              have hgl : g.j = L.length := by have := hg.1; omega
              have hgo : ∀ k, dGet g.D k = if k ∈ L then some 1 else none := fun k => by have := hg.2 k; rwa [hgl, List.take_length] at this
              repeat' (refine N.go ?_; first | with_reducible refine N.obl (by decide) ?_ | with_reducible refine N.obl (flat_wi _ _ _) ?_ | with_reducible refine N.obl (flat_lim _ _) ?_ | with_reducible refine N.eq ?_ | with_reducible refine N.obl rfl ?_ | with_reducible refine N.obl ⟨by kernel_rfl, by kernel_rfl⟩ ?_ | with_reducible refine N.forkT ?_ | with_reducible refine N.forkF ?_ | refine N.forkYes (by rw [decide_eq_true_eq]; omega) ?_ | refine N.forkNo (by rw [decide_eq_false_iff_not]; omega) ?_ | refine N.forkYes (by decide) ?_ | refine N.forkNo (by decide) ?_ | fail_if_success skip)
              refine N.go ?_
              refine N_range 2 encI q.D rfl (by rfl) (by rfl) Try.underlying41 fun r => ?_
              repeat' (refine N.go ?_; first | with_reducible refine N.obl (by decide) ?_ | with_reducible refine N.obl (flat_wi _ _ _) ?_ | with_reducible refine N.obl (flat_lim _ _) ?_ | with_reducible refine N.eq ?_ | with_reducible refine N.obl rfl ?_ | with_reducible refine N.obl ⟨by kernel_rfl, by kernel_rfl⟩ ?_ | with_reducible refine N.forkT ?_ | with_reducible refine N.forkF ?_ | refine N.forkYes (by rw [decide_eq_true_eq]; omega) ?_ | refine N.forkNo (by rw [decide_eq_false_iff_not]; omega) ?_ | refine N.forkYes (by decide) ?_ | refine N.forkNo (by decide) ?_ | fail_if_success skip)
              refine N.go ?_
              refine N.loopR (α := List Nat) (seenOK (q.D).length) (fun u => (q.D).length - u.length) (fun u => []) (fun u => [(1, tblC T2), (2, itC encI q.D u r)]) [] [(0, 0), (1, 1), (2, 2), (3, 3), (5, 5)] ⟨List.nodup_nil, fun j hj => (by cases hj), Nat.zero_le _⟩ ?_ ?_
              · repeat' (refine N.go ?_; first | with_reducible refine N.obl (by decide) ?_ | with_reducible refine N.obl (flat_wi _ _ _) ?_ | with_reducible refine N.obl (flat_lim _ _) ?_ | with_reducible refine N.eq ?_ | with_reducible refine N.obl rfl ?_ | with_reducible refine N.obl ⟨by kernel_rfl, by kernel_rfl⟩ ?_ | with_reducible refine N.forkT ?_ | with_reducible refine N.forkF ?_ | exact N.true | refine N.obl (.plain (by rfl)) ?_ | refine N.obl (.one (.ptr rfl)) ?_ | refine N.obl (.one (.slice rfl)) ?_ | refine N.obl (.one (.map rfl)) ?_ | refine N.obl (seg_same hl) ?_ | refine N.obl tbl_ren ?_ | refine N.obl map_ren ?_ | refine N.obl it_ren ?_ | refine N.obl (rl_ren rfl) ?_ | fail_if_success skip)
              · intro u hg
                refine N.go ?_
                refine N_next 2 encI q.D u rfl (by rfl) (by rfl) (fun _ => rfl) (fun _ => ?_) fun j k h hj hjs => ?_
                · repeat' (refine N.go ?_; first | with_reducible refine N.obl (by decide) ?_ | with_reducible refine N.obl (flat_wi _ _ _) ?_ | with_reducible refine N.obl (flat_lim _ _) ?_ | with_reducible refine N.eq ?_ | with_reducible refine N.obl rfl ?_ | with_reducible refine N.obl ⟨by kernel_rfl, by kernel_rfl⟩ ?_ | with_reducible refine N.forkT ?_ | with_reducible refine N.forkF ?_ | with_reducible refine N.call (cAwake _) ?_ | refine N.call (cHear T2 hT2.ok 3 0 200 now 0 T3 he3 1 _ (by rfl)) ?_ | refine N.call (cGetY T3 3 e3 he4 1 _ (by rfl)) ?_ | refine N.forkYes (by rw [decide_eq_true_eq]; omega) ?_ | refine N.forkNo (by rw [decide_eq_false_iff_not]; omega) ?_ | refine N.forkYes (by decide) ?_ | refine N.forkNo (by decide) ?_ | fail_if_success skip)
                  all_goals rfl
                · obtain ⟨hg2, hgl2⟩ := seen_step hg (List.getElem?_eq_some_iff.1 hj).1 hjs
                  have hDk : dGet q.D k = some h := dGet_mem hDn (List.mem_of_getElem? hj)
                  obtain ⟨hb1, hb2⟩ := hDb k h hDk
                  have hik := hgone k
                  repeat' (refine N.go ?_; first | with_reducible refine N.obl (by decide) ?_ | with_reducible refine N.obl (flat_wi _ _ _) ?_ | with_reducible refine N.obl (flat_lim _ _) ?_ | with_reducible refine N.eq ?_ | with_reducible refine N.obl rfl ?_ | with_reducible refine N.obl ⟨by kernel_rfl, by kernel_rfl⟩ ?_ | with_reducible refine N.forkT ?_ | with_reducible refine N.forkF ?_ | refine N.forkYes (by rw [decide_eq_true_eq]; omega) ?_ | refine N.forkNo (by rw [decide_eq_false_iff_not]; omega) ?_ | refine N.forkYes (by decide) ?_ | refine N.forkNo (by decide) ?_ | fail_if_success skip)
                  refine N.go ?_
                  refine N_entryI 2 encI q.D u j k h rfl (by rfl) (by rfl) hj rfl ?_
                  by_cases hkL : k ∈ L
                  · have hTk : dGet T2.E k = none := by rw [hget k, if_pos hkL]
                    have hgk : dGet g.D k = some 1 := by rw [hgo k, if_pos hkL]
                    obtain ⟨v0, hv1, hv2⟩ := hik.1 hkL
                    obtain rfl : v0 = h := by rw [hDk] at hv1; exact (Option.some.inj hv1).symm
                    repeat' (refine N.go ?_; first | with_reducible refine N.obl (by decide) ?_ | with_reducible refine N.obl (flat_wi _ _ _) ?_ | with_reducible refine N.obl (flat_lim _ _) ?_ | with_reducible refine N.eq ?_ | with_reducible refine N.obl rfl ?_ | with_reducible refine N.obl ⟨by kernel_rfl, by kernel_rfl⟩ ?_ | with_reducible refine N.forkT ?_ | with_reducible refine N.forkF ?_ | refine N.call (cGetN T2 k hTk 1 _ (by rfl)) ?_ | refine N.forkYes (by rw [decide_eq_true_eq]; omega) ?_ | refine N.forkNo (by rw [decide_eq_false_iff_not]; omega) ?_ | refine N.forkYes (by decide) ?_ | refine N.forkNo (by decide) ?_ | refine N.forkNo (by rw [i64s (v0 + s) (by omega) (by omega), decide_eq_false (by omega)]; rfl) ?_ | refine N_look encI _ (by with_reducible rfl) Try.underlying43 Try.underlying3 Try.type3 rfl (.int .i64 1) (by rw [hgk]; rfl) rfl ?_ | fail_if_success skip)
                    refine N.go ?_
                    refine N.nextR (α := List Nat) (u ++ [j]) [(0, 0), (1, 1), (2, 2), (3, 3), (5, 5)] (And.intro hg2 (by show (q.D).length - (u ++ [j]).length < (q.D).length - u.length; rw [List.length_append]; simp only [List.length_cons, List.length_nil] at hgl2 ⊢; omega)) ?_
                    repeat' (refine N.go ?_; first | with_reducible refine N.obl (by decide) ?_ | with_reducible refine N.obl (flat_wi _ _ _) ?_ | with_reducible refine N.obl (flat_lim _ _) ?_ | with_reducible refine N.eq ?_ | with_reducible refine N.obl rfl ?_ | with_reducible refine N.obl ⟨by kernel_rfl, by kernel_rfl⟩ ?_ | with_reducible refine N.forkT ?_ | with_reducible refine N.forkF ?_ | exact N.true | refine N.obl (.plain (by rfl)) ?_ | refine N.obl (.one (.ptr rfl)) ?_ | refine N.obl (.one (.slice rfl)) ?_ | refine N.obl (.one (.map rfl)) ?_ | refine N.obl (seg_same hl) ?_ | refine N.obl tbl_ren ?_ | refine N.obl map_ren ?_ | refine N.obl it_ren ?_ | refine N.obl (rl_ren rfl) ?_ | fail_if_success skip)
                  · have hng : ¬ h + s ≤ now := fun hh => hkL (hik.2 ⟨h, hDk, hh⟩)
                    have hTk : ∃ e, dGet T2.E k = some e := by
                      rw [hget k, if_neg hkL]
                      have := hDe k
                      rw [hDk] at this
                      cases hE : dGet (q.T).E k with
                      | none => rw [hE] at this; cases this
                      | some e => exact ⟨e, rfl⟩
                    obtain ⟨ek, hTk⟩ := hTk
                    have hgk : dGet g.D k = none := by rw [hgo k, if_neg hkL]
                    repeat' (refine N.go ?_; first | with_reducible refine N.obl (by decide) ?_ | with_reducible refine N.obl (flat_wi _ _ _) ?_ | with_reducible refine N.obl (flat_lim _ _) ?_ | with_reducible refine N.eq ?_ | with_reducible refine N.obl rfl ?_ | with_reducible refine N.obl ⟨by kernel_rfl, by kernel_rfl⟩ ?_ | with_reducible refine N.forkT ?_ | with_reducible refine N.forkF ?_ | refine N.call (cGetY T2 k ek hTk 1 _ (by rfl)) ?_ | refine N.forkYes (by rw [decide_eq_true_eq]; omega) ?_ | refine N.forkNo (by rw [decide_eq_false_iff_not]; omega) ?_ | refine N.forkYes (by decide) ?_ | refine N.forkNo (by decide) ?_ | refine N.forkNo (by rw [i64s (h + s) (by omega) (by omega), decide_eq_true (by omega)]; rfl) ?_ | refine N_look encI _ (by with_reducible rfl) Try.underlying43 Try.underlying3 Try.type3 rfl (.int .i64 0) (by rw [hgk]; rfl) rfl ?_ | fail_if_success skip)
                    refine N.go ?_
                    refine N.nextR (α := List Nat) (u ++ [j]) [(0, 0), (1, 1), (2, 2), (3, 3), (5, 5)] (And.intro hg2 (by show (q.D).length - (u ++ [j]).length < (q.D).length - u.length; rw [List.length_append]; simp only [List.length_cons, List.length_nil] at hgl2 ⊢; omega)) ?_
                    repeat' (refine N.go ?_; first | with_reducible refine N.obl (by decide) ?_ | with_reducible refine N.obl (flat_wi _ _ _) ?_ | with_reducible refine N.obl (flat_lim _ _) ?_ | with_reducible refine N.eq ?_ | with_reducible refine N.obl rfl ?_ | with_reducible refine N.obl ⟨by kernel_rfl, by kernel_rfl⟩ ?_ | with_reducible refine N.forkT ?_ | with_reducible refine N.forkF ?_ | exact N.true | refine N.obl (.plain (by rfl)) ?_ | refine N.obl (.one (.ptr rfl)) ?_ | refine N.obl (.one (.slice rfl)) ?_ | refine N.obl (.one (.map rfl)) ?_ | refine N.obl (seg_same hl) ?_ | refine N.obl tbl_ren ?_ | refine N.obl map_ren ?_ | refine N.obl it_ren ?_ | refine N.obl (rl_ren rfl) ?_ | fail_if_success skip)
    · refine N.go ?_
      refine N.forkNo (by simpa using hlt) ?_
      repeat' (refine N.go ?_; first | with_reducible refine N.obl (by decide) ?_ | with_reducible refine N.obl (flat_wi _ _ _) ?_ | with_reducible refine N.obl (flat_lim _ _) ?_ | with_reducible refine N.eq ?_ | with_reducible refine N.obl rfl ?_ | with_reducible refine N.obl ⟨by kernel_rfl, by kernel_rfl⟩ ?_ | with_reducible refine N.forkT ?_ | with_reducible refine N.forkF ?_ | refine N.forkYes (by rw [decide_eq_true_eq]; omega) ?_ | refine N.forkNo (by rw [decide_eq_false_iff_not]; omega) ?_ | refine N.forkYes (by decide) ?_ | refine N.forkNo (by decide) ?_ | fail_if_success skip)
      refine N.go ?_
      obtain ⟨c1, c2⟩ := u64mod c 60 (by decide) (by decide)
      generalize IntKind.i64.wrap ((IntKind.u64.wrap c).tmod 60) = cb at c1 c2 ⊢
      rw [i64s (q.t + cb) (by omega) (by omega)]
      have hnow : 0 ≤ q.t + cb ∧ q.t + cb ≤ 400 := by omega
      have hle : q.t ≤ q.t + cb := by omega
      generalize q.t + cb = now at hnow hle ⊢
      refine N_mkMap encI ?_
      repeat' (refine N.go ?_; first | with_reducible refine N.obl (by decide) ?_ | with_reducible refine N.obl (flat_wi _ _ _) ?_ | with_reducible refine N.obl (flat_lim _ _) ?_ | with_reducible refine N.eq ?_ | with_reducible refine N.obl rfl ?_ | with_reducible refine N.obl ⟨by kernel_rfl, by kernel_rfl⟩ ?_ | with_reducible refine N.forkT ?_ | with_reducible refine N.forkF ?_ | refine N.forkYes (by rw [decide_eq_true_eq]; omega) ?_ | refine N.forkNo (by rw [decide_eq_false_iff_not]; omega) ?_ | refine N.forkYes (by decide) ?_ | refine N.forkNo (by decide) ?_ | fail_if_success skip)
      refine N.go ?_
      have hgone := fun k => sil_gone (now := now) qs hs1 k
      have hL1 := evict_lt qs.st.ek now s
      have hget := fun k => evict_get qs.st.ek now s k
      have hmem := fun k => evict_mem (T := q.T) qs.st.ek now s k
      have hL0 : ∀ k ∈ evictL q.T now s, 0 ≤ k ∧ k < 16 := fun k hk => by
        obtain ⟨e, he, _⟩ := (hmem k).1 hk
        exact qs.st.ks k (by rw [he]; simp)
      have hT2 := silT_ev qs.st now s
      have hLw : ∀ k, k ∈ evictL q.T now s → ∃ v, dGet q.D k = some v ∧ v + s ≤ now ∧ 0 ≤ v := fun k hk => by
        obtain ⟨v, h1, h2⟩ := (hgone k).1 hk
        exact ⟨v, h1, h2, (qs.hb k v h1).1⟩
      have hLlen : (evictL q.T now s).length ≤ (q.T).E.length := by unfold evictL; exact evL_le _ _ _
      have hev : (q.T).E.length ≤ 64 := by have := qs.st.len; omega
      obtain ⟨T3, he3, hT3, ⟨e3, he4, _⟩, _⟩ := silT_hear (q := 200) (n := 3) (t := now) hT2 (by omega) (by omega) (by omega) (by decide) (by omega)
      have hDn := qs.dn
      have hDb := qs.hb
      have hDe := qs.he
      refine N.callAll (cEvict q.T hev now s (by omega) ⟨by omega, by omega⟩ 1 5 _ (by rfl) (by rfl)) fun v ms hR => ?_
      generalize hTv : (q.T).ev now s = T2 at hT2 he3 hget hR
      generalize hLv : evictL q.T now s = L at hLlen hgone hL1 hL0 hLw hR hget hmem
      rcases hR with ⟨hnil, rfl, rfl⟩ | ⟨cap, hp, hcap, rfl, rfl⟩
      · subst hnil
        repeat' (refine N.go ?_; first | with_reducible refine N.obl (by decide) ?_ | with_reducible refine N.obl (flat_wi _ _ _) ?_ | with_reducible refine N.obl (flat_lim _ _) ?_ | with_reducible refine N.eq ?_ | with_reducible refine N.obl rfl ?_ | with_reducible refine N.obl ⟨by kernel_rfl, by kernel_rfl⟩ ?_ | with_reducible refine N.forkT ?_ | with_reducible refine N.forkF ?_ | refine N.forkYes (by rw [decide_eq_true_eq]; omega) ?_ | refine N.forkNo (by rw [decide_eq_false_iff_not]; omega) ?_ | refine N.forkYes (by decide) ?_ | refine N.forkNo (by decide) ?_ | fail_if_success skip)
        refine N.go ?_
        refine N.roll 1 ?_
        repeat' (refine N.go ?_; first | with_reducible refine N.obl (by decide) ?_ | with_reducible refine N.obl (flat_wi _ _ _) ?_ | with_reducible refine N.obl (flat_lim _ _) ?_ | with_reducible refine N.eq ?_ | with_reducible refine N.obl rfl ?_ | with_reducible refine N.obl ⟨by kernel_rfl, by kernel_rfl⟩ ?_ | with_reducible refine N.forkT ?_ | with_reducible refine N.forkF ?_ | refine N.forkYes (by rw [decide_eq_true_eq]; omega) ?_ | refine N.forkNo (by rw [decide_eq_false_iff_not]; omega) ?_ | refine N.forkYes (by decide) ?_ | refine N.forkNo (by decide) ?_ | fail_if_success skip)
        refine N.go ?_
        have hgo : ∀ k, dGet ([] : List (Int × Int)) k = if k ∈ ([] : List Int) then some 1 else none := fun k => rfl
        repeat' (refine N.go ?_; first | with_reducible refine N.obl (by decide) ?_ | with_reducible refine N.obl (flat_wi _ _ _) ?_ | with_reducible refine N.obl (flat_lim _ _) ?_ | with_reducible refine N.eq ?_ | with_reducible refine N.obl rfl ?_ | with_reducible refine N.obl ⟨by kernel_rfl, by kernel_rfl⟩ ?_ | with_reducible refine N.forkT ?_ | with_reducible refine N.forkF ?_ | refine N.forkYes (by rw [decide_eq_true_eq]; omega) ?_ | refine N.forkNo (by rw [decide_eq_false_iff_not]; omega) ?_ | refine N.forkYes (by decide) ?_ | refine N.forkNo (by decide) ?_ | fail_if_success skip)
        refine N.go ?_
        refine N_range 2 encI q.D rfl (by rfl) (by rfl) Try.underlying41 fun r => ?_
        repeat' (refine N.go ?_; first | with_reducible refine N.obl (by decide) ?_ | with_reducible refine N.obl (flat_wi _ _ _) ?_ | with_reducible refine N.obl (flat_lim _ _) ?_ | with_reducible refine N.eq ?_ | with_reducible refine N.obl rfl ?_ | with_reducible refine N.obl ⟨by kernel_rfl, by kernel_rfl⟩ ?_ | with_reducible refine N.forkT ?_ | with_reducible refine N.forkF ?_ | refine N.forkYes (by rw [decide_eq_true_eq]; omega) ?_ | refine N.forkNo (by rw [decide_eq_false_iff_not]; omega) ?_ | refine N.forkYes (by decide) ?_ | refine N.forkNo (by decide) ?_ | fail_if_success skip)
        refine N.go ?_
        refine N.loopR (α := List Nat) (seenOK (q.D).length) (fun u => (q.D).length - u.length) (fun u => []) (fun u => [(1, tblC T2), (2, itC encI q.D u r)]) [] [(0, 0), (1, 1), (2, 2), (3, 3)] ⟨List.nodup_nil, fun j hj => (by cases hj), Nat.zero_le _⟩ ?_ ?_
        · repeat' (refine N.go ?_; first | with_reducible refine N.obl (by decide) ?_ | with_reducible refine N.obl (flat_wi _ _ _) ?_ | with_reducible refine N.obl (flat_lim _ _) ?_ | with_reducible refine N.eq ?_ | with_reducible refine N.obl rfl ?_ | with_reducible refine N.obl ⟨by kernel_rfl, by kernel_rfl⟩ ?_ | with_reducible refine N.forkT ?_ | with_reducible refine N.forkF ?_ | exact N.true | refine N.obl (.plain (by rfl)) ?_ | refine N.obl (.one (.ptr rfl)) ?_ | refine N.obl (.one (.slice rfl)) ?_ | refine N.obl (.one (.map rfl)) ?_ | refine N.obl (seg_same hl) ?_ | refine N.obl tbl_ren ?_ | refine N.obl map_ren ?_ | refine N.obl it_ren ?_ | refine N.obl (rl_ren rfl) ?_ | fail_if_success skip)
        · intro u hg
          refine N.go ?_
          refine N_next 2 encI q.D u rfl (by rfl) (by rfl) (fun _ => rfl) (fun _ => ?_) fun j k h hj hjs => ?_
          · repeat' (refine N.go ?_; first | with_reducible refine N.obl (by decide) ?_ | with_reducible refine N.obl (flat_wi _ _ _) ?_ | with_reducible refine N.obl (flat_lim _ _) ?_ | with_reducible refine N.eq ?_ | with_reducible refine N.obl rfl ?_ | with_reducible refine N.obl ⟨by kernel_rfl, by kernel_rfl⟩ ?_ | with_reducible refine N.forkT ?_ | with_reducible refine N.forkF ?_ | with_reducible refine N.call (cAwake _) ?_ | refine N.call (cHear T2 hT2.ok 3 0 200 now 0 T3 he3 1 _ (by rfl)) ?_ | refine N.call (cGetY T3 3 e3 he4 1 _ (by rfl)) ?_ | refine N.forkYes (by rw [decide_eq_true_eq]; omega) ?_ | refine N.forkNo (by rw [decide_eq_false_iff_not]; omega) ?_ | refine N.forkYes (by decide) ?_ | refine N.forkNo (by decide) ?_ | fail_if_success skip)
            all_goals rfl
          · obtain ⟨hg2, hgl2⟩ := seen_step hg (List.getElem?_eq_some_iff.1 hj).1 hjs
            have hDk : dGet q.D k = some h := dGet_mem hDn (List.mem_of_getElem? hj)
            obtain ⟨hb1, hb2⟩ := hDb k h hDk
            have hik := hgone k
            repeat' (refine N.go ?_; first | with_reducible refine N.obl (by decide) ?_ | with_reducible refine N.obl (flat_wi _ _ _) ?_ | with_reducible refine N.obl (flat_lim _ _) ?_ | with_reducible refine N.eq ?_ | with_reducible refine N.obl rfl ?_ | with_reducible refine N.obl ⟨by kernel_rfl, by kernel_rfl⟩ ?_ | with_reducible refine N.forkT ?_ | with_reducible refine N.forkF ?_ | refine N.forkYes (by rw [decide_eq_true_eq]; omega) ?_ | refine N.forkNo (by rw [decide_eq_false_iff_not]; omega) ?_ | refine N.forkYes (by decide) ?_ | refine N.forkNo (by decide) ?_ | fail_if_success skip)
            refine N.go ?_
            refine N_entryI 2 encI q.D u j k h rfl (by rfl) (by rfl) hj rfl ?_
            by_cases hkL : k ∈ ([] : List Int)
            · have hTk : dGet T2.E k = none := by rw [hget k, if_pos hkL]
              have hgk : dGet ([] : List (Int × Int)) k = some 1 := by rw [hgo k, if_pos hkL]
              obtain ⟨v0, hv1, hv2⟩ := hik.1 hkL
              obtain rfl : v0 = h := by rw [hDk] at hv1; exact (Option.some.inj hv1).symm
              repeat' (refine N.go ?_; first | with_reducible refine N.obl (by decide) ?_ | with_reducible refine N.obl (flat_wi _ _ _) ?_ | with_reducible refine N.obl (flat_lim _ _) ?_ | with_reducible refine N.eq ?_ | with_reducible refine N.obl rfl ?_ | with_reducible refine N.obl ⟨by kernel_rfl, by kernel_rfl⟩ ?_ | with_reducible refine N.forkT ?_ | with_reducible refine N.forkF ?_ | refine N.call (cGetN T2 k hTk 1 _ (by rfl)) ?_ | refine N.forkYes (by rw [decide_eq_true_eq]; omega) ?_ | refine N.forkNo (by rw [decide_eq_false_iff_not]; omega) ?_ | refine N.forkYes (by decide) ?_ | refine N.forkNo (by decide) ?_ | refine N.forkNo (by rw [i64s (v0 + s) (by omega) (by omega), decide_eq_false (by omega)]; rfl) ?_ | refine N_look encI _ (by with_reducible rfl) Try.underlying43 Try.underlying3 Try.type3 rfl (.int .i64 1) (by rw [hgk]; rfl) rfl ?_ | fail_if_success skip)
              refine N.go ?_
              refine N.nextR (α := List Nat) (u ++ [j]) [(0, 0), (1, 1), (2, 2), (3, 3)] (And.intro hg2 (by show (q.D).length - (u ++ [j]).length < (q.D).length - u.length; rw [List.length_append]; simp only [List.length_cons, List.length_nil] at hgl2 ⊢; omega)) ?_
              repeat' (refine N.go ?_; first | with_reducible refine N.obl (by decide) ?_ | with_reducible refine N.obl (flat_wi _ _ _) ?_ | with_reducible refine N.obl (flat_lim _ _) ?_ | with_reducible refine N.eq ?_ | with_reducible refine N.obl rfl ?_ | with_reducible refine N.obl ⟨by kernel_rfl, by kernel_rfl⟩ ?_ | with_reducible refine N.forkT ?_ | with_reducible refine N.forkF ?_ | exact N.true | refine N.obl (.plain (by rfl)) ?_ | refine N.obl (.one (.ptr rfl)) ?_ | refine N.obl (.one (.slice rfl)) ?_ | refine N.obl (.one (.map rfl)) ?_ | refine N.obl (seg_same hl) ?_ | refine N.obl tbl_ren ?_ | refine N.obl map_ren ?_ | refine N.obl it_ren ?_ | refine N.obl (rl_ren rfl) ?_ | fail_if_success skip)
            · have hng : ¬ h + s ≤ now := fun hh => hkL (hik.2 ⟨h, hDk, hh⟩)
              have hTk : ∃ e, dGet T2.E k = some e := by
                rw [hget k, if_neg hkL]
                have := hDe k
                rw [hDk] at this
                cases hE : dGet (q.T).E k with
                | none => rw [hE] at this; cases this
                | some e => exact ⟨e, rfl⟩
              obtain ⟨ek, hTk⟩ := hTk
              have hgk : dGet ([] : List (Int × Int)) k = none := by rw [hgo k, if_neg hkL]
              repeat' (refine N.go ?_; first | with_reducible refine N.obl (by decide) ?_ | with_reducible refine N.obl (flat_wi _ _ _) ?_ | with_reducible refine N.obl (flat_lim _ _) ?_ | with_reducible refine N.eq ?_ | with_reducible refine N.obl rfl ?_ | with_reducible refine N.obl ⟨by kernel_rfl, by kernel_rfl⟩ ?_ | with_reducible refine N.forkT ?_ | with_reducible refine N.forkF ?_ | refine N.call (cGetY T2 k ek hTk 1 _ (by rfl)) ?_ | refine N.forkYes (by rw [decide_eq_true_eq]; omega) ?_ | refine N.forkNo (by rw [decide_eq_false_iff_not]; omega) ?_ | refine N.forkYes (by decide) ?_ | refine N.forkNo (by decide) ?_ | refine N.forkNo (by rw [i64s (h + s) (by omega) (by omega), decide_eq_true (by omega)]; rfl) ?_ | refine N_look encI _ (by with_reducible rfl) Try.underlying43 Try.underlying3 Try.type3 rfl (.int .i64 0) (by rw [hgk]; rfl) rfl ?_ | fail_if_success skip)
              refine N.go ?_
              refine N.nextR (α := List Nat) (u ++ [j]) [(0, 0), (1, 1), (2, 2), (3, 3)] (And.intro hg2 (by show (q.D).length - (u ++ [j]).length < (q.D).length - u.length; rw [List.length_append]; simp only [List.length_cons, List.length_nil] at hgl2 ⊢; omega)) ?_
              repeat' (refine N.go ?_; first | with_reducible refine N.obl (by decide) ?_ | with_reducible refine N.obl (flat_wi _ _ _) ?_ | with_reducible refine N.obl (flat_lim _ _) ?_ | with_reducible refine N.eq ?_ | with_reducible refine N.obl rfl ?_ | with_reducible refine N.obl ⟨by kernel_rfl, by kernel_rfl⟩ ?_ | with_reducible refine N.forkT ?_ | with_reducible refine N.forkF ?_ | exact N.true | refine N.obl (.plain (by rfl)) ?_ | refine N.obl (.one (.ptr rfl)) ?_ | refine N.obl (.one (.slice rfl)) ?_ | refine N.obl (.one (.map rfl)) ?_ | refine N.obl (seg_same hl) ?_ | refine N.obl tbl_ren ?_ | refine N.obl map_ren ?_ | refine N.obl it_ren ?_ | refine N.obl (rl_ren rfl) ?_ | fail_if_success skip)
      · repeat' (refine N.go ?_; first | with_reducible refine N.obl (by decide) ?_ | with_reducible refine N.obl (flat_wi _ _ _) ?_ | with_reducible refine N.obl (flat_lim _ _) ?_ | with_reducible refine N.eq ?_ | with_reducible refine N.obl rfl ?_ | with_reducible refine N.obl ⟨by kernel_rfl, by kernel_rfl⟩ ?_ | with_reducible refine N.forkT ?_ | with_reducible refine N.forkF ?_ | refine N.forkYes (by rw [decide_eq_true_eq]; omega) ?_ | refine N.forkNo (by rw [decide_eq_false_iff_not]; omega) ?_ | refine N.forkYes (by decide) ?_ | refine N.forkNo (by decide) ?_ | fail_if_success skip)
        refine N.go ?_
        refine N.loopR (α := GS) (GS.ok L) (fun g => L.length - g.j) (fun g => [(69, .int .i64 (g.j : Int)), (13, .int .i64 (lastV L g.j))]) (fun g => [(1, tblC T2), (2, mapC encI q.D), (3, mapC encI g.D), (5, rl L cap)]) ⟨0, []⟩ [(0, 0), (1, 1), (2, 2), (5, 5), (3, 3)] ⟨Nat.zero_le _, fun k => rfl⟩ ?_ ?_
        · repeat' (refine N.go ?_; first | with_reducible refine N.obl (by decide) ?_ | with_reducible refine N.obl (flat_wi _ _ _) ?_ | with_reducible refine N.obl (flat_lim _ _) ?_ | with_reducible refine N.eq ?_ | with_reducible refine N.obl rfl ?_ | with_reducible refine N.obl ⟨by kernel_rfl, by kernel_rfl⟩ ?_ | with_reducible refine N.forkT ?_ | with_reducible refine N.forkF ?_ | exact N.true | refine N.obl (.plain (by rfl)) ?_ | refine N.obl (.one (.ptr rfl)) ?_ | refine N.obl (.one (.slice rfl)) ?_ | refine N.obl (.one (.map rfl)) ?_ | refine N.obl (seg_same hl) ?_ | refine N.obl tbl_ren ?_ | refine N.obl map_ren ?_ | refine N.obl it_ren ?_ | refine N.obl (rl_ren rfl) ?_ | fail_if_success skip)
        · intro g hg
          by_cases hj : g.j < L.length
          · have hLj : L.getD g.j 0 ∈ L := by
              have e : L.getD g.j 0 = L[g.j] := by simp [List.getD_eq_getElem?_getD, hj]
              rw [e]; exact List.getElem_mem hj
            obtain ⟨v, hv1, hv2, hv3⟩ := hLw _ hLj
            have hlt := lastV_lt hL1 (fun k hk => (hL0 k hk).1) hj
            obtain ⟨hg0, hg1⟩ := gs_step hL1 hg hj
            have hkb := hL0 _ hLj
            have hlast : lastV L (g.j + 1) = L.getD g.j 0 := by unfold lastV; rw [if_neg (by omega)]; rfl
            have hjl : g.j < 9000000000000000000 := by
              have := hLlen; omega
            refine N.go ?_
            refine N.forkYes (by simpa using hj) ?_
            refine N.go ?_
            refine N.idx g.j 1 rfl hj ?_
            refine N.go ?_
            refine N.load _ (rd1 g.j rfl (by omega) (by first | rfl | omega)) ?_
            repeat' (refine N.go ?_; first | with_reducible refine N.obl (by decide) ?_ | with_reducible refine N.obl (flat_wi _ _ _) ?_ | with_reducible refine N.obl (flat_lim _ _) ?_ | with_reducible refine N.eq ?_ | with_reducible refine N.obl rfl ?_ | with_reducible refine N.obl ⟨by kernel_rfl, by kernel_rfl⟩ ?_ | with_reducible refine N.forkT ?_ | with_reducible refine N.forkF ?_ | refine N.forkNo (by rw [decide_eq_false_iff_not]; omega) ?_ | refine N_look encI q.D (by with_reducible rfl) Try.underlying41 Try.underlying3 Try.type2 rfl (.int .i64 v) (by rw [hv1]; rfl) rfl ?_ | refine N.forkNo (by rw [decide_eq_false_iff_not, i64s (v + s) (by omega) (by omega)]; omega) ?_ | refine N_look encI g.D (by with_reducible rfl) Try.underlying43 Try.underlying3 Try.type3 rfl (.int .i64 0) (by rw [hg0]; rfl) rfl ?_ | refine N_put encI g.D 1 (by with_reducible rfl) rfl ⟨by omega, by omega⟩ rfl Try.underlying43 Try.underlying3 ?_ | fail_if_success skip)
            refine N.go ?_
            refine N.nextR (α := GS) ⟨g.j + 1, dPut g.D (L.getD g.j 0) 1⟩ [(0, 0), (1, 1), (2, 2), (5, 5), (3, 3)] (And.intro hg1 (by show L.length - (g.j + 1) < L.length - g.j; omega)) ?_
            repeat' (refine N.go ?_; first | with_reducible refine N.obl (by decide) ?_ | with_reducible refine N.obl (flat_wi _ _ _) ?_ | with_reducible refine N.obl (flat_lim _ _) ?_ | with_reducible refine N.eq ?_ | with_reducible refine N.obl rfl ?_ | with_reducible refine N.obl ⟨by kernel_rfl, by kernel_rfl⟩ ?_ | with_reducible refine N.forkT ?_ | with_reducible refine N.forkF ?_ | refine N.obl (re_eq (int_eq (by rw [i64s ((g.j : Int) + 1) (by omega) (by omega)]; rfl)) rfl) ?_ | refine N.obl (re_eq (int_eq hlast.symm) rfl) ?_ | exact N.true | refine N.obl (.plain (by rfl)) ?_ | refine N.obl (.one (.ptr rfl)) ?_ | refine N.obl (.one (.slice rfl)) ?_ | refine N.obl (.one (.map rfl)) ?_ | refine N.obl (seg_same hl) ?_ | refine N.obl tbl_ren ?_ | refine N.obl map_ren ?_ | refine N.obl it_ren ?_ | refine N.obl (rl_ren rfl) ?_ | fail_if_success skip)
          · refine N.go ?_
            refine N.forkNo (by simpa using hj) ?_
            have hgl : g.j = L.length := by have := hg.1; omega
            have hgo : ∀ k, dGet g.D k = if k ∈ L then some 1 else none := fun k => by have := hg.2 k; rwa [hgl, List.take_length] at this
            repeat' (refine N.go ?_; first | with_reducible refine N.obl (by decide) ?_ | with_reducible refine N.obl (flat_wi _ _ _) ?_ | with_reducible refine N.obl (flat_lim _ _) ?_ | with_reducible refine N.eq ?_ | with_reducible refine N.obl rfl ?_ | with_reducible refine N.obl ⟨by kernel_rfl, by kernel_rfl⟩ ?_ | with_reducible refine N.forkT ?_ | with_reducible refine N.forkF ?_ | refine N.forkYes (by rw [decide_eq_true_eq]; omega) ?_ | refine N.forkNo (by rw [decide_eq_false_iff_not]; omega) ?_ | refine N.forkYes (by decide) ?_ | refine N.forkNo (by decide) ?_ | fail_if_success skip)
            refine N.go ?_
            refine N_range 2 encI q.D rfl (by rfl) (by rfl) Try.underlying41 fun r => ?_
            repeat' (refine N.go ?_; first | with_reducible refine N.obl (by decide) ?_ | with_reducible refine N.obl (flat_wi _ _ _) ?_ | with_reducible refine N.obl (flat_lim _ _) ?_ | with_reducible refine N.eq ?_ | with_reducible refine N.obl rfl ?_ | with_reducible refine N.obl ⟨by kernel_rfl, by kernel_rfl⟩ ?_ | with_reducible refine N.forkT ?_ | with_reducible refine N.forkF ?_ | refine N.forkYes (by rw [decide_eq_true_eq]; omega) ?_ | refine N.forkNo (by rw [decide_eq_false_iff_not]; omega) ?_ | refine N.forkYes (by decide) ?_ | refine N.forkNo (by decide) ?_ | fail_if_success skip)
            refine N.go ?_
            refine N.loopR (α := List Nat) (seenOK (q.D).length) (fun u => (q.D).length - u.length) (fun u => []) (fun u => [(1, tblC T2), (2, itC encI q.D u r)]) [] [(0, 0), (1, 1), (2, 2), (3, 3), (5, 5)] ⟨List.nodup_nil, fun j hj => (by cases hj), Nat.zero_le _⟩ ?_ ?_
            · repeat' (refine N.go ?_; first | with_reducible refine N.obl (by decide) ?_ | with_reducible refine N.obl (flat_wi _ _ _) ?_ | with_reducible refine N.obl (flat_lim _ _) ?_ | with_reducible refine N.eq ?_ | with_reducible refine N.obl rfl ?_ | with_reducible refine N.obl ⟨by kernel_rfl, by kernel_rfl⟩ ?_ | with_reducible refine N.forkT ?_ | with_reducible refine N.forkF ?_ | exact N.true | refine N.obl (.plain (by rfl)) ?_ | refine N.obl (.one (.ptr rfl)) ?_ | refine N.obl (.one (.slice rfl)) ?_ | refine N.obl (.one (.map rfl)) ?_ | refine N.obl (seg_same hl) ?_ | refine N.obl tbl_ren ?_ | refine N.obl map_ren ?_ | refine N.obl it_ren ?_ | refine N.obl (rl_ren rfl) ?_ | fail_if_success skip)
            · intro u hg
              refine N.go ?_
              refine N_next 2 encI q.D u rfl (by rfl) (by rfl) (fun _ => rfl) (fun _ => ?_) fun j k h hj hjs => ?_
              · repeat' (refine N.go ?_; first | with_reducible refine N.obl (by decide) ?_ | with_reducible refine N.obl (flat_wi _ _ _) ?_ | with_reducible refine N.obl (flat_lim _ _) ?_ | with_reducible refine N.eq ?_ | with_reducible refine N.obl rfl ?_ | with_reducible refine N.obl ⟨by kernel_rfl, by kernel_rfl⟩ ?_ | with_reducible refine N.forkT ?_ | with_reducible refine N.forkF ?_ | with_reducible refine N.call (cAwake _) ?_ | refine N.call (cHear T2 hT2.ok 3 0 200 now 0 T3 he3 1 _ (by rfl)) ?_ | refine N.call (cGetY T3 3 e3 he4 1 _ (by rfl)) ?_ | refine N.forkYes (by rw [decide_eq_true_eq]; omega) ?_ | refine N.forkNo (by rw [decide_eq_false_iff_not]; omega) ?_ | refine N.forkYes (by decide) ?_ | refine N.forkNo (by decide) ?_ | fail_if_success skip)
                all_goals rfl
              · obtain ⟨hg2, hgl2⟩ := seen_step hg (List.getElem?_eq_some_iff.1 hj).1 hjs
                have hDk : dGet q.D k = some h := dGet_mem hDn (List.mem_of_getElem? hj)
                obtain ⟨hb1, hb2⟩ := hDb k h hDk
                have hik := hgone k
                repeat' (refine N.go ?_; first | with_reducible refine N.obl (by decide) ?_ | with_reducible refine N.obl (flat_wi _ _ _) ?_ | with_reducible refine N.obl (flat_lim _ _) ?_ | with_reducible refine N.eq ?_ | with_reducible refine N.obl rfl ?_ | with_reducible refine N.obl ⟨by kernel_rfl, by kernel_rfl⟩ ?_ | with_reducible refine N.forkT ?_ | with_reducible refine N.forkF ?_ | refine N.forkYes (by rw [decide_eq_true_eq]; omega) ?_ | refine N.forkNo (by rw [decide_eq_false_iff_not]; omega) ?_ | refine N.forkYes (by decide) ?_ | refine N.forkNo (by decide) ?_ | fail_if_success skip)
                refine N.go ?_
                refine N_entryI 2 encI q.D u j k h rfl (by rfl) (by rfl) hj rfl ?_
                by_cases hkL : k ∈ L
                · have hTk : dGet T2.E k = none := by rw [hget k, if_pos hkL]
                  have hgk : dGet g.D k = some 1 := by rw [hgo k, if_pos hkL]
                  obtain ⟨v0, hv1, hv2⟩ := hik.1 hkL
                  obtain rfl : v0 = h := by rw [hDk] at hv1; exact (Option.some.inj hv1).symm
                  repeat' (refine N.go ?_; first | with_reducible refine N.obl (by decide) ?_ | with_reducible refine N.obl (flat_wi _ _ _) ?_ | with_reducible refine N.obl (flat_lim _ _) ?_ | with_reducible refine N.eq ?_ | with_reducible refine N.obl rfl ?_ | with_reducible refine N.obl ⟨by kernel_rfl, by kernel_rfl⟩ ?_ | with_reducible refine N.forkT ?_ | with_reducible refine N.forkF ?_ | refine N.call (cGetN T2 k hTk 1 _ (by rfl)) ?_ | refine N.forkYes (by rw [decide_eq_true_eq]; omega) ?_ | refine N.forkNo (by rw [decide_eq_false_iff_not]; omega) ?_ | refine N.forkYes (by decide) ?_ | refine N.forkNo (by decide) ?_ | refine N.forkNo (by rw [i64s (v0 + s) (by omega) (by omega), decide_eq_false (by omega)]; rfl) ?_ | refine N_look encI _ (by with_reducible rfl) Try.underlying43 Try.underlying3 Try.type3 rfl (.int .i64 1) (by rw [hgk]; rfl) rfl ?_ | fail_if_success skip)
                  refine N.go ?_
                  refine N.nextR (α := List Nat) (u ++ [j]) [(0, 0), (1, 1), (2, 2), (3, 3), (5, 5)] (And.intro hg2 (by show (q.D).length - (u ++ [j]).length < (q.D).length - u.length; rw [List.length_append]; simp only [List.length_cons, List.length_nil] at hgl2 ⊢; omega)) ?_
                  repeat' (refine N.go ?_; first | with_reducible refine N.obl (by decide) ?_ | with_reducible refine N.obl (flat_wi _ _ _) ?_ | with_reducible refine N.obl (flat_lim _ _) ?_ | with_reducible refine N.eq ?_ | with_reducible refine N.obl rfl ?_ | with_reducible refine N.obl ⟨by kernel_rfl, by kernel_rfl⟩ ?_ | with_reducible refine N.forkT ?_ | with_reducible refine N.forkF ?_ | exact N.true | refine N.obl (.plain (by rfl)) ?_ | refine N.obl (.one (.ptr rfl)) ?_ | refine N.obl (.one (.slice rfl)) ?_ | refine N.obl (.one (.map rfl)) ?_ | refine N.obl (seg_same hl) ?_ | refine N.obl tbl_ren ?_ | refine N.obl map_ren ?_ | refine N.obl it_ren ?_ | refine N.obl (rl_ren rfl) ?_ | fail_if_success skip)
                · have hng : ¬ h + s ≤ now := fun hh => hkL (hik.2 ⟨h, hDk, hh⟩)
                  have hTk : ∃ e, dGet T2.E k = some e := by
                    rw [hget k, if_neg hkL]
                    have := hDe k
                    rw [hDk] at this
                    cases hE : dGet (q.T).E k with
                    | none => rw [hE] at this; cases this
                    | some e => exact ⟨e, rfl⟩
                  obtain ⟨ek, hTk⟩ := hTk
                  have hgk : dGet g.D k = none := by rw [hgo k, if_neg hkL]
                  repeat' (refine N.go ?_; first | with_reducible refine N.obl (by decide) ?_ | with_reducible refine N.obl (flat_wi _ _ _) ?_ | with_reducible refine N.obl (flat_lim _ _) ?_ | with_reducible refine N.eq ?_ | with_reducible refine N.obl rfl ?_ | with_reducible refine N.obl ⟨by kernel_rfl, by kernel_rfl⟩ ?_ | with_reducible refine N.forkT ?_ | with_reducible refine N.forkF ?_ | refine N.call (cGetY T2 k ek hTk 1 _ (by rfl)) ?_ | refine N.forkYes (by rw [decide_eq_true_eq]; omega) ?_ | refine N.forkNo (by rw [decide_eq_false_iff_not]; omega) ?_ | refine N.forkYes (by decide) ?_ | refine N.forkNo (by decide) ?_ | refine N.forkNo (by rw [i64s (h + s) (by omega) (by omega), decide_eq_true (by omega)]; rfl) ?_ | refine N_look encI _ (by with_reducible rfl) Try.underlying43 Try.underlying3 Try.type3 rfl (.int .i64 0) (by rw [hgk]; rfl) rfl ?_ | fail_if_success skip)
                  refine N.go ?_
                  refine N.nextR (α := List Nat) (u ++ [j]) [(0, 0), (1, 1), (2, 2), (3, 3), (5, 5)] (And.intro hg2 (by show (q.D).length - (u ++ [j]).length < (q.D).length - u.length; rw [List.length_append]; simp only [List.length_cons, List.length_nil] at hgl2 ⊢; omega)) ?_
                  repeat' (refine N.go ?_; first | with_reducible refine N.obl (by decide) ?_ | with_reducible refine N.obl (flat_wi _ _ _) ?_ | with_reducible refine N.obl (flat_lim _ _) ?_ | with_reducible refine N.eq ?_ | with_reducible refine N.obl rfl ?_ | with_reducible refine N.obl ⟨by kernel_rfl, by kernel_rfl⟩ ?_ | with_reducible refine N.forkT ?_ | with_reducible refine N.forkF ?_ | exact N.true | refine N.obl (.plain (by rfl)) ?_ | refine N.obl (.one (.ptr rfl)) ?_ | refine N.obl (.one (.slice rfl)) ?_ | refine N.obl (.one (.map rfl)) ?_ | refine N.obl (seg_same hl) ?_ | refine N.obl tbl_ren ?_ | refine N.obl map_ren ?_ | refine N.obl it_ren ?_ | refine N.obl (rl_ren rfl) ?_ | fail_if_success skip)
set_option maxRecDepth 100000 in
set_option maxHeartbeats 4000000 in
theorem walk0 (b c : Int) (w : World) :
    Calls Try.prog 4 #[.slice none 0 0, .int .i64 b, .int .i64 c] w fun e w' => e = .returned (.bool true) ∧ Below w.heap.size w w' := by
  obtain ⟨n1, n2⟩ := u64mod b 30 (by decide) (by decide)
  refine calls_pure (G := tys) w tysOK mixed Try.func4 (by rfl) (by rfl) (by rfl) ?_
  repeat' (refine N.go ?_; first | with_reducible refine N.obl (by decide) ?_ | with_reducible refine N.obl (flat_wi _ _ _) ?_ | with_reducible refine N.obl (flat_lim _ _) ?_ | with_reducible refine N.eq ?_ | with_reducible refine N.obl rfl ?_ | with_reducible refine N.obl ⟨by kernel_rfl, by kernel_rfl⟩ ?_ | with_reducible refine N.forkT ?_ | with_reducible refine N.forkF ?_ | refine N.forkYes (by rw [decide_eq_true_eq]; omega) ?_ | refine N.forkNo (by rw [decide_eq_false_iff_not]; omega) ?_ | refine N.forkYes (by decide) ?_ | refine N.forkNo (by decide) ?_ | fail_if_success skip)
  refine N.go ?_
  generalize IntKind.i64.wrap ((IntKind.u64.wrap b).tmod 30) = sb at n1 n2 ⊢
  rw [i64s (1 + sb) (by omega) (by omega)]
  have hs1 : 1 ≤ 1 + sb := by omega
  have hs2 : 1 + sb ≤ 30 := by omega
  generalize 1 + sb = s at hs1 hs2 ⊢
  refine N.call (cNewT 64 0 _ (by rfl)) ?_
  repeat' (refine N.go ?_; first | with_reducible refine N.obl (by decide) ?_ | with_reducible refine N.obl (flat_wi _ _ _) ?_ | with_reducible refine N.obl (flat_lim _ _) ?_ | with_reducible refine N.eq ?_ | with_reducible refine N.obl rfl ?_ | with_reducible refine N.obl ⟨by kernel_rfl, by kernel_rfl⟩ ?_ | with_reducible refine N.forkT ?_ | with_reducible refine N.forkF ?_ | refine N.forkYes (by rw [decide_eq_true_eq]; omega) ?_ | refine N.forkNo (by rw [decide_eq_false_iff_not]; omega) ?_ | refine N.forkYes (by decide) ?_ | refine N.forkNo (by decide) ?_ | fail_if_success skip)
  refine N.go ?_
  refine N_mkMap encI ?_
  repeat' (refine N.go ?_; first | with_reducible refine N.obl (by decide) ?_ | with_reducible refine N.obl (flat_wi _ _ _) ?_ | with_reducible refine N.obl (flat_lim _ _) ?_ | with_reducible refine N.eq ?_ | with_reducible refine N.obl rfl ?_ | with_reducible refine N.obl ⟨by kernel_rfl, by kernel_rfl⟩ ?_ | with_reducible refine N.forkT ?_ | with_reducible refine N.forkF ?_ | refine N.forkYes (by rw [decide_eq_true_eq]; omega) ?_ | refine N.forkNo (by rw [decide_eq_false_iff_not]; omega) ?_ | refine N.forkYes (by decide) ?_ | refine N.forkNo (by decide) ?_ | fail_if_success skip)
  refine N.go ?_
  refine N.roll 1 ?_
  have hl : True := trivial
  repeat' (refine N.go ?_; first | with_reducible refine N.obl (by decide) ?_ | with_reducible refine N.obl (flat_wi _ _ _) ?_ | with_reducible refine N.obl (flat_lim _ _) ?_ | with_reducible refine N.eq ?_ | with_reducible refine N.obl rfl ?_ | with_reducible refine N.obl ⟨by kernel_rfl, by kernel_rfl⟩ ?_ | with_reducible refine N.forkT ?_ | with_reducible refine N.forkF ?_ | refine N.forkYes (by rw [decide_eq_true_eq]; omega) ?_ | refine N.forkNo (by rw [decide_eq_false_iff_not]; omega) ?_ | refine N.forkYes (by decide) ?_ | refine N.forkNo (by decide) ?_ | fail_if_success skip)
  refine N.go ?_
  obtain ⟨c1, c2⟩ := u64mod c 60 (by decide) (by decide)
  generalize IntKind.i64.wrap ((IntKind.u64.wrap c).tmod 60) = cb at c1 c2 ⊢
  rw [i64s (0 + cb) (by omega) (by omega)]
  have hnow : 0 ≤ 0 + cb ∧ 0 + cb ≤ 400 := by omega
  have hle : 0 ≤ 0 + cb := by omega
  generalize 0 + cb = now at hnow hle ⊢
  refine N_mkMap encI ?_
  repeat' (refine N.go ?_; first | with_reducible refine N.obl (by decide) ?_ | with_reducible refine N.obl (flat_wi _ _ _) ?_ | with_reducible refine N.obl (flat_lim _ _) ?_ | with_reducible refine N.eq ?_ | with_reducible refine N.obl rfl ?_ | with_reducible refine N.obl ⟨by kernel_rfl, by kernel_rfl⟩ ?_ | with_reducible refine N.forkT ?_ | with_reducible refine N.forkF ?_ | refine N.forkYes (by rw [decide_eq_true_eq]; omega) ?_ | refine N.forkNo (by rw [decide_eq_false_iff_not]; omega) ?_ | refine N.forkYes (by decide) ?_ | refine N.forkNo (by decide) ?_ | fail_if_success skip)
  refine N.go ?_
  have hgone := fun k => sil_gone (now := now) sil_new hs1 k
  have hL1 := evict_lt sil_new.st.ek now s
  have hget := fun k => evict_get sil_new.st.ek now s k
  have hmem := fun k => evict_mem (T := (Tbl.new 64)) sil_new.st.ek now s k
  have hL0 : ∀ k ∈ evictL (Tbl.new 64) now s, 0 ≤ k ∧ k < 16 := fun k hk => by
    obtain ⟨e, he, _⟩ := (hmem k).1 hk
    exact sil_new.st.ks k (by rw [he]; simp)
  have hT2 := silT_ev sil_new.st now s
  have hLw : ∀ k, k ∈ evictL (Tbl.new 64) now s → ∃ v, dGet ([] : List (Int × Int)) k = some v ∧ v + s ≤ now ∧ 0 ≤ v := fun k hk => by
    obtain ⟨v, h1, h2⟩ := (hgone k).1 hk
    exact ⟨v, h1, h2, (sil_new.hb k v h1).1⟩
  have hLlen : (evictL (Tbl.new 64) now s).length ≤ ((Tbl.new 64)).E.length := by unfold evictL; exact evL_le _ _ _
  have hev : ((Tbl.new 64)).E.length ≤ 64 := by have := sil_new.st.len; omega
  obtain ⟨T3, he3, hT3, ⟨e3, he4, _⟩, _⟩ := silT_hear (q := 200) (n := 3) (t := now) hT2 (by omega) (by omega) (by omega) (by decide) (by omega)
  have hDn := sil_new.dn
  have hDb := sil_new.hb
  have hDe := sil_new.he
  refine N.callAll (cEvict (Tbl.new 64) hev now s (by omega) ⟨by omega, by omega⟩ 0 4 _ (by rfl) (by rfl)) fun v ms hR => ?_
  generalize hTv : ((Tbl.new 64)).ev now s = T2 at hT2 he3 hget hR
  generalize hLv : evictL (Tbl.new 64) now s = L at hLlen hgone hL1 hL0 hLw hR hget hmem
  rcases hR with ⟨hnil, rfl, rfl⟩ | ⟨cap, hp, hcap, rfl, rfl⟩
  · subst hnil
    repeat' (refine N.go ?_; first | with_reducible refine N.obl (by decide) ?_ | with_reducible refine N.obl (flat_wi _ _ _) ?_ | with_reducible refine N.obl (flat_lim _ _) ?_ | with_reducible refine N.eq ?_ | with_reducible refine N.obl rfl ?_ | with_reducible refine N.obl ⟨by kernel_rfl, by kernel_rfl⟩ ?_ | with_reducible refine N.forkT ?_ | with_reducible refine N.forkF ?_ | refine N.forkYes (by rw [decide_eq_true_eq]; omega) ?_ | refine N.forkNo (by rw [decide_eq_false_iff_not]; omega) ?_ | refine N.forkYes (by decide) ?_ | refine N.forkNo (by decide) ?_ | fail_if_success skip)
    refine N.go ?_
    refine N.roll 1 ?_
    repeat' (refine N.go ?_; first | with_reducible refine N.obl (by decide) ?_ | with_reducible refine N.obl (flat_wi _ _ _) ?_ | with_reducible refine N.obl (flat_lim _ _) ?_ | with_reducible refine N.eq ?_ | with_reducible refine N.obl rfl ?_ | with_reducible refine N.obl ⟨by kernel_rfl, by kernel_rfl⟩ ?_ | with_reducible refine N.forkT ?_ | with_reducible refine N.forkF ?_ | refine N.forkYes (by rw [decide_eq_true_eq]; omega) ?_ | refine N.forkNo (by rw [decide_eq_false_iff_not]; omega) ?_ | refine N.forkYes (by decide) ?_ | refine N.forkNo (by decide) ?_ | fail_if_success skip)
    refine N.go ?_
    have hgo : ∀ k, dGet ([] : List (Int × Int)) k = if k ∈ ([] : List Int) then some 1 else none := fun k => rfl
    repeat' (refine N.go ?_; first | with_reducible refine N.obl (by decide) ?_ | with_reducible refine N.obl (flat_wi _ _ _) ?_ | with_reducible refine N.obl (flat_lim _ _) ?_ | with_reducible refine N.eq ?_ | with_reducible refine N.obl rfl ?_ | with_reducible refine N.obl ⟨by kernel_rfl, by kernel_rfl⟩ ?_ | with_reducible refine N.forkT ?_ | with_reducible refine N.forkF ?_ | refine N.forkYes (by rw [decide_eq_true_eq]; omega) ?_ | refine N.forkNo (by rw [decide_eq_false_iff_not]; omega) ?_ | refine N.forkYes (by decide) ?_ | refine N.forkNo (by decide) ?_ | fail_if_success skip)
    refine N.go ?_
    refine N_range 1 encI ([] : List (Int × Int)) rfl (by rfl) (by rfl) Try.underlying41 fun r => ?_
    repeat' (refine N.go ?_; first | with_reducible refine N.obl (by decide) ?_ | with_reducible refine N.obl (flat_wi _ _ _) ?_ | with_reducible refine N.obl (flat_lim _ _) ?_ | with_reducible refine N.eq ?_ | with_reducible refine N.obl rfl ?_ | with_reducible refine N.obl ⟨by kernel_rfl, by kernel_rfl⟩ ?_ | with_reducible refine N.forkT ?_ | with_reducible refine N.forkF ?_ | refine N.forkYes (by rw [decide_eq_true_eq]; omega) ?_ | refine N.forkNo (by rw [decide_eq_false_iff_not]; omega) ?_ | refine N.forkYes (by decide) ?_ | refine N.forkNo (by decide) ?_ | fail_if_success skip)
    refine N.go ?_
    refine N.loopR (α := List Nat) (seenOK (([] : List (Int × Int))).length) (fun u => (([] : List (Int × Int))).length - u.length) (fun u => []) (fun u => [(0, tblC T2), (1, itC encI ([] : List (Int × Int)) u r)]) [] [(0, 0), (1, 1), (2, 2)] ⟨List.nodup_nil, fun j hj => (by cases hj), Nat.zero_le _⟩ ?_ ?_
    · repeat' (refine N.go ?_; first | with_reducible refine N.obl (by decide) ?_ | with_reducible refine N.obl (flat_wi _ _ _) ?_ | with_reducible refine N.obl (flat_lim _ _) ?_ | with_reducible refine N.eq ?_ | with_reducible refine N.obl rfl ?_ | with_reducible refine N.obl ⟨by kernel_rfl, by kernel_rfl⟩ ?_ | with_reducible refine N.forkT ?_ | with_reducible refine N.forkF ?_ | exact N.true | refine N.obl (.plain (by rfl)) ?_ | refine N.obl (.one (.ptr rfl)) ?_ | refine N.obl (.one (.slice rfl)) ?_ | refine N.obl (.one (.map rfl)) ?_ | fail_if_success skip | refine N.obl tbl_ren ?_ | refine N.obl map_ren ?_ | refine N.obl it_ren ?_ | refine N.obl (rl_ren rfl) ?_ | fail_if_success skip)
    · intro u hg
      refine N.go ?_
      refine N_next 1 encI ([] : List (Int × Int)) u rfl (by rfl) (by rfl) (fun _ => rfl) (fun _ => ?_) fun j k h hj hjs => ?_
      · repeat' (refine N.go ?_; first | with_reducible refine N.obl (by decide) ?_ | with_reducible refine N.obl (flat_wi _ _ _) ?_ | with_reducible refine N.obl (flat_lim _ _) ?_ | with_reducible refine N.eq ?_ | with_reducible refine N.obl rfl ?_ | with_reducible refine N.obl ⟨by kernel_rfl, by kernel_rfl⟩ ?_ | with_reducible refine N.forkT ?_ | with_reducible refine N.forkF ?_ | with_reducible refine N.call (cAwake _) ?_ | refine N.call (cHear T2 hT2.ok 3 0 200 now 0 T3 he3 0 _ (by rfl)) ?_ | refine N.call (cGetY T3 3 e3 he4 0 _ (by rfl)) ?_ | refine N.forkYes (by rw [decide_eq_true_eq]; omega) ?_ | refine N.forkNo (by rw [decide_eq_false_iff_not]; omega) ?_ | refine N.forkYes (by decide) ?_ | refine N.forkNo (by decide) ?_ | fail_if_success skip)
        all_goals rfl
      · obtain ⟨hg2, hgl2⟩ := seen_step hg (List.getElem?_eq_some_iff.1 hj).1 hjs
        have hDk : dGet ([] : List (Int × Int)) k = some h := dGet_mem hDn (List.mem_of_getElem? hj)
        obtain ⟨hb1, hb2⟩ := hDb k h hDk
        have hik := hgone k
        repeat' (refine N.go ?_; first | with_reducible refine N.obl (by decide) ?_ | with_reducible refine N.obl (flat_wi _ _ _) ?_ | with_reducible refine N.obl (flat_lim _ _) ?_ | with_reducible refine N.eq ?_ | with_reducible refine N.obl rfl ?_ | with_reducible refine N.obl ⟨by kernel_rfl, by kernel_rfl⟩ ?_ | with_reducible refine N.forkT ?_ | with_reducible refine N.forkF ?_ | refine N.forkYes (by rw [decide_eq_true_eq]; omega) ?_ | refine N.forkNo (by rw [decide_eq_false_iff_not]; omega) ?_ | refine N.forkYes (by decide) ?_ | refine N.forkNo (by decide) ?_ | fail_if_success skip)
        refine N.go ?_
        refine N_entryI 1 encI ([] : List (Int × Int)) u j k h rfl (by rfl) (by rfl) hj rfl ?_
        by_cases hkL : k ∈ ([] : List Int)
        · have hTk : dGet T2.E k = none := by rw [hget k, if_pos hkL]
          have hgk : dGet ([] : List (Int × Int)) k = some 1 := by rw [hgo k, if_pos hkL]
          obtain ⟨v0, hv1, hv2⟩ := hik.1 hkL
          obtain rfl : v0 = h := by rw [hDk] at hv1; exact (Option.some.inj hv1).symm
          repeat' (refine N.go ?_; first | with_reducible refine N.obl (by decide) ?_ | with_reducible refine N.obl (flat_wi _ _ _) ?_ | with_reducible refine N.obl (flat_lim _ _) ?_ | with_reducible refine N.eq ?_ | with_reducible refine N.obl rfl ?_ | with_reducible refine N.obl ⟨by kernel_rfl, by kernel_rfl⟩ ?_ | with_reducible refine N.forkT ?_ | with_reducible refine N.forkF ?_ | refine N.call (cGetN T2 k hTk 0 _ (by rfl)) ?_ | refine N.forkYes (by rw [decide_eq_true_eq]; omega) ?_ | refine N.forkNo (by rw [decide_eq_false_iff_not]; omega) ?_ | refine N.forkYes (by decide) ?_ | refine N.forkNo (by decide) ?_ | refine N.forkNo (by rw [i64s (v0 + s) (by omega) (by omega), decide_eq_false (by omega)]; rfl) ?_ | refine N_look encI _ (by with_reducible rfl) Try.underlying43 Try.underlying3 Try.type3 rfl (.int .i64 1) (by rw [hgk]; rfl) rfl ?_ | fail_if_success skip)
          refine N.go ?_
          refine N.nextR (α := List Nat) (u ++ [j]) [(0, 0), (1, 1), (2, 2)] (And.intro hg2 (by show (([] : List (Int × Int))).length - (u ++ [j]).length < (([] : List (Int × Int))).length - u.length; rw [List.length_append]; simp only [List.length_cons, List.length_nil] at hgl2 ⊢; omega)) ?_
          repeat' (refine N.go ?_; first | with_reducible refine N.obl (by decide) ?_ | with_reducible refine N.obl (flat_wi _ _ _) ?_ | with_reducible refine N.obl (flat_lim _ _) ?_ | with_reducible refine N.eq ?_ | with_reducible refine N.obl rfl ?_ | with_reducible refine N.obl ⟨by kernel_rfl, by kernel_rfl⟩ ?_ | with_reducible refine N.forkT ?_ | with_reducible refine N.forkF ?_ | exact N.true | refine N.obl (.plain (by rfl)) ?_ | refine N.obl (.one (.ptr rfl)) ?_ | refine N.obl (.one (.slice rfl)) ?_ | refine N.obl (.one (.map rfl)) ?_ | fail_if_success skip | refine N.obl tbl_ren ?_ | refine N.obl map_ren ?_ | refine N.obl it_ren ?_ | refine N.obl (rl_ren rfl) ?_ | fail_if_success skip)
        · have hng : ¬ h + s ≤ now := fun hh => hkL (hik.2 ⟨h, hDk, hh⟩)
          have hTk : ∃ e, dGet T2.E k = some e := by
            rw [hget k, if_neg hkL]
            have := hDe k
            rw [hDk] at this
            cases hE : dGet ((Tbl.new 64)).E k with
            | none => rw [hE] at this; cases this
            | some e => exact ⟨e, rfl⟩
          obtain ⟨ek, hTk⟩ := hTk
          have hgk : dGet ([] : List (Int × Int)) k = none := by rw [hgo k, if_neg hkL]
          repeat' (refine N.go ?_; first | with_reducible refine N.obl (by decide) ?_ | with_reducible refine N.obl (flat_wi _ _ _) ?_ | with_reducible refine N.obl (flat_lim _ _) ?_ | with_reducible refine N.eq ?_ | with_reducible refine N.obl rfl ?_ | with_reducible refine N.obl ⟨by kernel_rfl, by kernel_rfl⟩ ?_ | with_reducible refine N.forkT ?_ | with_reducible refine N.forkF ?_ | refine N.call (cGetY T2 k ek hTk 0 _ (by rfl)) ?_ | refine N.forkYes (by rw [decide_eq_true_eq]; omega) ?_ | refine N.forkNo (by rw [decide_eq_false_iff_not]; omega) ?_ | refine N.forkYes (by decide) ?_ | refine N.forkNo (by decide) ?_ | refine N.forkNo (by rw [i64s (h + s) (by omega) (by omega), decide_eq_true (by omega)]; rfl) ?_ | refine N_look encI _ (by with_reducible rfl) Try.underlying43 Try.underlying3 Try.type3 rfl (.int .i64 0) (by rw [hgk]; rfl) rfl ?_ | fail_if_success skip)
          refine N.go ?_
          refine N.nextR (α := List Nat) (u ++ [j]) [(0, 0), (1, 1), (2, 2)] (And.intro hg2 (by show (([] : List (Int × Int))).length - (u ++ [j]).length < (([] : List (Int × Int))).length - u.length; rw [List.length_append]; simp only [List.length_cons, List.length_nil] at hgl2 ⊢; omega)) ?_
          repeat' (refine N.go ?_; first | with_reducible refine N.obl (by decide) ?_ | with_reducible refine N.obl (flat_wi _ _ _) ?_ | with_reducible refine N.obl (flat_lim _ _) ?_ | with_reducible refine N.eq ?_ | with_reducible refine N.obl rfl ?_ | with_reducible refine N.obl ⟨by kernel_rfl, by kernel_rfl⟩ ?_ | with_reducible refine N.forkT ?_ | with_reducible refine N.forkF ?_ | exact N.true | refine N.obl (.plain (by rfl)) ?_ | refine N.obl (.one (.ptr rfl)) ?_ | refine N.obl (.one (.slice rfl)) ?_ | refine N.obl (.one (.map rfl)) ?_ | fail_if_success skip | refine N.obl tbl_ren ?_ | refine N.obl map_ren ?_ | refine N.obl it_ren ?_ | refine N.obl (rl_ren rfl) ?_ | fail_if_success skip)
  · repeat' (refine N.go ?_; first | with_reducible refine N.obl (by decide) ?_ | with_reducible refine N.obl (flat_wi _ _ _) ?_ | with_reducible refine N.obl (flat_lim _ _) ?_ | with_reducible refine N.eq ?_ | with_reducible refine N.obl rfl ?_ | with_reducible refine N.obl ⟨by kernel_rfl, by kernel_rfl⟩ ?_ | with_reducible refine N.forkT ?_ | with_reducible refine N.forkF ?_ | refine N.forkYes (by rw [decide_eq_true_eq]; omega) ?_ | refine N.forkNo (by rw [decide_eq_false_iff_not]; omega) ?_ | refine N.forkYes (by decide) ?_ | refine N.forkNo (by decide) ?_ | fail_if_success skip)
    refine N.go ?_
    refine N.loopR (α := GS) (GS.ok L) (fun g => L.length - g.j) (fun g => [(69, .int .i64 (g.j : Int)), (13, .int .i64 (lastV L g.j))]) (fun g => [(0, tblC T2), (1, mapC encI ([] : List (Int × Int))), (2, mapC encI g.D), (4, rl L cap)]) ⟨0, []⟩ [(0, 0), (1, 1), (4, 4), (2, 2)] ⟨Nat.zero_le _, fun k => rfl⟩ ?_ ?_
    · repeat' (refine N.go ?_; first | with_reducible refine N.obl (by decide) ?_ | with_reducible refine N.obl (flat_wi _ _ _) ?_ | with_reducible refine N.obl (flat_lim _ _) ?_ | with_reducible refine N.eq ?_ | with_reducible refine N.obl rfl ?_ | with_reducible refine N.obl ⟨by kernel_rfl, by kernel_rfl⟩ ?_ | with_reducible refine N.forkT ?_ | with_reducible refine N.forkF ?_ | exact N.true | refine N.obl (.plain (by rfl)) ?_ | refine N.obl (.one (.ptr rfl)) ?_ | refine N.obl (.one (.slice rfl)) ?_ | refine N.obl (.one (.map rfl)) ?_ | fail_if_success skip | refine N.obl tbl_ren ?_ | refine N.obl map_ren ?_ | refine N.obl it_ren ?_ | refine N.obl (rl_ren rfl) ?_ | fail_if_success skip)
    · intro g hg
      by_cases hj : g.j < L.length
      · have hLj : L.getD g.j 0 ∈ L := by
          have e : L.getD g.j 0 = L[g.j] := by simp [List.getD_eq_getElem?_getD, hj]
          rw [e]; exact List.getElem_mem hj
        obtain ⟨v, hv1, hv2, hv3⟩ := hLw _ hLj
        have hlt := lastV_lt hL1 (fun k hk => (hL0 k hk).1) hj
        obtain ⟨hg0, hg1⟩ := gs_step hL1 hg hj
        have hkb := hL0 _ hLj
        have hlast : lastV L (g.j + 1) = L.getD g.j 0 := by unfold lastV; rw [if_neg (by omega)]; rfl
        have hjl : g.j < 9000000000000000000 := by
          have := hLlen; omega
        refine N.go ?_
        refine N.forkYes (by simpa using hj) ?_
        refine N.go ?_
        refine N.idx g.j 1 rfl hj ?_
        refine N.go ?_
        refine N.load _ (rd1 g.j rfl (by omega) (by first | rfl | omega)) ?_
        repeat' (refine N.go ?_; first | with_reducible refine N.obl (by decide) ?_ | with_reducible refine N.obl (flat_wi _ _ _) ?_ | with_reducible refine N.obl (flat_lim _ _) ?_ | with_reducible refine N.eq ?_ | with_reducible refine N.obl rfl ?_ | with_reducible refine N.obl ⟨by kernel_rfl, by kernel_rfl⟩ ?_ | with_reducible refine N.forkT ?_ | with_reducible refine N.forkF ?_ | refine N.forkNo (by rw [decide_eq_false_iff_not]; omega) ?_ | refine N_look encI ([] : List (Int × Int)) (by with_reducible rfl) Try.underlying41 Try.underlying3 Try.type2 rfl (.int .i64 v) (by rw [hv1]; rfl) rfl ?_ | refine N.forkNo (by rw [decide_eq_false_iff_not, i64s (v + s) (by omega) (by omega)]; omega) ?_ | refine N_look encI g.D (by with_reducible rfl) Try.underlying43 Try.underlying3 Try.type3 rfl (.int .i64 0) (by rw [hg0]; rfl) rfl ?_ | refine N_put encI g.D 1 (by with_reducible rfl) rfl ⟨by omega, by omega⟩ rfl Try.underlying43 Try.underlying3 ?_ | fail_if_success skip)
        refine N.go ?_
        refine N.nextR (α := GS) ⟨g.j + 1, dPut g.D (L.getD g.j 0) 1⟩ [(0, 0), (1, 1), (4, 4), (2, 2)] (And.intro hg1 (by show L.length - (g.j + 1) < L.length - g.j; omega)) ?_
        repeat' (refine N.go ?_; first | with_reducible refine N.obl (by decide) ?_ | with_reducible refine N.obl (flat_wi _ _ _) ?_ | with_reducible refine N.obl (flat_lim _ _) ?_ | with_reducible refine N.eq ?_ | with_reducible refine N.obl rfl ?_ | with_reducible refine N.obl ⟨by kernel_rfl, by kernel_rfl⟩ ?_ | with_reducible refine N.forkT ?_ | with_reducible refine N.forkF ?_ | refine N.obl (re_eq (int_eq (by rw [i64s ((g.j : Int) + 1) (by omega) (by omega)]; rfl)) rfl) ?_ | refine N.obl (re_eq (int_eq hlast.symm) rfl) ?_ | exact N.true | refine N.obl (.plain (by rfl)) ?_ | refine N.obl (.one (.ptr rfl)) ?_ | refine N.obl (.one (.slice rfl)) ?_ | refine N.obl (.one (.map rfl)) ?_ | fail_if_success skip | refine N.obl tbl_ren ?_ | refine N.obl map_ren ?_ | refine N.obl it_ren ?_ | refine N.obl (rl_ren rfl) ?_ | fail_if_success skip)
      · refine N.go ?_
        refine N.forkNo (by simpa using hj) ?_
        have hgl : g.j = L.length := by have := hg.1; omega
        have hgo : ∀ k, dGet g.D k = if k ∈ L then some 1 else none := fun k => by have := hg.2 k; rwa [hgl, List.take_length] at this
        repeat' (refine N.go ?_; first | with_reducible refine N.obl (by decide) ?_ | with_reducible refine N.obl (flat_wi _ _ _) ?_ | with_reducible refine N.obl (flat_lim _ _) ?_ | with_reducible refine N.eq ?_ | with_reducible refine N.obl rfl ?_ | with_reducible refine N.obl ⟨by kernel_rfl, by kernel_rfl⟩ ?_ | with_reducible refine N.forkT ?_ | with_reducible refine N.forkF ?_ | refine N.forkYes (by rw [decide_eq_true_eq]; omega) ?_ | refine N.forkNo (by rw [decide_eq_false_iff_not]; omega) ?_ | refine N.forkYes (by decide) ?_ | refine N.forkNo (by decide) ?_ | fail_if_success skip)
        refine N.go ?_
        refine N_range 1 encI ([] : List (Int × Int)) rfl (by rfl) (by rfl) Try.underlying41 fun r => ?_
        repeat' (refine N.go ?_; first | with_reducible refine N.obl (by decide) ?_ | with_reducible refine N.obl (flat_wi _ _ _) ?_ | with_reducible refine N.obl (flat_lim _ _) ?_ | with_reducible refine N.eq ?_ | with_reducible refine N.obl rfl ?_ | with_reducible refine N.obl ⟨by kernel_rfl, by kernel_rfl⟩ ?_ | with_reducible refine N.forkT ?_ | with_reducible refine N.forkF ?_ | refine N.forkYes (by rw [decide_eq_true_eq]; omega) ?_ | refine N.forkNo (by rw [decide_eq_false_iff_not]; omega) ?_ | refine N.forkYes (by decide) ?_ | refine N.forkNo (by decide) ?_ | fail_if_success skip)
        refine N.go ?_
        refine N.loopR (α := List Nat) (seenOK (([] : List (Int × Int))).length) (fun u => (([] : List (Int × Int))).length - u.length) (fun u => []) (fun u => [(0, tblC T2), (1, itC encI ([] : List (Int × Int)) u r)]) [] [(0, 0), (1, 1), (2, 2), (4, 4)] ⟨List.nodup_nil, fun j hj => (by cases hj), Nat.zero_le _⟩ ?_ ?_
        · repeat' (refine N.go ?_; first | with_reducible refine N.obl (by decide) ?_ | with_reducible refine N.obl (flat_wi _ _ _) ?_ | with_reducible refine N.obl (flat_lim _ _) ?_ | with_reducible refine N.eq ?_ | with_reducible refine N.obl rfl ?_ | with_reducible refine N.obl ⟨by kernel_rfl, by kernel_rfl⟩ ?_ | with_reducible refine N.forkT ?_ | with_reducible refine N.forkF ?_ | exact N.true | refine N.obl (.plain (by rfl)) ?_ | refine N.obl (.one (.ptr rfl)) ?_ | refine N.obl (.one (.slice rfl)) ?_ | refine N.obl (.one (.map rfl)) ?_ | fail_if_success skip | refine N.obl tbl_ren ?_ | refine N.obl map_ren ?_ | refine N.obl it_ren ?_ | refine N.obl (rl_ren rfl) ?_ | fail_if_success skip)
        · intro u hg
          refine N.go ?_
          refine N_next 1 encI ([] : List (Int × Int)) u rfl (by rfl) (by rfl) (fun _ => rfl) (fun _ => ?_) fun j k h hj hjs => ?_
          · repeat' (refine N.go ?_; first | with_reducible refine N.obl (by decide) ?_ | with_reducible refine N.obl (flat_wi _ _ _) ?_ | with_reducible refine N.obl (flat_lim _ _) ?_ | with_reducible refine N.eq ?_ | with_reducible refine N.obl rfl ?_ | with_reducible refine N.obl ⟨by kernel_rfl, by kernel_rfl⟩ ?_ | with_reducible refine N.forkT ?_ | with_reducible refine N.forkF ?_ | with_reducible refine N.call (cAwake _) ?_ | refine N.call (cHear T2 hT2.ok 3 0 200 now 0 T3 he3 0 _ (by rfl)) ?_ | refine N.call (cGetY T3 3 e3 he4 0 _ (by rfl)) ?_ | refine N.forkYes (by rw [decide_eq_true_eq]; omega) ?_ | refine N.forkNo (by rw [decide_eq_false_iff_not]; omega) ?_ | refine N.forkYes (by decide) ?_ | refine N.forkNo (by decide) ?_ | fail_if_success skip)
            all_goals rfl
          · obtain ⟨hg2, hgl2⟩ := seen_step hg (List.getElem?_eq_some_iff.1 hj).1 hjs
            have hDk : dGet ([] : List (Int × Int)) k = some h := dGet_mem hDn (List.mem_of_getElem? hj)
            obtain ⟨hb1, hb2⟩ := hDb k h hDk
            have hik := hgone k
            repeat' (refine N.go ?_; first | with_reducible refine N.obl (by decide) ?_ | with_reducible refine N.obl (flat_wi _ _ _) ?_ | with_reducible refine N.obl (flat_lim _ _) ?_ | with_reducible refine N.eq ?_ | with_reducible refine N.obl rfl ?_ | with_reducible refine N.obl ⟨by kernel_rfl, by kernel_rfl⟩ ?_ | with_reducible refine N.forkT ?_ | with_reducible refine N.forkF ?_ | refine N.forkYes (by rw [decide_eq_true_eq]; omega) ?_ | refine N.forkNo (by rw [decide_eq_false_iff_not]; omega) ?_ | refine N.forkYes (by decide) ?_ | refine N.forkNo (by decide) ?_ | fail_if_success skip)
            refine N.go ?_
            refine N_entryI 1 encI ([] : List (Int × Int)) u j k h rfl (by rfl) (by rfl) hj rfl ?_
            by_cases hkL : k ∈ L
            · have hTk : dGet T2.E k = none := by rw [hget k, if_pos hkL]
              have hgk : dGet g.D k = some 1 := by rw [hgo k, if_pos hkL]
              obtain ⟨v0, hv1, hv2⟩ := hik.1 hkL
              obtain rfl : v0 = h := by rw [hDk] at hv1; exact (Option.some.inj hv1).symm
              repeat' (refine N.go ?_; first | with_reducible refine N.obl (by decide) ?_ | with_reducible refine N.obl (flat_wi _ _ _) ?_ | with_reducible refine N.obl (flat_lim _ _) ?_ | with_reducible refine N.eq ?_ | with_reducible refine N.obl rfl ?_ | with_reducible refine N.obl ⟨by kernel_rfl, by kernel_rfl⟩ ?_ | with_reducible refine N.forkT ?_ | with_reducible refine N.forkF ?_ | refine N.call (cGetN T2 k hTk 0 _ (by rfl)) ?_ | refine N.forkYes (by rw [decide_eq_true_eq]; omega) ?_ | refine N.forkNo (by rw [decide_eq_false_iff_not]; omega) ?_ | refine N.forkYes (by decide) ?_ | refine N.forkNo (by decide) ?_ | refine N.forkNo (by rw [i64s (v0 + s) (by omega) (by omega), decide_eq_false (by omega)]; rfl) ?_ | refine N_look encI _ (by with_reducible rfl) Try.underlying43 Try.underlying3 Try.type3 rfl (.int .i64 1) (by rw [hgk]; rfl) rfl ?_ | fail_if_success skip)
              refine N.go ?_
              refine N.nextR (α := List Nat) (u ++ [j]) [(0, 0), (1, 1), (2, 2), (4, 4)] (And.intro hg2 (by show (([] : List (Int × Int))).length - (u ++ [j]).length < (([] : List (Int × Int))).length - u.length; rw [List.length_append]; simp only [List.length_cons, List.length_nil] at hgl2 ⊢; omega)) ?_
              repeat' (refine N.go ?_; first | with_reducible refine N.obl (by decide) ?_ | with_reducible refine N.obl (flat_wi _ _ _) ?_ | with_reducible refine N.obl (flat_lim _ _) ?_ | with_reducible refine N.eq ?_ | with_reducible refine N.obl rfl ?_ | with_reducible refine N.obl ⟨by kernel_rfl, by kernel_rfl⟩ ?_ | with_reducible refine N.forkT ?_ | with_reducible refine N.forkF ?_ | exact N.true | refine N.obl (.plain (by rfl)) ?_ | refine N.obl (.one (.ptr rfl)) ?_ | refine N.obl (.one (.slice rfl)) ?_ | refine N.obl (.one (.map rfl)) ?_ | fail_if_success skip | refine N.obl tbl_ren ?_ | refine N.obl map_ren ?_ | refine N.obl it_ren ?_ | refine N.obl (rl_ren rfl) ?_ | fail_if_success skip)
            · have hng : ¬ h + s ≤ now := fun hh => hkL (hik.2 ⟨h, hDk, hh⟩)
              have hTk : ∃ e, dGet T2.E k = some e := by
                rw [hget k, if_neg hkL]
                have := hDe k
                rw [hDk] at this
                cases hE : dGet ((Tbl.new 64)).E k with
                | none => rw [hE] at this; cases this
                | some e => exact ⟨e, rfl⟩
              obtain ⟨ek, hTk⟩ := hTk
              have hgk : dGet g.D k = none := by rw [hgo k, if_neg hkL]
              repeat' (refine N.go ?_; first | with_reducible refine N.obl (by decide) ?_ | with_reducible refine N.obl (flat_wi _ _ _) ?_ | with_reducible refine N.obl (flat_lim _ _) ?_ | with_reducible refine N.eq ?_ | with_reducible refine N.obl rfl ?_ | with_reducible refine N.obl ⟨by kernel_rfl, by kernel_rfl⟩ ?_ | with_reducible refine N.forkT ?_ | with_reducible refine N.forkF ?_ | refine N.call (cGetY T2 k ek hTk 0 _ (by rfl)) ?_ | refine N.forkYes (by rw [decide_eq_true_eq]; omega) ?_ | refine N.forkNo (by rw [decide_eq_false_iff_not]; omega) ?_ | refine N.forkYes (by decide) ?_ | refine N.forkNo (by decide) ?_ | refine N.forkNo (by rw [i64s (h + s) (by omega) (by omega), decide_eq_true (by omega)]; rfl) ?_ | refine N_look encI _ (by with_reducible rfl) Try.underlying43 Try.underlying3 Try.type3 rfl (.int .i64 0) (by rw [hgk]; rfl) rfl ?_ | fail_if_success skip)
              refine N.go ?_
              refine N.nextR (α := List Nat) (u ++ [j]) [(0, 0), (1, 1), (2, 2), (4, 4)] (And.intro hg2 (by show (([] : List (Int × Int))).length - (u ++ [j]).length < (([] : List (Int × Int))).length - u.length; rw [List.length_append]; simp only [List.length_cons, List.length_nil] at hgl2 ⊢; omega)) ?_
              repeat' (refine N.go ?_; first | with_reducible refine N.obl (by decide) ?_ | with_reducible refine N.obl (flat_wi _ _ _) ?_ | with_reducible refine N.obl (flat_lim _ _) ?_ | with_reducible refine N.eq ?_ | with_reducible refine N.obl rfl ?_ | with_reducible refine N.obl ⟨by kernel_rfl, by kernel_rfl⟩ ?_ | with_reducible refine N.forkT ?_ | with_reducible refine N.forkF ?_ | exact N.true | refine N.obl (.plain (by rfl)) ?_ | refine N.obl (.one (.ptr rfl)) ?_ | refine N.obl (.one (.slice rfl)) ?_ | refine N.obl (.one (.map rfl)) ?_ | fail_if_success skip | refine N.obl tbl_ren ?_ | refine N.obl map_ren ?_ | refine N.obl it_ren ?_ | refine N.obl (rl_ren rfl) ?_ | fail_if_success skip)
set_option maxRecDepth 100000 in
theorem lifted (os : Os) (started : os.Started) (H : Type) (enc : TypeId × Value → H) :
    ReturnsInHanded {} Try.checked os 4 .any (Rows.tableSilentSpec.pre6 enc Try.prog Try.f4 Rows.tableSilentRow.domain false) (Rows.tableSilentSpec.post enc Try.prog Try.f4 false true false false) := by
  refine law_lifted (C := Try.checked) (tb := 4) Try.own started (by kernel_rfl) Try.func4 Try.laidOut (by kernel_rfl) rfl Try.underlying4 rfl
    (fun ds hds => by match ds, hds with | [_, _, _], _ => rfl)
    (ChangeSpec.witness6 (enc := enc) (C := Try.checked) false ⟨#[], #[.slice none 0 0, .int .i64 0, .int .i64 0], []⟩ 8 (by kernel_rfl) (by kernel_rfl) (by kernel_rfl) (by kernel_rfl)) ?_
  intro W base args ds p hval0 hA0 hsz0
  have hval : ∀ (j : Nat) t v, Try.f4.params[j]? = some t → args[j]? = some v → Value.okWide Try.prog W .any base t v := hval0
  have hA : DataW.TrodAll enc Try.prog W 0 (fun _ => true) true Try.f4.params.toList args.toList ds p := hA0
  have hsz : (DataW.weightsEach Try.prog Try.f4.params.toList ds).all (· ≤ reachBytes) = true := hsz0
  rw [Try.params4] at hA hval hsz
  obtain ⟨v0, vs0, d0, ds0, p0, q0, hargs, rfl, rfl, h0, r0⟩ := trodAll_cons hA
  obtain ⟨v1, vs1, d1, ds1, p1, q1, rfl, rfl, rfl, h1, r1⟩ := trodAll_cons r0
  obtain ⟨v2, vs2, d2, ds2, p2, q2, rfl, rfl, rfl, h2, r2⟩ := trodAll_cons r1
  obtain ⟨rfl, rfl, rfl⟩ := trodAll_nil r2
  obtain rfl : args = #[v0, v1, v2] := by cases args; simp_all
  obtain ⟨a1, rfl, rfl, rfl, w1⟩ := open_int Try.underlying2 (hval 1 _ v1 rfl rfl) h1
  obtain ⟨a2, rfl, rfl, rfl, w2⟩ := open_int Try.underlying2 (hval 2 _ v2 rfl rfl) h2
  rcases open_l (hval 0 _ v0 rfl rfl) h0 with rfl | ⟨a, n, cap, f, cl, rfl, hn, hs, hf⟩
  · exact walk0 a1 a2 W
  exact walk a1 a2 a n cap f cl W hn hs hf

theorem proved : Rows.TableSilentSaid :=
  OpenClaim.holds_of_wide 4 Try.f4 rfl rfl rfl rfl rfl rfl rfl ⟨rfl, rfl, rfl, rfl, rfl⟩ rfl rfl rfl rfl rfl (by kernel_rfl) Try.func4 (by kernel_rfl)
    (of_decide_eq_true (by kernel_rfl)) (by unfold Func.isWrapper; rw [if_neg (by decide +kernel)]; exact ⟨rfl, rfl⟩)
    (fun os started H enc _ => lifted os started H enc)
#print axioms proved
end Go.Proofs.Ytpafcfelaaibgaa.tableSilent
