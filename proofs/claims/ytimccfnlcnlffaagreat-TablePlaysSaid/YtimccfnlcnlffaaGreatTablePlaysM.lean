import Derived.Test.YtimccfnlcnlffaaGreatRows
import Derived.Test.YtimccfnlcnlffaaGreatM7
set_option linter.unusedVariables false
set_option linter.unusedSimpArgs false
set_option maxRecDepth 100000
set_option maxHeartbeats 20000000

namespace Go.Proofs.YtimccfnlcnlffaaGreat.tablePlays
open Go Go.ChangeShapes Go.WideShapes Go.ChangeAt Go.RowKit Sx
theorem wf64 {n : Int} (h : (Lit.int .i64 n).wf = true) : -9223372036854775808 ≤ n ∧ n < 9223372036854775808 := by
  have e1 : IntKind.i64.min = -9223372036854775808 := by decide
  have e2 : IntKind.i64.max = 9223372036854775807 := by decide
  have h : (decide (IntKind.i64.min ≤ n) && decide (n ≤ IntKind.i64.max)) = true := h
  rw [e1, e2, Bool.and_eq_true, decide_eq_true_eq, decide_eq_true_eq] at h
  omega
theorem open_l {H : Type} {enc : TypeId × Value → H} {W : World} {r : Reach} {base : Nat} {v : Value} {d : DataW H} {p : List MemPlace}
    (hv : Value.okWide Tryz.prog W r base 22 v) (h : DataW.Trod enc Tryz.prog W 0 (fun _ => true) true 22 v d p) :
    v = .slice none 0 0 ∨ ∃ (a : Addr) (n cap : Nat) (f : Nat → Value) (cl : Nat → Nat → Int), v = .slice (some a) n cap ∧ n ≤ 9223372036854775807 ∧ SeenIn W ⟨a, n * 11, f⟩ ∧ (∀ i, i < n → ∀ j, j < 11 → f (i * 11 + j) = .int .i64 (cl i j)) ∧ ∀ i j, i < n → j < 11 → -9223372036854775808 ≤ cl i j ∧ cl i j < 9223372036854775808 := by
  have hsh := slice_shape Tryz.underlying22 hv
  obtain ⟨A, n, cap, f, rfl, hl, hm, hd, hseg, hrow⟩ := open_rows (C := 11) Tryz.underlying22 (by kernel_rfl) h hsh
  cases A with
  | none =>
    obtain ⟨rfl, rfl⟩ := okWide_nil Tryz.underlying22 hv
    exact .inl rfl
  | some a =>
    have hf : ∀ i, i < n → ∀ j, j < 11 → f (i * 11 + j) = .int .i64 (intOf (f (i * 11 + j))) := by
      intro i hi j hj
      obtain ⟨x, fuel, cs, ht, hcl, hc⟩ := hrow i hi
      match j, hj with
      | 0, _ => exact (leaf_int (d := 5) (l := 3) (j := 0) (by kernel_rfl) (@Tryz.underlying3) (hc 0 (by omega)) ht).1
      | 1, _ => exact (leaf_int (d := 5) (l := 3) (j := 1) (by kernel_rfl) (@Tryz.underlying3) (hc 1 (by omega)) ht).1
      | 2, _ => exact (leaf_int (d := 5) (l := 3) (j := 2) (by kernel_rfl) (@Tryz.underlying3) (hc 2 (by omega)) ht).1
      | 3, _ => exact (leaf_int (d := 5) (l := 3) (j := 3) (by kernel_rfl) (@Tryz.underlying3) (hc 3 (by omega)) ht).1
      | 4, _ => exact (leaf_int (d := 5) (l := 2) (j := 4) (by kernel_rfl) (@Tryz.underlying2) (hc 4 (by omega)) ht).1
      | 5, _ => exact (leaf_int (d := 5) (l := 2) (j := 5) (by kernel_rfl) (@Tryz.underlying2) (hc 5 (by omega)) ht).1
      | 6, _ => exact (leaf_int (d := 5) (l := 2) (j := 6) (by kernel_rfl) (@Tryz.underlying2) (hc 6 (by omega)) ht).1
      | 7, _ => exact (leaf_int (d := 5) (l := 2) (j := 7) (by kernel_rfl) (@Tryz.underlying2) (hc 7 (by omega)) ht).1
      | 8, _ => exact (leaf_int (d := 5) (l := 2) (j := 8) (by kernel_rfl) (@Tryz.underlying2) (hc 8 (by omega)) ht).1
      | 9, _ => exact (leaf_int (d := 5) (l := 2) (j := 9) (by kernel_rfl) (@Tryz.underlying2) (hc 9 (by omega)) ht).1
      | 10, _ => exact (leaf_int (d := 5) (l := 2) (j := 10) (by kernel_rfl) (@Tryz.underlying2) (hc 10 (by omega)) ht).1
    have hb : ∀ i j, i < n → j < 11 → -9223372036854775808 ≤ intOf (f (i * 11 + j)) ∧ intOf (f (i * 11 + j)) < 9223372036854775808 := by
      intro i j hi hj
      obtain ⟨x, fuel, cs, ht, hcl, hc⟩ := hrow i hi
      match j, hj with
      | 0, _ => exact wf64 (leaf_int (d := 5) (l := 3) (j := 0) (by kernel_rfl) (@Tryz.underlying3) (hc 0 (by omega)) ht).2
      | 1, _ => exact wf64 (leaf_int (d := 5) (l := 3) (j := 1) (by kernel_rfl) (@Tryz.underlying3) (hc 1 (by omega)) ht).2
      | 2, _ => exact wf64 (leaf_int (d := 5) (l := 3) (j := 2) (by kernel_rfl) (@Tryz.underlying3) (hc 2 (by omega)) ht).2
      | 3, _ => exact wf64 (leaf_int (d := 5) (l := 3) (j := 3) (by kernel_rfl) (@Tryz.underlying3) (hc 3 (by omega)) ht).2
      | 4, _ => exact wf64 (leaf_int (d := 5) (l := 2) (j := 4) (by kernel_rfl) (@Tryz.underlying2) (hc 4 (by omega)) ht).2
      | 5, _ => exact wf64 (leaf_int (d := 5) (l := 2) (j := 5) (by kernel_rfl) (@Tryz.underlying2) (hc 5 (by omega)) ht).2
      | 6, _ => exact wf64 (leaf_int (d := 5) (l := 2) (j := 6) (by kernel_rfl) (@Tryz.underlying2) (hc 6 (by omega)) ht).2
      | 7, _ => exact wf64 (leaf_int (d := 5) (l := 2) (j := 7) (by kernel_rfl) (@Tryz.underlying2) (hc 7 (by omega)) ht).2
      | 8, _ => exact wf64 (leaf_int (d := 5) (l := 2) (j := 8) (by kernel_rfl) (@Tryz.underlying2) (hc 8 (by omega)) ht).2
      | 9, _ => exact wf64 (leaf_int (d := 5) (l := 2) (j := 9) (by kernel_rfl) (@Tryz.underlying2) (hc 9 (by omega)) ht).2
      | 10, _ => exact wf64 (leaf_int (d := 5) (l := 2) (j := 10) (by kernel_rfl) (@Tryz.underlying2) (hc 10 (by omega)) ht).2
    have hlit := rows_lit (f := f) (n := n) (k := 11) (by decide) fun i hi j hj => by rw [hf i hi j hj]; rfl
    exact .inr ⟨a, n, cap, f, fun i j => intOf (f (i * 11 + j)), rfl, by simp only [maxLen] at hm; omega, SeenIn.some Tryz.underlying22 hv hseg hlit, hf, hb⟩
theorem walkNil (most : Int) (W : World) : Calls Tryz.prog 3 #[.int .i64 most, .slice none 0 0] W fun e w' => e = .returned (.bool true) ∧ Below W.heap.size W w' := by
  refine calls_pure (G := tys) W tysOK mixed Tryz.func3 (by rfl) (by rfl) (by rfl) ?_
  repeat' (refine N.go ?_; first | with_reducible (first | refine N.obl (by decide) ?_ | refine N.eq ?_ | refine N.obl rfl ?_ | refine N.obl ⟨by kernel_rfl, by kernel_rfl⟩ ?_ | refine N.alt ?_ | refine N.forkT ?_ | refine N.forkF ?_) | refine N.forkNo (by decide) ?_ | refine N.forkYes (by decide) ?_ | refine N.forkYes (by rw [decide_eq_true_eq]; omega) ?_ | refine N.forkNo (by rw [decide_eq_false_iff_not]; omega) ?_ | refine N.call (cNewT most 0 _ (by rfl)) ?_ | refine N.call (cRNew most 4 _ (by rfl)) ?_ | fail)
  refine N.go ?_
  refine N.loopR (α := Unit) (fun q => True) (fun q => 0) (fun q => [(25, .int .i64 0)]) (fun q => []) () [(0, 0), (4, 4)] trivial ?_ ?_
  · repeat' (refine N.go ?_; first | with_reducible (first | refine N.obl (by decide) ?_ | refine N.eq ?_ | refine N.obl rfl ?_ | refine N.obl ⟨by kernel_rfl, by kernel_rfl⟩ ?_ | refine N.alt ?_ | refine N.forkT ?_ | refine N.forkF ?_) | exact N.true | refine N.obl (.plain (by rfl)) ?_ | refine N.obl (.one .quo) ?_ | refine N.obl (.one (.ptr rfl)) ?_ | refine N.obl (.one (.slice rfl)) ?_ | refine N.obl (tbl_renE rfl) ?_ | refine N.obl rt_ren ?_ | refine N.obl (ChunkReLe.same (agg_plain (by rfl) (by rfl))) ?_ | fail)
  rintro q -
  repeat' (refine N.go ?_; first | with_reducible (first | refine N.obl (by decide) ?_ | refine N.eq ?_ | refine N.obl rfl ?_ | refine N.obl ⟨by kernel_rfl, by kernel_rfl⟩ ?_ | refine N.alt ?_ | refine N.forkT ?_ | refine N.forkF ?_) | refine N.forkNo (by decide) ?_ | refine N.forkYes (by decide) ?_ | refine N.forkYes (by rw [decide_eq_true_eq]; omega) ?_ | refine N.forkNo (by rw [decide_eq_false_iff_not]; omega) ?_ | refine N.call (cAwake _) ?_ | fail)
  all_goals rfl
theorem lifted (os : Os) (started : os.Started) (H : Type) (enc : TypeId × Value → H) :
    ReturnsInHanded {} Tryz.checked os 3 .any (Rows.tablePlaysSpec.pre6 enc Tryz.prog Tryz.f3 Rows.tablePlaysRow.domain false) (Rows.tablePlaysSpec.post enc Tryz.prog Tryz.f3 false true false false) := by
  refine law_lifted (C := Tryz.checked) (tb := 4) Tryz.own started (by kernel_rfl) Tryz.func3 Tryz.laidOut (by kernel_rfl) rfl Tryz.underlying4 rfl
    (fun ds hds => by match ds, hds with | [_, _], _ => rfl)
    (ChangeSpec.witness6 (enc := enc) (C := Tryz.checked) false ⟨#[], #[.int .i64 0, .slice none 0 0], []⟩ 8 (by kernel_rfl) (by kernel_rfl) (by kernel_rfl) (by kernel_rfl)) ?_
  intro W base args ds p hval0 hA0 hsz0
  have hval : ∀ (j : Nat) t v, Tryz.f3.params[j]? = some t → args[j]? = some v → Value.okWide Tryz.prog W .any base t v := hval0
  have hA : DataW.TrodAll enc Tryz.prog W 0 (fun _ => true) true Tryz.f3.params.toList args.toList ds p := hA0
  have hsz : (DataW.weightsEach Tryz.prog Tryz.f3.params.toList ds).all (· ≤ reachBytes) = true := hsz0
  rw [Tryz.params3] at hA hval hsz
  obtain ⟨v0, vs0, d0, ds0, p0, q0, hargs, rfl, rfl, h0, r0⟩ := trodAll_cons hA
  obtain ⟨v1, vs1, d1, ds1, p1, q1, rfl, rfl, rfl, h1, r1⟩ := trodAll_cons r0
  obtain ⟨rfl, rfl, rfl⟩ := trodAll_nil r1
  obtain rfl : args = #[v0, v1] := by cases args; simp_all
  obtain ⟨a0, rfl, rfl, rfl, w0⟩ := open_int Tryz.underlying3 (hval 0 _ v0 rfl rfl) h0
  rcases open_l (hval 1 _ v1 rfl rfl) h1 with rfl | ⟨ad, n, cap, f, cl, rfl, hm, hsn, hf, hbd⟩
  · exact walkNil a0 W
  obtain ⟨b, o, sp⟩ := ad
  obtain ⟨hsp, hb, hc⟩ := hsn
  have hsp : sp = none := hsp
  subst hsp
  have hb : b < W.heap.size := hb
  letI : ZW := ⟨some W⟩
  have key : ∀ i, i < n → (inw64 (Cq.mk (cl i 0) (cl i 1) (cl i 2) (cl i 3) (cl i 4) (cl i 5) (cl i 6) (cl i 7) (cl i 8) (cl i 9) (cl i 10)).n ∧ inw64 (Cq.mk (cl i 0) (cl i 1) (cl i 2) (cl i 3) (cl i 4) (cl i 5) (cl i 6) (cl i 7) (cl i 8) (cl i 9) (cl i 10)).now ∧ inw64 (Cq.mk (cl i 0) (cl i 1) (cl i 2) (cl i 3) (cl i 4) (cl i 5) (cl i 6) (cl i 7) (cl i 8) (cl i 9) (cl i 10)).sil) ∧ ∀ j v, (Cq.mk (cl i 0) (cl i 1) (cl i 2) (cl i 3) (cl i 4) (cl i 5) (cl i 6) (cl i 7) (cl i 8) (cl i 9) (cl i 10)).cs[j]? = some v → W.cell? ⟨b, o + i * 11 + j, none⟩ = some v := fun i hi => by
    refine ⟨⟨hbd i 1 hi (by decide), hbd i 4 hi (by decide), hbd i 5 hi (by decide)⟩, fun j v hj => ?_⟩
    have hl : j < 11 := (List.getElem?_eq_some_iff.1 hj).1
    have h2 := (hc (i * 11 + j) (by show i * 11 + j < n * 11; omega)).1
    have h3 : (Addr.mk b o none).add (i * 11 + j) = ⟨b, o + i * 11 + j, none⟩ := by rw [add_at, Nat.add_assoc]
    rw [show (Seen.mk ⟨b, o, none⟩ (n * 11) f).a.add (i * 11 + j) = ⟨b, o + i * 11 + j, none⟩ from h3] at h2
    rw [h2]
    show some (f (i * 11 + j)) = some v
    rw [hf i hi j hl]
    match j, hl, hj with
    | 0, _, hj => exact hj
    | 1, _, hj => exact hj
    | 2, _, hj => exact hj
    | 3, _, hj => exact hj
    | 4, _, hj => exact hj
    | 5, _, hj => exact hj
    | 6, _, hj => exact hj
    | 7, _, hj => exact hj
    | 8, _, hj => exact hj
    | 9, _, hj => exact hj
    | 10, _, hj => exact hj
  exact walk b o n cap a0 _ W rfl hb key hm
theorem proved : Rows.TablePlaysSaid :=
  OpenClaim.holds_of_wide 3 Tryz.f3 rfl rfl rfl rfl rfl rfl rfl ⟨rfl, rfl, rfl, rfl, rfl⟩ rfl rfl rfl rfl rfl (by kernel_rfl) Tryz.func3 (by kernel_rfl)
    (of_decide_eq_true (by kernel_rfl)) (by unfold Func.isWrapper; rw [if_neg (by decide +kernel)]; exact ⟨rfl, rfl⟩)
    (fun os started H enc _ => lifted os started H enc)
#print axioms proved
end Go.Proofs.YtimccfnlcnlffaaGreat.tablePlays
