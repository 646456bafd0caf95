/-
  The walks of the document's Quarter and Path.
-/
import Derived.Test.YtkjeebabcdnjkaaRi
import Derived.Test.YtkjeebabcdnjkaaTurnPathF
set_option linter.unusedVariables false
set_option linter.unusedSimpArgs false
namespace Go.Proofs.Ytkjeebabcdnjkaa
open Go Go.RowKit Sx

theorem q4_of (k : Int) : (IntKind.i64.wrap (k.tmod 4 + 4)).tmod 4 = (q4 k : Int) := by
  have h : -4 < k.tmod 4 ∧ k.tmod 4 < 4 ∧ (k.tmod 4 + 4) % 4 = k % 4 := by
    rcases Int.le_total 0 k with h0 | h0
    · rw [Int.tmod_eq_emod_of_nonneg h0]; omega
    · have e : k.tmod 4 = -((-k) % 4) := by
        rw [← Int.tmod_eq_emod_of_nonneg (by omega), Int.neg_tmod, Int.neg_neg]
      rw [e]; omega
  rw [i64n _ (by omega) (by omega), Int.tmod_eq_emod_of_nonneg (by omega), h.2.2]
  unfold q4; omega
theorem rot0 (n : Nat) : rotX n 0 0 = 0 ∧ rotY n 0 0 = 0 := by
  unfold rotX rotY
  constructor <;> (repeat' split) <;> rfl
abbrev ptC2 (x y : Int) : Chunk := ⟨true, 2, [(0, 2, .agg #[.int .i64 x, .int .i64 y])]⟩
theorem two_le {x y : Int} {c : Chunk} (ho : c.own = true) (hn : c.n = 2) (h0 : c.f 0 = .int .i64 x) (h1 : c.f 1 = .int .i64 y) : ChunkLe (ptC2 x y) c := ⟨fun _ => ho, Nat.le_of_eq hn.symm, fun j hj => by
  match j, hj with
  | 0, _ => exact h0.symm
  | 1, _ => exact h1.symm⟩
set_option maxRecDepth 100000 in
set_option maxHeartbeats 2000000 in
theorem quarter9_x (x y k : Int) (w : World) : Calls Try.prog 19 #[.agg #[.int .i64 x, .int .i64 y], .int .i64 k] w fun e w' => e = .returned (.agg #[.int .i64 (quarX x y k), .int .i64 (quarY x y k)]) ∧ Below w.heap.size w w' := by
  unfold quarX quarY
  have hq := q4_of k
  have hq4 := q4_lt k
  generalize q4 k = n at *
  cases h : stp x y with
  | false =>
    rw [(cxF h).1, (cxF h).2, (rot0 n).1, (rot0 n).2]
    refine calls_pure (G := tys) w tysOK mixed Try.func19 (by rfl) (by rfl) (by rfl) ?_
    repeat' (refine N.go ?_; first | with_reducible refine N.obl (by decide) ?_ | with_reducible refine N.obl (flat_wi _ _ _) ?_ | with_reducible refine N.obl (flat_lim _ _) ?_ | with_reducible refine N.eq ?_ | with_reducible refine N.obl rfl ?_ | with_reducible refine N.obl ⟨by kernel_rfl, by kernel_rfl⟩ ?_ | with_reducible refine N.forkT ?_ | with_reducible refine N.forkF ?_ | with_reducible refine N.call (cMay _ _ _) ?_ | refine N.forkNo (by rw [h]; rfl) ?_ | refine N.forkYes (by rw [h]; rfl) ?_ | refine N.forkNo (by decide) ?_ | refine N.forkYes (by decide) ?_ | fail_if_success skip)
    all_goals rfl
  | true =>
    have hb := stp_iff.1 h
    rw [(cxT h).1, (cxT h).2]
    refine calls_pure (G := tys) w tysOK mixed Try.func19 (by rfl) (by rfl) (by rfl) ?_
    repeat' (refine N.go ?_; first | with_reducible refine N.obl (by decide) ?_ | with_reducible refine N.obl (flat_wi _ _ _) ?_ | with_reducible refine N.obl (flat_lim _ _) ?_ | with_reducible refine N.eq ?_ | with_reducible refine N.obl rfl ?_ | with_reducible refine N.obl ⟨by kernel_rfl, by kernel_rfl⟩ ?_ | with_reducible refine N.forkT ?_ | with_reducible refine N.forkF ?_ | with_reducible refine N.call (cMay _ _ _) ?_ | refine N.forkNo (by rw [h]; rfl) ?_ | refine N.forkYes (by rw [h]; rfl) ?_ | refine N.forkNo (by decide) ?_ | refine N.forkYes (by decide) ?_ | fail_if_success skip)
    refine N.go ?_
    refine N.loop (α := Nat) (fun j => j ≤ n) (fun j => n - j) (fun j => [(13, .int .i64 (j : Int))]) (fun j => [(0, ptC2 (rotX j x y) (rotY j x y))]) 0 (Nat.zero_le _) ?_ ?_
    · repeat (refine N.go ?_; first | exact N.true | with_reducible refine N.obl rfl ?_ | with_reducible refine N.obl (ChunkLe.refl _) ?_ | refine N.obl (int_i64 (by rw [IntWalk.i64_in _ (by omega)]; rfl)) ?_ | refine N.obl (two_le rfl rfl rfl rfl) ?_ |  fail_if_success skip)
    · intro j hj
      have hj : j ≤ n := hj
      have b1 := rotX_b j x y 4194304 (by omega) (by omega)
      have b2 := rotY_b j x y 4194304 (by omega) (by omega)
      rcases Nat.lt_or_ge j n with hlt | hge
      · have e1 : IntKind.i64.wrap (0 - rotY j x y) = rotX (j + 1) x y := by rw [i64n _ (by omega) (by omega), rotX_succ]; omega
        have e2 := rotY_succ j x y
        repeat' (refine N.go ?_; first | with_reducible refine N.obl (by decide) ?_ | with_reducible refine N.obl (flat_wi _ _ _) ?_ | with_reducible refine N.obl (flat_lim _ _) ?_ | with_reducible refine N.eq ?_ | with_reducible refine N.obl rfl ?_ | with_reducible refine N.obl ⟨by kernel_rfl, by kernel_rfl⟩ ?_ | with_reducible refine N.forkT ?_ | with_reducible refine N.forkF ?_ | refine N.forkYes (by rw [hq, decide_eq_true_eq]; omega) ?_ | refine N.forkNo (by rw [hq, decide_eq_false_iff_not]; omega) ?_ | fail_if_success skip)
        refine N.go ?_
        refine N.next (j + 1) ⟨by show j + 1 ≤ n; omega, by omega⟩ ?_
        repeat (refine N.go ?_; first | exact N.true | with_reducible refine N.obl rfl ?_ | with_reducible refine N.obl (ChunkLe.refl _) ?_ | refine N.obl (int_i64 (by rw [IntWalk.i64_in _ (by omega)]; rfl)) ?_ | refine N.obl (inteq (by rw [i64n _ (by omega) (by omega)]; omega)) ?_ | refine N.obl (two_le rfl rfl (inteq e1) (inteq e2.symm)) ?_ |  fail_if_success skip)
      · obtain rfl : j = n := by omega
        repeat' (refine N.go ?_; first | with_reducible refine N.obl (by decide) ?_ | with_reducible refine N.obl (flat_wi _ _ _) ?_ | with_reducible refine N.obl (flat_lim _ _) ?_ | with_reducible refine N.eq ?_ | with_reducible refine N.obl rfl ?_ | with_reducible refine N.obl ⟨by kernel_rfl, by kernel_rfl⟩ ?_ | with_reducible refine N.forkT ?_ | with_reducible refine N.forkF ?_ | refine N.forkYes (by rw [hq, decide_eq_true_eq]; omega) ?_ | refine N.forkNo (by rw [hq, decide_eq_false_iff_not]; omega) ?_ | fail_if_success skip)
        all_goals rfl
theorem cQuarter9 (x y k : Int) (h : List (Option Chunk)) : CallOK Try.prog 19 [.agg #[.int .i64 x, .int .i64 y], .int .i64 k] h (.agg #[.int .i64 (quarX x y k), .int .i64 (quarY x y k)]) [] [] := call_pure (by rfl) (by rfl) (Try.call19 _) (quarter9_x x y k)
theorem all2_mapD {F : Nat → Prop} {ρ : Nat → Nat × Nat} : ∀ {vs xs : List Value}, All2 (Den F ρ) vs xs → xs = vs.map (den ρ)
  | [], [], _ => rfl
  | [], _ :: _, h => h.elim
  | _ :: _, [], h => h.elim
  | v :: vs, x :: xs, h => by rw [List.map_cons, all2_mapD h.2, h.1.self]
theorem call_mem {P : Program} {g : FuncId} {vs : List Value} {h : List (Option Chunk)} {v : Value} (rh : List Nat) (hv : plain3 v = true) (hr : ∀ xs w, (callFunc g xs).run P w = .ok (.enter g xs) w)
    (hc : ∀ (ρ : Nat → Nat × Nat) (w : World), (∀ i ∈ rh, ∀ c, h[i]? = some (some c) → ∀ j, j < c.n → w.cell? ⟨(ρ i).1, (ρ i).2 + j, none⟩ = some (den1 ρ (c.f j))) → Calls P g ⟨vs.map (den ρ)⟩ w fun e w' => e = .returned v ∧ Below w.heap.size w w') : CallOK P g vs h v [] rh :=
  fun h₂ hrh _ X ρ w xs H hx => by
    have hxs : xs = vs.map (den ρ) := all2_mapD hx
    subst hxs
    refine .inr ⟨hr _ w, (hc ρ w (fun i hi c hic j hj => ?_)).mono ?_⟩
    · obtain ⟨x, hx, hd⟩ := H.cell i c ((hrh i hi).trans hic) j hj
      rw [hx, hd.self]
    · rintro e w' ⟨rfl, hb⟩
      exact ⟨v, rfl, ρ, AgreeOn.refl _ _, H.frame hb, fun r _ => den_plain3 hv r⟩
theorem cell_lt {w : World} {b o : Nat} {v : Value} (h : w.cell? ⟨b, o, none⟩ = some v) : b < w.heap.size := by
  rcases Nat.lt_or_ge b w.heap.size with h1 | h1
  · exact h1
  · exfalso
    unfold World.cell? at h
    simp [Array.getElem?_eq_none h1] at h
theorem cPathT (i cap : Nat) (l : List (Int × Int)) (k : Int) (o : Bool) (h : List (Option Chunk)) (hi : h[i]? = some (some ⟨o, l.length * 2, [(0, l.length * 2, .agg ⟨segL (l.length * 2) (pts l)⟩)]⟩)) (hm : l.length ≤ 1152921504606846976) (hcap : l.length ≤ cap) :
    CallOK Try.prog 15 [.slice (some ⟨i, 0, some 0⟩) l.length cap, .int .i64 k] h (.tuple #[.agg #[.int .i64 (pathX l (q4 k)), .int .i64 (pathY l (q4 k))], .bool (pathB l (q4 k))]) [] [i] :=
  call_mem [i] rfl (Try.call15) fun ρ w hc => by
    have hs : Seg w w.heap.size (some ⟨(ρ i).1, (ρ i).2 + 0, none⟩) (l.length * 2) (pts l) := fun h0 => by
      have key : ∀ j, j < l.length * 2 → w.cell? ⟨(ρ i).1, (ρ i).2 + j, none⟩ = some (pts l j) := fun j hj => by
        have := hc i (List.mem_singleton.2 rfl) _ hi j hj
        rw [seg_cell hj] at this
        exact this
      refine ⟨_, rfl, cell_lt (key 0 h0), fun j hj => ?_⟩
      rw [add_at, Nat.add_zero]
      exact key j hj
    exact path_any _ cap l k w hm hcap hs
theorem row2 {o : Bool} {l : List (Int × Int)} {i p : Nat} (hi : i < l.length) (hp : p = i * 2) :
    Reads ⟨o, l.length * 2, [(0, l.length * 2, .agg ⟨segL (l.length * 2) (pts l)⟩)]⟩ p true 2 (.agg ⟨[.int .i64 (l.getD i (0, 0)).1, .int .i64 (l.getD i (0, 0)).2]⟩) := by
  subst hp
  refine reads_seg _ (by omega) rfl fun j hj => ?_
  match j, hj with
  | 0, _ => unfold pts; rw [if_pos (by omega), show (i * 2 + 0) / 2 = i from by omega]; rfl
  | 1, _ => unfold pts; rw [if_neg (by omega), show (i * 2 + 1) / 2 = i from by omega]; rfl
theorem pts_lit {l : List (Int × Int)} {n : Nat} : ∀ j, j < n → lit1 (pts l j) = true := fun j _ => rfl
theorem okN_mono {l : List (Int × Int)} {n : Nat} (h : okN l n = true) {j : Nat} (hj : j < n) : stp (l.getD j (0, 0)).1 (l.getD j (0, 0)).2 = true := by
  cases e : stp (l.getD j (0, 0)).1 (l.getD j (0, 0)).2 with
  | true => rfl
  | false => rw [okN_false hj e] at h; cases h
set_option maxRecDepth 100000 in
set_option maxHeartbeats 2000000 in
theorem cQuarterE (x y z k : Int) (hz : z = k) (h : List (Option Chunk)) : CallOK Try.prog 19 [.agg #[.int .i64 x, .int .i64 y], .int .i64 z] h (.agg #[.int .i64 (quarX x y k), .int .i64 (quarY x y k)]) [] [] := by subst hz; exact cQuarter9 x y z h
set_option maxRecDepth 100000 in
set_option maxHeartbeats 2000000 in
theorem cPath9 (i cap : Nat) (l : List (Int × Int)) (k : Int) (o : Bool) (h : List (Option Chunk)) (hi : h[i]? = some (some ⟨o, l.length * 2, [(0, l.length * 2, .agg ⟨segL (l.length * 2) (pts l)⟩)]⟩)) (hm : l.length ≤ 1152921504606846976) :
    CallOK Try.prog 18 [.slice (some ⟨i, 0, some 0⟩) l.length cap, .int .i64 k] h (.tuple #[.agg #[.int .i64 (pathX l (q4 k)), .int .i64 (pathY l (q4 k))], .bool (pathB l (q4 k))]) [] [i] := by
  have hq := q4_of k
  have hq4 := q4_lt k
  generalize q4 k = n at *
  have hl : ∀ j, j < l.length * 2 → lit1 (pts l j) = true := pts_lit
  refine call_sub (G := tys) [⟨i, _, ⟨false, l.length * 2, [(0, l.length * 2, .agg ⟨segL (l.length * 2) (pts l)⟩)]⟩, ⟨false, 0, []⟩⟩] [] [.slice (some ⟨0, 0, some 0⟩) l.length cap, .int .i64 k] tysOK mixed Try.func18 (by rfl) (Try.call18) ⟨hi, trivial⟩ ⟨⟨fun h => (by cases h), Nat.le_refl _, fun j hj => by
    have hj : j < l.length * 2 := hj
    rw [seg_cell hj, seg_cell hj]; exact .plain rfl⟩, trivial⟩ (by simp [Apart]) trivial ⟨.slice rfl, .plain rfl, trivial⟩ ?_
  repeat' (refine N.go ?_; first | with_reducible refine N.obl (by decide) ?_ | with_reducible refine N.obl (flat_wi _ _ _) ?_ | with_reducible refine N.obl (flat_lim _ _) ?_ | with_reducible refine N.eq ?_ | with_reducible refine N.obl rfl ?_ | with_reducible refine N.obl ⟨by kernel_rfl, by kernel_rfl⟩ ?_ | with_reducible refine N.forkT ?_ | with_reducible refine N.forkF ?_ | refine N.forkNo (by decide) ?_ | refine N.forkYes (by decide) ?_ | fail_if_success skip)
  refine N.go ?_
  refine N.loop (α := Nat) (fun j => j ≤ l.length ∧ j ≤ 64 ∧ okN l j = true) (fun j => l.length - j) (fun j => [(17, .int .i64 (j : Int))]) (fun j => [(2, ptC2 (psX n l j) (psY n l j))]) 0 ⟨Nat.zero_le _, Nat.zero_le _, rfl⟩ ?_ ?_
  · repeat (refine N.go ?_; first | exact N.true | with_reducible refine N.obl rfl ?_ | with_reducible refine N.obl (ChunkLe.refl _) ?_ | refine N.obl (int_i64 (by rw [IntWalk.i64_in _ (by omega)]; rfl)) ?_ | refine N.obl (two_le rfl rfl rfl rfl) ?_ | refine N.obl (by first | trivial | rfl) ?_ | refine N.obl (safe_agg (by rfl)) ?_ | refine N.obl (safe_seg hl) ?_ | refine N.obl (safe_row rfl (by rfl)) ?_ |  fail_if_success skip)
  · intro j hj
    obtain ⟨j1, j2, j3⟩ := hj
    have b1 := psX_b n l j
    have b2 := psY_b n l j
    rcases Nat.lt_or_ge j l.length with hlt | hge
    · rcases Nat.lt_or_ge j 64 with h64 | h64
      · have hmo : j < most l := by unfold most; omega
        cases hs : stp (l.getD j (0, 0)).1 (l.getD j (0, 0)).2 with
        | false =>
          have hf := okN_false hmo hs
          have r1 : pathX l n = 0 := by unfold pathX; rw [hf]; rfl
          have r2 : pathY l n = 0 := by unfold pathY; rw [hf]; rfl
          have r3 : pathB l n = false := by unfold pathB; rw [hf]; rfl
          repeat' (refine N.go ?_; first | with_reducible refine N.obl (by decide) ?_ | with_reducible refine N.obl (flat_wi _ _ _) ?_ | with_reducible refine N.obl (flat_lim _ _) ?_ | with_reducible refine N.eq ?_ | with_reducible refine N.obl rfl ?_ | with_reducible refine N.obl ⟨by kernel_rfl, by kernel_rfl⟩ ?_ | with_reducible refine N.forkT ?_ | with_reducible refine N.forkF ?_ | with_reducible refine N.call (cMay _ _ _) ?_ | refine N.obl (by rw [r1, r2, r3]; exact .plain rfl) ?_ | refine N.idx j 1 rfl hlt ?_ | refine N.load _ (row2 hlt (by first | rfl | (show 0 + j * 2 = j * 2; omega))) ?_ | refine N.forkNo (by rw [hs]; rfl) ?_ | refine N.forkYes (by rw [hs]; rfl) ?_ | refine N.forkYes (by rw [decide_eq_true_eq]; omega) ?_ | refine N.forkNo (by rw [decide_eq_false_iff_not]; omega) ?_ | refine N.obl trivial ?_ | exact N.true | refine N.forkNo (by decide) ?_ | refine N.forkYes (by decide) ?_ | fail_if_success skip)
        | true =>
          have t1 := tX_b n l j
          have t2 := tY_b n l j
          have ek : IntKind.i64.wrap ((n : Int) * IntKind.i64.wrap ((j : Int) + 1)) = ((n * (j + 1) : Nat) : Int) := by
            have hnj : n * (j + 1) ≤ 3 * 65 := Nat.mul_le_mul (by omega) (by omega)
            rw [i64n ((j : Int) + 1) (by omega) (by omega), show (n : Int) * ((j : Int) + 1) = ((n * (j + 1) : Nat) : Int) from by rw [Int.natCast_mul]; rfl, i64n _ (by omega) (by omega)]
          have ex : IntKind.i64.wrap (psX n l j + tX n l j) = psX n l (j + 1) := i64n _ (by omega) (by omega)
          have ey : IntKind.i64.wrap (psY n l j + tY n l j) = psY n l (j + 1) := i64n _ (by omega) (by omega)
          have ho : okN l (j + 1) = true := by simp only [okN, j3, hs, Bool.and_self]
          repeat' (refine N.go ?_; first | with_reducible refine N.obl (by decide) ?_ | with_reducible refine N.obl (flat_wi _ _ _) ?_ | with_reducible refine N.obl (flat_lim _ _) ?_ | with_reducible refine N.eq ?_ | with_reducible refine N.obl rfl ?_ | with_reducible refine N.obl ⟨by kernel_rfl, by kernel_rfl⟩ ?_ | with_reducible refine N.forkT ?_ | with_reducible refine N.forkF ?_ | with_reducible refine N.call (cMay _ _ _) ?_ | refine N.call (cQuarterE _ _ _ ((n * (j + 1) : Nat) : Int) (by rw [hq]; exact ek) _) ?_ | refine N.idx j 1 rfl hlt ?_ | refine N.load _ (row2 hlt (by first | rfl | (show 0 + j * 2 = j * 2; omega))) ?_ | refine N.forkNo (by rw [hs]; rfl) ?_ | refine N.forkYes (by rw [hs]; rfl) ?_ | refine N.forkYes (by rw [decide_eq_true_eq]; omega) ?_ | refine N.forkNo (by rw [decide_eq_false_iff_not]; omega) ?_ | refine N.forkNo (by decide) ?_ | refine N.forkYes (by decide) ?_ | fail_if_success skip)
          refine N.go ?_
          refine N.next (j + 1) ⟨⟨by omega, by omega, ho⟩, by omega⟩ ?_
          repeat (refine N.go ?_; first | exact N.true | with_reducible refine N.obl rfl ?_ | with_reducible refine N.obl (ChunkLe.refl _) ?_ | refine N.obl (int_i64 (by rw [IntWalk.i64_in _ (by omega)]; rfl)) ?_ | refine N.obl (inteq (by rw [i64n _ (by omega) (by omega)]; omega)) ?_ | refine N.obl (two_le rfl rfl (inteq ex) (inteq ey)) ?_ | refine N.obl (by first | trivial | rfl) ?_ | refine N.obl (safe_agg (by rfl)) ?_ | refine N.obl (safe_seg hl) ?_ | refine N.obl (safe_row rfl (by rfl)) ?_ |  fail_if_success skip)
      · obtain rfl : j = 64 := by omega
        have hmo : most l = 64 := by unfold most; omega
        cases hs : stp (psX n l 64) (psY n l 64) with
        | false =>
          have r1 : pathX l n = 0 := by unfold pathX; rw [hmo, if_pos j3]; exact (cxF hs).1
          have r2 : pathY l n = 0 := by unfold pathY; rw [hmo, if_pos j3]; exact (cxF hs).2
          have r3 : pathB l n = false := by unfold pathB; rw [hmo, j3, hs]; rfl
          repeat' (refine N.go ?_; first | with_reducible refine N.obl (by decide) ?_ | with_reducible refine N.obl (flat_wi _ _ _) ?_ | with_reducible refine N.obl (flat_lim _ _) ?_ | with_reducible refine N.eq ?_ | with_reducible refine N.obl rfl ?_ | with_reducible refine N.obl ⟨by kernel_rfl, by kernel_rfl⟩ ?_ | with_reducible refine N.forkT ?_ | with_reducible refine N.forkF ?_ | with_reducible refine N.call (cMay _ _ _) ?_ | refine N.obl (by rw [r1, r2, r3]; exact .plain rfl) ?_ | refine N.idx 64 1 rfl hlt ?_ | refine N.load _ (row2 hlt (by first | rfl | (show 0 + 64 * 2 = 64 * 2; omega))) ?_ | refine N.forkNo (by rw [hs]; rfl) ?_ | refine N.forkYes (by rw [hs]; rfl) ?_ | refine N.forkYes (by rw [decide_eq_true_eq]; omega) ?_ | refine N.forkNo (by rw [decide_eq_false_iff_not]; omega) ?_ | refine N.obl trivial ?_ | exact N.true | refine N.forkNo (by decide) ?_ | refine N.forkYes (by decide) ?_ | fail_if_success skip)
        | true =>
          have r1 : pathX l n = psX n l 64 := by unfold pathX; rw [hmo, if_pos j3]; exact (cxT hs).1
          have r2 : pathY l n = psY n l 64 := by unfold pathY; rw [hmo, if_pos j3]; exact (cxT hs).2
          have r3 : pathB l n = true := by unfold pathB; rw [hmo, j3, hs]; rfl
          repeat' (refine N.go ?_; first | with_reducible refine N.obl (by decide) ?_ | with_reducible refine N.obl (flat_wi _ _ _) ?_ | with_reducible refine N.obl (flat_lim _ _) ?_ | with_reducible refine N.eq ?_ | with_reducible refine N.obl rfl ?_ | with_reducible refine N.obl ⟨by kernel_rfl, by kernel_rfl⟩ ?_ | with_reducible refine N.forkT ?_ | with_reducible refine N.forkF ?_ | with_reducible refine N.call (cMay _ _ _) ?_ | refine N.obl (by rw [r1, r2, r3]; exact .plain rfl) ?_ | refine N.idx 64 1 rfl hlt ?_ | refine N.load _ (row2 hlt (by first | rfl | (show 0 + 64 * 2 = 64 * 2; omega))) ?_ | refine N.forkNo (by rw [hs]; rfl) ?_ | refine N.forkYes (by rw [hs]; rfl) ?_ | refine N.forkYes (by rw [decide_eq_true_eq]; omega) ?_ | refine N.forkNo (by rw [decide_eq_false_iff_not]; omega) ?_ | refine N.obl trivial ?_ | exact N.true | refine N.forkNo (by decide) ?_ | refine N.forkYes (by decide) ?_ | fail_if_success skip)
    · have hmo : most l = j := by unfold most; omega
      cases hs : stp (psX n l j) (psY n l j) with
      | false =>
        have r1 : pathX l n = 0 := by unfold pathX; rw [hmo, if_pos j3]; exact (cxF hs).1
        have r2 : pathY l n = 0 := by unfold pathY; rw [hmo, if_pos j3]; exact (cxF hs).2
        have r3 : pathB l n = false := by unfold pathB; rw [hmo, j3, hs]; rfl
        repeat' (refine N.go ?_; first | with_reducible refine N.obl (by decide) ?_ | with_reducible refine N.obl (flat_wi _ _ _) ?_ | with_reducible refine N.obl (flat_lim _ _) ?_ | with_reducible refine N.eq ?_ | with_reducible refine N.obl rfl ?_ | with_reducible refine N.obl ⟨by kernel_rfl, by kernel_rfl⟩ ?_ | with_reducible refine N.forkT ?_ | with_reducible refine N.forkF ?_ | with_reducible refine N.call (cMay _ _ _) ?_ | refine N.obl (by rw [r1, r2, r3]; exact .plain rfl) ?_ | refine N.forkNo (by rw [hs]; rfl) ?_ | refine N.forkYes (by rw [hs]; rfl) ?_ | refine N.forkYes (by rw [decide_eq_true_eq]; omega) ?_ | refine N.forkNo (by rw [decide_eq_false_iff_not]; omega) ?_ | refine N.obl trivial ?_ | exact N.true | refine N.forkNo (by decide) ?_ | refine N.forkYes (by decide) ?_ | fail_if_success skip)
      | true =>
        have r1 : pathX l n = psX n l j := by unfold pathX; rw [hmo, if_pos j3]; exact (cxT hs).1
        have r2 : pathY l n = psY n l j := by unfold pathY; rw [hmo, if_pos j3]; exact (cxT hs).2
        have r3 : pathB l n = true := by unfold pathB; rw [hmo, j3, hs]; rfl
        repeat' (refine N.go ?_; first | with_reducible refine N.obl (by decide) ?_ | with_reducible refine N.obl (flat_wi _ _ _) ?_ | with_reducible refine N.obl (flat_lim _ _) ?_ | with_reducible refine N.eq ?_ | with_reducible refine N.obl rfl ?_ | with_reducible refine N.obl ⟨by kernel_rfl, by kernel_rfl⟩ ?_ | with_reducible refine N.forkT ?_ | with_reducible refine N.forkF ?_ | with_reducible refine N.call (cMay _ _ _) ?_ | refine N.obl (by rw [r1, r2, r3]; exact .plain rfl) ?_ | refine N.forkNo (by rw [hs]; rfl) ?_ | refine N.forkYes (by rw [hs]; rfl) ?_ | refine N.forkYes (by rw [decide_eq_true_eq]; omega) ?_ | refine N.forkNo (by rw [decide_eq_false_iff_not]; omega) ?_ | refine N.obl trivial ?_ | exact N.true | refine N.forkNo (by decide) ?_ | refine N.forkYes (by decide) ?_ | fail_if_success skip)
end Go.Proofs.Ytkjeebabcdnjkaa
