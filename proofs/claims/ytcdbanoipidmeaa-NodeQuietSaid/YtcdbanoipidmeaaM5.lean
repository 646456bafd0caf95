import Derived.Test.YtcdbanoipidmeaaM4

/-
  An empty table: all that it has, what goes out of it.
-/
set_option linter.unusedVariables false
set_option linter.unusedSimpArgs false
namespace Go.Proofs.Ytcdbanoipidmeaa
open Go Go.RowKit Sx

set_option maxRecDepth 100000 in
set_option maxHeartbeats 2000000 in
theorem cAll0 (T : Tbl) (hE : T.E = [])  (i : Nat) (h : List (Option Chunk)) (hi : h[i]? = some (some (tblC T))) :
    CallOK Try.prog 24 [.pointer (some ⟨i, 0, some 0⟩)] h (.slice none 0 0) [(i, tblC T)] [] := by
  refine call_res (G := tys) (livesOK T.lives) (tblH T) [⟨i, tblC T, tblC T, tblC T⟩] [] [.pointer (some ⟨0, 0, some 0⟩)] tysOK mixed Try.func24 (by rfl) (Try.call24) ⟨hi, trivial⟩ ⟨⟨fun h => ⟨rfl, Nat.le_refl _⟩, Nat.le_refl _, fun j hj => absurd hj (Nat.not_lt_zero j)⟩, trivial⟩ (by simp [Apart]) ⟨.inr ⟨rfl, rfl⟩, trivial⟩ trivial ⟨.ptr rfl, trivial⟩ pack_opens ?_
  intro β hβ
  repeat' (refine N.go ?_; first | with_reducible refine N.obl (by decide) ?_ | with_reducible refine N.obl (flat_wi _ _ _) ?_ | with_reducible refine N.obl (flat_lim _ _) ?_ | with_reducible refine N.eq ?_ | with_reducible refine N.obl rfl ?_ | with_reducible refine N.obl ⟨by kernel_rfl, by kernel_rfl⟩ ?_ | with_reducible refine N.alt ?_ | with_reducible refine N.forkT ?_ | with_reducible refine N.forkF ?_ | refine N.call (cKeysT 1 3 _ _ (by rfl) (by rfl)) ?_ | fail_if_success skip)
  refine N.go ?_
  refine N.callAll (cSortedT T.E 1 3 7 _ _ (by rfl) rfl (by rfl) (by rfl) (by rw [hE]; exact Nat.zero_le _)) fun v ms hR => ?_
  rcases hR with ⟨hE0, rfl, rfl⟩ | ⟨kc, hpos, hkc, rfl, rfl⟩
  · repeat' (refine N.go ?_; first | with_reducible refine N.obl (by decide) ?_ | with_reducible refine N.obl (flat_wi _ _ _) ?_ | with_reducible refine N.obl (flat_lim _ _) ?_ | with_reducible refine N.eq ?_ | with_reducible refine N.obl rfl ?_ | with_reducible refine N.obl ⟨by kernel_rfl, by kernel_rfl⟩ ?_ | with_reducible refine N.alt ?_ | with_reducible refine N.forkT ?_ | with_reducible refine N.forkF ?_ | refine N.forkYes (by rw [decide_eq_true_eq]; omega) ?_ | refine N.forkNo (by rw [decide_eq_false_iff_not]; omega) ?_ | fail_if_success skip)
    refine N.go ?_
    refine N.roll 1 ?_
    repeat' (refine N.go ?_; first | with_reducible refine N.obl (by decide) ?_ | with_reducible refine N.obl (flat_wi _ _ _) ?_ | with_reducible refine N.obl (flat_lim _ _) ?_ | with_reducible refine N.eq ?_ | with_reducible refine N.obl rfl ?_ | with_reducible refine N.obl ⟨by kernel_rfl, by kernel_rfl⟩ ?_ | with_reducible refine N.alt ?_ | with_reducible refine N.forkT ?_ | with_reducible refine N.forkF ?_ | refine N.forkYes (by rw [decide_eq_true_eq]; omega) ?_ | refine N.forkNo (by rw [decide_eq_false_iff_not]; omega) ?_ | fail_if_success skip)
    refine N.go ?_
    refine tblClose T β 0 1 2 [] tbl_piece (fun i hi => .inl (by simpa using hi)) hβ (by rfl) (by rfl) (by rfl) (by rfl) (by rfl) (by rfl) (by rfl) (by rfl) (by rfl) (by decide) (fun k hk => by cases hk) safe0 (plain_sc rfl) ?_
    refine N.obl (.plain rfl) ?_
    refine N.obl ⟨⟨_, rfl, id, Nat.le_refl _, fun j hj => absurd hj (Nat.not_lt_zero j)⟩, trivial⟩ ?_
    refine N.obl trivial ?_
    refine N.obl ⟨⟨.inr ⟨_, rfl, rfl⟩, trivial⟩, trivial⟩ ?_
    exact N.true
  · rw [hE] at hpos; exact absurd hpos (Nat.lt_irrefl 0)
set_option maxRecDepth 100000 in
set_option maxHeartbeats 2000000 in
theorem cEvict0 (T : Tbl) (hE : T.E = []) (now silent : Int) (i : Nat) (h : List (Option Chunk)) (hi : h[i]? = some (some (tblC T))) :
    CallOK Try.prog 27 [.pointer (some ⟨i, 0, some 0⟩), .int .i64 now, .int .i64 silent] h (.slice none 0 0) [(i, tblC T)] [] := by
  refine call_res (G := tys) (livesOK T.lives) (tblH T) [⟨i, tblC T, tblC T, tblC T⟩] [] [.pointer (some ⟨0, 0, some 0⟩), .int .i64 now, .int .i64 silent] tysOK mixed Try.func27 (by rfl) (Try.call27) ⟨hi, trivial⟩ ⟨⟨fun h => ⟨rfl, Nat.le_refl _⟩, Nat.le_refl _, fun j hj => absurd hj (Nat.not_lt_zero j)⟩, trivial⟩ (by simp [Apart]) ⟨.inr ⟨rfl, rfl⟩, trivial⟩ trivial ⟨.ptr rfl, .plain rfl, .plain rfl, trivial⟩ pack_opens ?_
  intro β hβ
  repeat' (refine N.go ?_; first | with_reducible refine N.obl (by decide) ?_ | with_reducible refine N.obl (flat_wi _ _ _) ?_ | with_reducible refine N.obl (flat_lim _ _) ?_ | with_reducible refine N.eq ?_ | with_reducible refine N.obl rfl ?_ | with_reducible refine N.obl ⟨by kernel_rfl, by kernel_rfl⟩ ?_ | with_reducible refine N.alt ?_ | with_reducible refine N.forkT ?_ | with_reducible refine N.forkF ?_ | refine N.forkNo (by decide) ?_ | fail_if_success skip)
  refine N.go ?_
  refine N.callAll (cAllI _ _ _ T.E (by rw [hE]; exact Nat.zero_le _) 0 1 2 3 _ (by rfl) (by rfl) (by decide) (by rfl)) fun v ms hR => ?_
  rcases hR with ⟨hE0, rfl, rfl⟩ | ⟨ce, hpos, hce, rfl, rfl⟩
  · repeat' (refine N.go ?_; first | with_reducible refine N.obl (by decide) ?_ | with_reducible refine N.obl (flat_wi _ _ _) ?_ | with_reducible refine N.obl (flat_lim _ _) ?_ | with_reducible refine N.eq ?_ | with_reducible refine N.obl rfl ?_ | with_reducible refine N.obl ⟨by kernel_rfl, by kernel_rfl⟩ ?_ | with_reducible refine N.alt ?_ | with_reducible refine N.forkT ?_ | with_reducible refine N.forkF ?_ | refine N.forkNo (by decide) ?_ | fail_if_success skip)
    refine N.go ?_
    refine N.roll 1 ?_
    repeat' (refine N.go ?_; first | with_reducible refine N.obl (by decide) ?_ | with_reducible refine N.obl (flat_wi _ _ _) ?_ | with_reducible refine N.obl (flat_lim _ _) ?_ | with_reducible refine N.eq ?_ | with_reducible refine N.obl rfl ?_ | with_reducible refine N.obl ⟨by kernel_rfl, by kernel_rfl⟩ ?_ | with_reducible refine N.alt ?_ | with_reducible refine N.forkT ?_ | with_reducible refine N.forkF ?_ | refine N.forkNo (by decide) ?_ | fail_if_success skip)
    refine N.go ?_
    refine tblClose T β 0 1 2 [] tbl_piece (fun i hi => .inl (by simpa using hi)) hβ (by rfl) (by rfl) (by rfl) (by rfl) (by rfl) (by rfl) (by rfl) (by rfl) (by rfl) (by decide) (fun k hk => by cases hk) safe0 (plain_sc rfl) ?_
    refine N.obl (.plain rfl) ?_
    refine N.obl ⟨⟨_, rfl, id, Nat.le_refl _, fun j hj => absurd hj (Nat.not_lt_zero j)⟩, trivial⟩ ?_
    refine N.obl trivial ?_
    refine N.obl ⟨⟨.inr ⟨_, rfl, rfl⟩, trivial⟩, trivial⟩ ?_
    exact N.true
  · rw [hE] at hpos; exact absurd hpos (Nat.lt_irrefl 0)
end Go.Proofs.Ytcdbanoipidmeaa


/-
  A node whose table is empty: it tells of none, asks none.
-/
set_option linter.unusedVariables false
set_option linter.unusedSimpArgs false
namespace Go.Proofs.Ytcdbanoipidmeaa
open Go Go.RowKit Sx

set_option maxRecDepth 100000 in
set_option maxHeartbeats 2000000 in
theorem cTell0 (D : NdS) (T : Tbl) (hE : T.E = []) (i0 i1 i2 i3 i4 i5 : Nat) (h : List (Option Chunk)) (c0 cf cb cm : Chunk) (h0 : h[i0]? = some (some c0)) (h1 : h[i1]? = some (some (ndC D i2 i3 i4 i5))) (h2 : h[i2]? = some (some cf)) (h3 : h[i3]? = some (some (tblC T))) (h4 : h[i4]? = some (some cb)) (h5 : h[i5]? = some (some cm)) (hne : [i0, i1, i2, i3, i4, i5].Nodup) :
    CallOK Try.prog 30 [.pointer (some ⟨i1, 0, some 0⟩), .pointer (some ⟨i0, 0, some 0⟩)] h (.tuple #[]) [(i1, ndC D i2 i3 i4 i5), (i3, tblC T)] [i0, i2, i4, i5] := by
  refine call_res (G := tys) (h := h) (vs := [.pointer (some ⟨i1, 0, some 0⟩), .pointer (some ⟨i0, 0, some 0⟩)]) (fun _ : Unit => True) (fun _ => _) [⟨i0, _, noC, noC⟩, ⟨i1, _, ndC D 2 3 4 5, ndC D i2 i3 i4 i5⟩, ⟨i2, _, noC, noC⟩, ⟨i3, tblC T, tblC T, tblC T⟩, ⟨i4, _, noC, noC⟩, ⟨i5, _, noC, noC⟩] [] [.pointer (some ⟨1, 0, some 0⟩), .pointer (some ⟨0, 0, some 0⟩)] tysOK mixed Try.func30 (by rfl) (Try.call30) ⟨h0, h1, h2, h3, h4, h5, trivial⟩
    ⟨⟨fun h => (by cases h), Nat.zero_le _, fun j hj => absurd hj (Nat.not_lt_zero j)⟩, ⟨fun _ => ⟨rfl, Nat.le_refl _⟩, Nat.le_refl _, ndRe (by rfl) (by rfl) (by rfl) (by rfl)⟩, ⟨fun h => (by cases h), Nat.zero_le _, fun j hj => absurd hj (Nat.not_lt_zero j)⟩, ⟨fun h => ⟨rfl, Nat.le_refl _⟩, Nat.le_refl _, fun j hj => absurd hj (Nat.not_lt_zero j)⟩, ⟨fun h => (by cases h), Nat.zero_le _, fun j hj => absurd hj (Nat.not_lt_zero j)⟩, ⟨fun h => (by cases h), Nat.zero_le _, fun j hj => absurd hj (Nat.not_lt_zero j)⟩, trivial⟩ (by
      simp only [List.nodup_cons, List.mem_cons, List.not_mem_nil, not_or, not_false_eq_true, or_false, and_true] at hne
      simp [Apart]
      omega) ⟨.inl rfl, .inl rfl, .inl rfl, .inr ⟨rfl, rfl⟩, .inl rfl, .inl rfl, trivial⟩ trivial ⟨.ptr (by rfl), .ptr (by rfl), trivial⟩ Opens.same ?_
  rintro ⟨⟩ -
  repeat' (refine N.go ?_; first | with_reducible refine N.obl (by decide) ?_ | with_reducible refine N.obl (flat_wi _ _ _) ?_ | with_reducible refine N.obl (flat_lim _ _) ?_ | with_reducible refine N.eq ?_ | with_reducible refine N.obl rfl ?_ | with_reducible refine N.obl ⟨by kernel_rfl, by kernel_rfl⟩ ?_ | with_reducible refine N.alt ?_ | with_reducible refine N.forkT ?_ | with_reducible refine N.forkF ?_ | refine N.call (cAll0 T hE 3 _ (by rfl)) ?_ | refine N.call (cGTell0 _ _) ?_ | refine N.forkYes (by decide) ?_ | fail_if_success skip)
  refine N.go ?_
  refine N.endSame ?_
  refine N.obl (.plain (by rfl)) ?_
  refine N.obl ⟨⟨_, rfl, id, Nat.le_refl _, ndRe (D := D) (f := i2) (t := i3) (b := i4) (m := i5) (f' := 2) (t' := 3) (b' := 4) (m' := 5) (by rfl) (by rfl) (by rfl) (by rfl)⟩, ⟨_, rfl, id, Nat.le_refl _, fun j hj => absurd hj (Nat.not_lt_zero j)⟩, trivial⟩ ?_
  refine N.obl trivial ?_
  refine N.obl ⟨⟨.inl rfl, .inl rfl, .inl rfl, .inr ⟨_, rfl, rfl⟩, .inl rfl, .inl rfl, trivial⟩, trivial⟩ ?_
  exact N.true
set_option maxRecDepth 100000 in
set_option maxHeartbeats 2000000 in
theorem cPoll0 (D : NdS) (T : Tbl) (hE : T.E = []) (i0 i1 i2 i3 i4 i5 : Nat) (h : List (Option Chunk)) (c0 cf cb cm : Chunk) (h0 : h[i0]? = some (some c0)) (h1 : h[i1]? = some (some (ndC D i2 i3 i4 i5))) (h2 : h[i2]? = some (some cf)) (h3 : h[i3]? = some (some (tblC T))) (h4 : h[i4]? = some (some cb)) (h5 : h[i5]? = some (some cm)) (hne : [i0, i1, i2, i3, i4, i5].Nodup) :
    CallOK Try.prog 31 [.pointer (some ⟨i1, 0, some 0⟩), .pointer (some ⟨i0, 0, some 0⟩)] h (.tuple #[]) [(i1, ndC D i2 i3 i4 i5), (i3, tblC T)] [i0, i2, i4, i5] := by
  refine call_res (G := tys) (h := h) (vs := [.pointer (some ⟨i1, 0, some 0⟩), .pointer (some ⟨i0, 0, some 0⟩)]) (fun _ : Unit => True) (fun _ => _) [⟨i0, _, noC, noC⟩, ⟨i1, _, ndC D 2 3 4 5, ndC D i2 i3 i4 i5⟩, ⟨i2, _, noC, noC⟩, ⟨i3, tblC T, tblC T, tblC T⟩, ⟨i4, _, noC, noC⟩, ⟨i5, _, noC, noC⟩] [] [.pointer (some ⟨1, 0, some 0⟩), .pointer (some ⟨0, 0, some 0⟩)] tysOK mixed Try.func31 (by rfl) (Try.call31) ⟨h0, h1, h2, h3, h4, h5, trivial⟩
    ⟨⟨fun h => (by cases h), Nat.zero_le _, fun j hj => absurd hj (Nat.not_lt_zero j)⟩, ⟨fun _ => ⟨rfl, Nat.le_refl _⟩, Nat.le_refl _, ndRe (by rfl) (by rfl) (by rfl) (by rfl)⟩, ⟨fun h => (by cases h), Nat.zero_le _, fun j hj => absurd hj (Nat.not_lt_zero j)⟩, ⟨fun h => ⟨rfl, Nat.le_refl _⟩, Nat.le_refl _, fun j hj => absurd hj (Nat.not_lt_zero j)⟩, ⟨fun h => (by cases h), Nat.zero_le _, fun j hj => absurd hj (Nat.not_lt_zero j)⟩, ⟨fun h => (by cases h), Nat.zero_le _, fun j hj => absurd hj (Nat.not_lt_zero j)⟩, trivial⟩ (by
      simp only [List.nodup_cons, List.mem_cons, List.not_mem_nil, not_or, not_false_eq_true, or_false, and_true] at hne
      simp [Apart]
      omega) ⟨.inl rfl, .inl rfl, .inl rfl, .inr ⟨rfl, rfl⟩, .inl rfl, .inl rfl, trivial⟩ trivial ⟨.ptr (by rfl), .ptr (by rfl), trivial⟩ Opens.same ?_
  rintro ⟨⟩ -
  repeat' (refine N.go ?_; first | with_reducible refine N.obl (by decide) ?_ | with_reducible refine N.obl (flat_wi _ _ _) ?_ | with_reducible refine N.obl (flat_lim _ _) ?_ | with_reducible refine N.eq ?_ | with_reducible refine N.obl rfl ?_ | with_reducible refine N.obl ⟨by kernel_rfl, by kernel_rfl⟩ ?_ | with_reducible refine N.alt ?_ | with_reducible refine N.forkT ?_ | with_reducible refine N.forkF ?_ | refine N.roll 1 ?_ | refine N.call (cAll0 T hE 3 _ (by rfl)) ?_ | refine N.call (cGNext0 _ _) ?_ | refine N.forkNo (by decide) ?_ | refine N.forkYes (by decide) ?_ | fail_if_success skip)
  refine N.go ?_
  refine N.endSame ?_
  refine N.obl (.plain (by rfl)) ?_
  refine N.obl ⟨⟨_, rfl, id, Nat.le_refl _, ndRe (D := D) (f := i2) (t := i3) (b := i4) (m := i5) (f' := 2) (t' := 3) (b' := 4) (m' := 5) (by rfl) (by rfl) (by rfl) (by rfl)⟩, ⟨_, rfl, id, Nat.le_refl _, fun j hj => absurd hj (Nat.not_lt_zero j)⟩, trivial⟩ ?_
  refine N.obl trivial ?_
  refine N.obl ⟨⟨.inl rfl, .inl rfl, .inl rfl, .inr ⟨_, rfl, rfl⟩, .inl rfl, .inl rfl, trivial⟩, trivial⟩ ?_
  exact N.true
end Go.Proofs.Ytcdbanoipidmeaa


/-
  A node as one stretch.
-/
set_option linter.unusedVariables false
set_option linter.unusedSimpArgs false
namespace Go.Proofs.Ytcdbanoipidmeaa
open Go Go.RowKit Sx

/-- What a node is: its own cells, its filter, its table, its bucket, its timer. -/
structure NSt where
  C : Nat → Int
  id : Int
  boot : Int
  seq : Int
  told : Int
  asked : Int
  bad : Int
  fm : Int
  fv : Bool
  fx : Int
  fy : Int
  fa : Int
  fb : Int
  fd : Int
  T : Tbl
  bn : Int
  bl : Int
  te : Int
  tx : Int
abbrev NSt.nd (s : NSt) (g : Nat → Nat × Nat) : NdS := ⟨s.C, s.id, s.boot, g, s.seq, s.told, s.asked, s.bad⟩
abbrev ndH (s : NSt) (g : Nat → Nat × Nat) : List (Option Chunk) := [some (ndC (s.nd g) 1 2 3 4), some (fiC s.fm s.fv s.fx s.fy s.fa s.fb s.fd), some (tblC s.T), some (twC s.bn s.bl), some (twC s.te s.tx)]
abbrev ndP (s : NSt) : Chunk := packC (fun _ : Nat → Nat × Nat => True) (ndH s)
theorem ndClose {ss : List Piece} {h : List (Option Chunk)} {v : Value} {K : Value → List (Option Chunk) → Prop} (s : NSt) (g : Nat → Nat × Nat) (m i1 i2 i3 i4 : Nat) (keep : List Nat) {c c1 c3 c4 : Chunk} (hpc : ∀ l, (l = m ∨ l = i1 ∨ l = i2 ∨ l = i3 ∨ l = i4) → l < ss.length → ∃ s, ss[l]? = some s ∧ s.e.x ≠ Ext.none ∧ Selfish s.e.x) (hbs : ∀ i, i < ss.length → i = m ∨ i ∈ keep)
    (hm : h[m]? = some (some c)) (ho : c.own = true) (hn : c.n = 85) (hc : ∀ j, j < 85 → Re1 [(0, m), (1, i1), (2, i2), (3, i3), (4, i4)] (c.f j) ((ndC (s.nd g) 1 2 3 4).f j))
    (h1 : h[i1]? = some (some c1)) (ho1 : c1.own = true) (hn1 : c1.n = 7) (hc1 : ∀ j, j < 7 → Re1 [(0, m), (1, i1), (2, i2), (3, i3), (4, i4)] (c1.f j) ((fiC s.fm s.fv s.fx s.fy s.fa s.fb s.fd).f j))
    (h2 : h[i2]? = some (some (tblC s.T)))
    (h3 : h[i3]? = some (some c3)) (ho3 : c3.own = true) (hn3 : c3.n = 2) (hc3 : ∀ j, j < 2 → Re1 [(0, m), (1, i1), (2, i2), (3, i3), (4, i4)] (c3.f j) ((twC s.bn s.bl).f j))
    (h4 : h[i4]? = some (some c4)) (ho4 : c4.own = true) (hn4 : c4.n = 2) (hc4 : ∀ j, j < 2 → Re1 [(0, m), (1, i1), (2, i2), (3, i3), (4, i4)] (c4.f j) ((twC s.te s.tx).f j))
    (hd : ixOne [(0, m), (1, i1), (2, i2), (3, i3), (4, i4)] = true)
    (hkk : ∀ k ∈ keep, k ≠ m ∧ k ≠ i1 ∧ k ≠ i2 ∧ k ≠ i3 ∧ k ≠ i4) (hkd : ∀ k ∈ keep, ∀ (d : Chunk), h[k]? = some (some d) → ∀ l, l < d.n → Safe1 (closeH (ndP s) m keep h 0) (d.f l))
    (hv : ∀ ρ ρ', AgreeOn (Fil (closeH (ndP s) m keep h 0)) ρ ρ' → den ρ' v = den ρ v) (kk : K v (closeH (ndP s) m keep h 0)) : N (EndN ss h v K) := by
  refine closeN (ok := fun _ : Nat → Nat × Nat => True) (hB := ndH s) g m [(0, m), (1, i1), (2, i2), (3, i3), (4, i4)] keep (fun k l hk hl => hpc l ?_ hl) hbs trivial rfl ⟨_, rfl⟩ hd rfl ?_ (fun k hk l i' hm' => ?_) hkd hv (List.getElem?_eq_some_iff.1 hm).1 kk
  · simp only [List.mem_cons, Prod.mk.injEq, List.not_mem_nil, or_false] at hk
    omega
  · intro k d hk
    match k, hk with
    | 0, hk =>
      obtain rfl : _ = d := by simpa using hk
      exact ⟨m, c, rfl, hm, ho, by rw [hn]; exact Nat.le_refl _, hc, .inl rfl, .inl (by omega)⟩
    | 1, hk =>
      obtain rfl : _ = d := by simpa using hk
      exact ⟨i1, c1, rfl, h1, ho1, by rw [hn1]; exact Nat.le_refl _, hc1, .inl rfl, .inl (by omega)⟩
    | 2, hk =>
      obtain rfl : _ = d := by simpa using hk
      exact ⟨i2, _, rfl, h2, rfl, Nat.le_refl _, fun j hj => absurd hj (Nat.not_lt_zero j), .inr rfl, .inr packX_selfish⟩
    | 3, hk =>
      obtain rfl : _ = d := by simpa using hk
      exact ⟨i3, c3, rfl, h3, ho3, by rw [hn3]; exact Nat.le_refl _, hc3, .inl rfl, .inl (by omega)⟩
    | 4, hk =>
      obtain rfl : _ = d := by simpa using hk
      exact ⟨i4, c4, rfl, h4, ho4, by rw [hn4]; exact Nat.le_refl _, hc4, .inl rfl, .inl (by omega)⟩
    | k + 5, hk => simp at hk
  · have := hkk k hk
    simp only [List.mem_cons, Prod.mk.injEq, List.not_mem_nil, or_false] at hm'
    omega
end Go.Proofs.Ytcdbanoipidmeaa


/-
  A node alone: a tick.
-/
set_option linter.unusedVariables false
set_option linter.unusedSimpArgs false
namespace Go.Proofs.Ytcdbanoipidmeaa
open Go Go.RowKit Sx

set_option maxRecDepth 100000 in
set_option maxHeartbeats 2000000 in
theorem ndtime_x (s : Int)  (w : World) : Calls Try.prog 25 #[.int .i64 s] w fun e w' => e = .returned (.bool (decide (0 ≤ s ∧ s ≤ 1000000))) ∧ Below w.heap.size w w' := by
  refine calls_pure (G := tys) w tysOK mixed Try.func25 (by rfl) (by first | rfl | (simp only [List.all_cons, List.all_nil, plain_wz, plain_lim, plain_wi]; rfl)) (by first | exact plain3_wz _ | exact plain3_wi _ _ _ | rfl | (simp only [plain3, List.all_cons, List.all_nil, plain_wz, plain_lim, plain_wi]; rfl)) ?_
  repeat' (refine N.go ?_; first | with_reducible refine N.obl (by decide) ?_ | with_reducible refine N.obl (flat_wi _ _ _) ?_ | with_reducible refine N.obl (flat_lim _ _) ?_ | with_reducible refine N.eq ?_ | with_reducible refine N.obl rfl ?_ | with_reducible refine N.obl ⟨by kernel_rfl, by kernel_rfl⟩ ?_ | with_reducible refine N.alt ?_ | with_reducible refine N.forkT ?_ | with_reducible refine N.forkF ?_ | refine N.fork (fun hb => ?_) (fun hb => ?_) | fail_if_success skip)
  all_goals
    refine boolD ?_
    simp only [decide_eq_true_eq, decide_eq_false_iff_not, Bool.false_eq_true, false_iff, true_iff, iff_true, iff_false, reduceCtorEq, not_true_eq_false, not_false_eq_true, ge_iff_le, gt_iff_lt] at *
    omega
theorem cNdTime (s : Int) (h : List (Option Chunk)) : CallOK Try.prog 25 [.int .i64 s] h (.bool (decide (0 ≤ s ∧ s ≤ 1000000))) [] [] := call_pure rfl rfl (Try.call25 _) (ndtime_x s)
theorem ndP_ne (s : NSt) : (ndP s).x ≠ Ext.none := fun e => by
  have h1 : ∀ p S w, (ndP s).x.inv p S w → S p.1 := packX_selfish
  rw [e] at h1
  exact (h1 (0, 0) (fun _ => False) default fun _ h => h).elim
theorem nd_piece {i : Nat} {T T' : NSt} : ∀ l, (l = 0 ∨ l = 1 ∨ l = 2 ∨ l = 3 ∨ l = 4) → l < [(⟨i, ndP T, ndP T, ndP T'⟩ : Piece)].length → ∃ s, [(⟨i, ndP T, ndP T, ndP T'⟩ : Piece)][l]? = some s ∧ s.e.x ≠ Ext.none ∧ Selfish s.e.x := fun l _ hl => by
  obtain rfl : l = 0 := by simpa using hl
  exact ⟨_, rfl, ndP_ne T, packX_selfish⟩
set_option maxRecDepth 100000 in
set_option maxHeartbeats 2000000 in
theorem cTickN (s : NSt) (hE : s.T.E = []) (now fine : Int) (ht : 0 ≤ now ∧ now ≤ 1000000) (hd : now < s.tx) (i : Nat) (h : List (Option Chunk)) (hi : h[i]? = some (some (ndP s))) :
    CallOK Try.prog 9 [.pointer (some ⟨i, 0, some 0⟩), .int .i64 now, .int .i64 fine] h (.slice none 0 0) [(i, ndP {s with bl := s.bn})] [] := by
  refine call_res (G := tys) (fun _ : Nat → Nat × Nat => True) (ndH s) [⟨i, ndP s, ndP s, ndP {s with bl := s.bn}⟩] [] [.pointer (some ⟨0, 0, some 0⟩), .int .i64 now, .int .i64 fine] tysOK mixed Try.func9 (by rfl) (Try.call9) ⟨hi, trivial⟩ ⟨⟨fun h => ⟨rfl, Nat.le_refl _⟩, Nat.le_refl _, fun j hj => absurd hj (Nat.not_lt_zero j)⟩, trivial⟩ (by simp [Apart]) ⟨.inr ⟨rfl, rfl⟩, trivial⟩ trivial ⟨.ptr rfl, .plain rfl, .plain rfl, trivial⟩ pack_opens ?_
  intro g _
  repeat' (refine N.go ?_; first | with_reducible refine N.obl (by decide) ?_ | with_reducible refine N.obl (flat_wi _ _ _) ?_ | with_reducible refine N.obl (flat_lim _ _) ?_ | with_reducible refine N.eq ?_ | with_reducible refine N.obl rfl ?_ | with_reducible refine N.obl ⟨by kernel_rfl, by kernel_rfl⟩ ?_ | with_reducible refine N.alt ?_ | with_reducible refine N.forkT ?_ | with_reducible refine N.forkF ?_ | refine N.call (cNdTime now _) ?_ | refine N.forkNo (by rw [decide_eq_true ht]; rfl) ?_ | refine N.call (cBuTick s.bn s.bl 3 _ (by rfl)) ?_ | refine N.call (cEvict0 s.T hE _ _ 2 _ (by rfl)) ?_ | refine N.call (cTiDueN s.te s.tx now 4 _ (by rfl) (.inl hd)) ?_ | refine N.forkNo (by decide) ?_ | refine N.forkYes (by decide) ?_ | fail_if_success skip)
  refine N.go ?_
  refine ndClose {s with bl := s.bn} g 0 1 2 3 4 [] nd_piece (fun i hi => .inl (by simpa using hi)) (by rfl) rfl rfl (ndRe (D := s.nd g) (f := 1) (t := 2) (b := 3) (m := 4) (f' := 1) (t' := 2) (b' := 3) (m' := 4) (by rfl) (by rfl) (by rfl) (by rfl)) (by rfl) rfl rfl re7 (by rfl) (by rfl) rfl rfl re2 (by rfl) rfl rfl re2 (by rfl) (fun k hk => by cases hk) (fun k hk => by cases hk) (plain_sc rfl) ?_
  refine N.obl (.plain rfl) ?_
  refine N.obl ⟨⟨_, rfl, id, Nat.le_refl _, fun j hj => absurd hj (Nat.not_lt_zero j)⟩, trivial⟩ ?_
  refine N.obl trivial ?_
  refine N.obl ⟨⟨.inr ⟨_, rfl, rfl⟩, trivial⟩, trivial⟩ ?_
  exact N.true
set_option maxRecDepth 100000 in
set_option maxHeartbeats 2000000 in
theorem cTickE (s : NSt) (hE : s.T.E = []) (hv : s.fv = true) (now fine : Int) (ht : 0 ≤ now ∧ now ≤ 1000000) (hd : ¬ now < s.tx) (hte : 0 ≤ s.te ∧ s.te ≤ 1000000) (hbn : 0 < s.bn ∧ s.bn < 1000) (hs : 0 ≤ s.seq ∧ s.seq < 65535) (hb : 0 ≤ s.boot ∧ s.boot ≤ 65535) (i K : Nat) (h : List (Option Chunk)) (hi : h[i]? = some (some (ndP s))) (hK : h[K]? = some none) :
    CallAll Try.prog 9 [.pointer (some ⟨i, 0, some 0⟩), .int .i64 now, .int .i64 fine] h (fun v ms => ∃ κ : Nat, 1 ≤ κ ∧ v = .slice (some ⟨K, 0, some 0⟩) 1 κ ∧ ms = [(i, ndP {s with bl := s.bn - 1, seq := s.seq + 1, tx := now + s.te}), (K, outC (outV 5 s.id s.boot s.seq now 0 0 0 0 0 s.fx s.fy s.fa s.fb s.fd fine))]) := by
  have key := call_resall (G := tys) (h := h) (vs := [.pointer (some ⟨i, 0, some 0⟩), .int .i64 now, .int .i64 fine]) (fun _ : Nat → Nat × Nat => True) (ndH s) (α := Nat) (fun κ => 1 ≤ κ) (fun κ => .slice (some ⟨K, 0, some 0⟩) 1 κ) [⟨i, ndP s, ndP s, ndP s⟩] (fun _ => [ndP {s with bl := s.bn - 1, seq := s.seq + 1, tx := now + s.te}]) (fun κ => [⟨K, 6, outC (outV 5 s.id s.boot s.seq now 0 0 0 0 0 s.fx s.fy s.fa s.fb s.fd fine)⟩]) [.pointer (some ⟨0, 0, some 0⟩), .int .i64 now, .int .i64 fine] tysOK mixed Try.func9 (by rfl) (Try.call9) ⟨hi, trivial⟩ ⟨⟨fun h => ⟨rfl, Nat.le_refl _⟩, Nat.le_refl _, fun j hj => absurd hj (Nat.not_lt_zero j)⟩, trivial⟩ (fun κ _ => ⟨⟨fun h => ⟨rfl, Nat.le_refl _⟩, Nat.le_refl _, fun j hj => absurd hj (Nat.not_lt_zero j)⟩, trivial⟩) (by simp [Apart]) ⟨.inr ⟨rfl, rfl⟩, trivial⟩ (fun κ hκ => ⟨⟨hK, rfl, .inl (by show 0 < 16; decide), by simp⟩, trivial⟩) ⟨.ptr rfl, .plain rfl, .plain rfl, trivial⟩ pack_opens ?_
  · refine callAll_mono key fun v ms hR => ?_
    obtain ⟨κ, hκ, rfl, rfl⟩ := hR
    exact ⟨κ, hκ, rfl, rfl⟩
  intro g _
  repeat' (refine N.go ?_; first | with_reducible refine N.obl (by decide) ?_ | with_reducible refine N.obl (flat_wi _ _ _) ?_ | with_reducible refine N.obl (flat_lim _ _) ?_ | with_reducible refine N.eq ?_ | with_reducible refine N.obl rfl ?_ | with_reducible refine N.obl ⟨by kernel_rfl, by kernel_rfl⟩ ?_ | with_reducible refine N.alt ?_ | with_reducible refine N.forkT ?_ | with_reducible refine N.forkF ?_ | refine N.call (cNdTime now _) ?_ | refine N.forkNo (by rw [decide_eq_true ht]; rfl) ?_ | refine N.call (cBuTick s.bn s.bl 3 _ (by rfl)) ?_ | refine N.call (cEvict0 s.T hE _ _ 2 _ (by rfl)) ?_ | refine N.call (cTiDueY s.te s.tx now 4 _ (by rfl) ⟨hd, by omega⟩ (by omega)) ?_ | refine N.call (cFiValid _ _ _ _ _ _ _ 1 _ (by rfl)) ?_ | refine N.call (cFiE _ _ _ _ _ _ _ 1 _ (by rfl)) ?_ | refine N.forkYes hv ?_ | refine N.forkNo hv ?_ | refine N.forkNo (by decide) ?_ | refine N.forkYes (by decide) ?_ | fail_if_success skip)
  refine N.go ?_
  refine N.callAll (cSendY (s.nd g) now fine s.bn s.bn 5 0 0 0 0 0 0 0 0 0 s.fx s.fy s.fa s.fb s.fd (by omega) hs hb 5 0 1 2 3 4 6 _ _ _ _ (by rfl) (by rfl) (by rfl) (by rfl) (by rfl) (by rfl) (by rfl) (by decide)) fun v ms hR => ?_
  obtain ⟨κ, hκ, rfl, rfl⟩ := hR
  repeat' (refine N.go ?_; first | with_reducible refine N.obl (by decide) ?_ | with_reducible refine N.obl (flat_wi _ _ _) ?_ | with_reducible refine N.obl (flat_lim _ _) ?_ | with_reducible refine N.eq ?_ | with_reducible refine N.obl rfl ?_ | with_reducible refine N.obl ⟨by kernel_rfl, by kernel_rfl⟩ ?_ | with_reducible refine N.alt ?_ | with_reducible refine N.forkT ?_ | with_reducible refine N.forkF ?_ | refine N.call (cTell0 _ s.T hE 5 0 1 2 3 4 _ _ _ _ _ (by rfl) (by rfl) (by rfl) (by rfl) (by rfl) (by rfl) (by decide)) ?_ | refine N.call (cPoll0 _ s.T hE 5 0 1 2 3 4 _ _ _ _ _ (by rfl) (by rfl) (by rfl) (by rfl) (by rfl) (by rfl) (by decide)) ?_ | fail_if_success skip)
  refine N.go ?_
  refine ndClose {s with bl := s.bn - 1, seq := s.seq + 1, tx := now + s.te} g 0 1 2 3 4 [6] nd_piece (fun i hi => .inl (by simpa using hi)) (by rfl) rfl rfl (ndRe (D := {s.nd g with seq := s.seq + 1}) (f := 1) (t := 2) (b := 3) (m := 4) (f' := 1) (t' := 2) (b' := 3) (m' := 4) (by rfl) (by rfl) (by rfl) (by rfl)) (by rfl) rfl rfl re7 (by rfl) (by rfl) rfl rfl re2 (by rfl) rfl rfl re2 (by rfl) (fun k hk => by simp at hk; omega) (fun k hk d hd l hl => ?_) (fun ρ ρ' ha => by have := ha 6 ⟨_, rfl⟩; simp [den, den2, den1, den0, denA, this]) ?_
  · obtain rfl : k = 6 := by simpa using hk
    obtain rfl : outC _ = d := by simpa using hd
    have hl : l < 16 := hl
    generalize closeH _ _ _ _ _ = HH
    exact lt16 (p := fun j => Safe1 HH (Chunk.f (outC (outV 5 s.id s.boot s.seq now 0 0 0 0 0 s.fx s.fy s.fa s.fb s.fd fine)) j)) trivial trivial trivial trivial trivial trivial trivial trivial trivial trivial trivial trivial trivial trivial trivial trivial l hl
  refine N.some κ ⟨hκ, ?_⟩
  refine N.obl (.one (.slice (by rfl))) ?_
  refine N.obl ⟨⟨_, rfl, id, Nat.le_refl _, fun j hj => absurd hj (Nat.not_lt_zero j)⟩, trivial⟩ ?_
  refine N.obl ⟨⟨Nat.le_of_ble_eq_true rfl, _, rfl, id, Nat.le_refl _, lt16 (.plain rfl) (.plain rfl) (.plain rfl) (.plain rfl) (.plain rfl) (.plain rfl) (.plain rfl) (.plain rfl) (.plain rfl) (.plain rfl) (.plain rfl) (.plain rfl) (.plain rfl) (.plain rfl) (.plain rfl) (.plain rfl)⟩, trivial⟩ ?_
  refine N.obl ⟨⟨.inr ⟨_, rfl, rfl⟩, trivial⟩, .inl rfl, trivial⟩ ?_
  exact N.true
set_option maxRecDepth 100000 in
set_option maxHeartbeats 2000000 in
theorem cTickB (s : NSt) (hE : s.T.E = []) (hv : s.fv = false) (now fine : Int) (ht : 0 ≤ now ∧ now ≤ 1000000) (hd : ¬ now < s.tx) (hte : 0 ≤ s.te ∧ s.te ≤ 1000000) (hbn : 0 < s.bn ∧ s.bn < 1000) (hs : 0 ≤ s.seq ∧ s.seq < 65535) (hb : 0 ≤ s.boot ∧ s.boot ≤ 65535) (i K : Nat) (h : List (Option Chunk)) (hi : h[i]? = some (some (ndP s))) (hK : h[K]? = some none) :
    CallAll Try.prog 9 [.pointer (some ⟨i, 0, some 0⟩), .int .i64 now, .int .i64 fine] h (fun v ms => ∃ κ : Nat, 1 ≤ κ ∧ v = .slice (some ⟨K, 0, some 0⟩) 1 κ ∧ ms = [(i, ndP {s with bl := s.bn - 1, seq := s.seq + 1, tx := now + s.te}), (K, outC (outV 1 s.id s.boot s.seq now 0 0 0 0 0 0 0 0 0 0 fine))]) := by
  have key := call_resall (G := tys) (h := h) (vs := [.pointer (some ⟨i, 0, some 0⟩), .int .i64 now, .int .i64 fine]) (fun _ : Nat → Nat × Nat => True) (ndH s) (α := Nat) (fun κ => 1 ≤ κ) (fun κ => .slice (some ⟨K, 0, some 0⟩) 1 κ) [⟨i, ndP s, ndP s, ndP s⟩] (fun _ => [ndP {s with bl := s.bn - 1, seq := s.seq + 1, tx := now + s.te}]) (fun κ => [⟨K, 6, outC (outV 1 s.id s.boot s.seq now 0 0 0 0 0 0 0 0 0 0 fine)⟩]) [.pointer (some ⟨0, 0, some 0⟩), .int .i64 now, .int .i64 fine] tysOK mixed Try.func9 (by rfl) (Try.call9) ⟨hi, trivial⟩ ⟨⟨fun h => ⟨rfl, Nat.le_refl _⟩, Nat.le_refl _, fun j hj => absurd hj (Nat.not_lt_zero j)⟩, trivial⟩ (fun κ _ => ⟨⟨fun h => ⟨rfl, Nat.le_refl _⟩, Nat.le_refl _, fun j hj => absurd hj (Nat.not_lt_zero j)⟩, trivial⟩) (by simp [Apart]) ⟨.inr ⟨rfl, rfl⟩, trivial⟩ (fun κ hκ => ⟨⟨hK, rfl, .inl (by show 0 < 16; decide), by simp⟩, trivial⟩) ⟨.ptr rfl, .plain rfl, .plain rfl, trivial⟩ pack_opens ?_
  · refine callAll_mono key fun v ms hR => ?_
    obtain ⟨κ, hκ, rfl, rfl⟩ := hR
    exact ⟨κ, hκ, rfl, rfl⟩
  intro g _
  repeat' (refine N.go ?_; first | with_reducible refine N.obl (by decide) ?_ | with_reducible refine N.obl (flat_wi _ _ _) ?_ | with_reducible refine N.obl (flat_lim _ _) ?_ | with_reducible refine N.eq ?_ | with_reducible refine N.obl rfl ?_ | with_reducible refine N.obl ⟨by kernel_rfl, by kernel_rfl⟩ ?_ | with_reducible refine N.alt ?_ | with_reducible refine N.forkT ?_ | with_reducible refine N.forkF ?_ | refine N.call (cNdTime now _) ?_ | refine N.forkNo (by rw [decide_eq_true ht]; rfl) ?_ | refine N.call (cBuTick s.bn s.bl 3 _ (by rfl)) ?_ | refine N.call (cEvict0 s.T hE _ _ 2 _ (by rfl)) ?_ | refine N.call (cTiDueY s.te s.tx now 4 _ (by rfl) ⟨hd, by omega⟩ (by omega)) ?_ | refine N.call (cFiValid _ _ _ _ _ _ _ 1 _ (by rfl)) ?_ | refine N.call (cFiE _ _ _ _ _ _ _ 1 _ (by rfl)) ?_ | refine N.forkYes hv ?_ | refine N.forkNo hv ?_ | refine N.forkNo (by decide) ?_ | refine N.forkYes (by decide) ?_ | fail_if_success skip)
  refine N.go ?_
  refine N.callAll (cSendY (s.nd g) now fine s.bn s.bn 1 0 0 0 0 0 0 0 0 0 0 0 0 0 0 (by omega) hs hb 5 0 1 2 3 4 6 _ _ _ _ (by rfl) (by rfl) (by rfl) (by rfl) (by rfl) (by rfl) (by rfl) (by decide)) fun v ms hR => ?_
  obtain ⟨κ, hκ, rfl, rfl⟩ := hR
  repeat' (refine N.go ?_; first | with_reducible refine N.obl (by decide) ?_ | with_reducible refine N.obl (flat_wi _ _ _) ?_ | with_reducible refine N.obl (flat_lim _ _) ?_ | with_reducible refine N.eq ?_ | with_reducible refine N.obl rfl ?_ | with_reducible refine N.obl ⟨by kernel_rfl, by kernel_rfl⟩ ?_ | with_reducible refine N.alt ?_ | with_reducible refine N.forkT ?_ | with_reducible refine N.forkF ?_ | refine N.call (cTell0 _ s.T hE 5 0 1 2 3 4 _ _ _ _ _ (by rfl) (by rfl) (by rfl) (by rfl) (by rfl) (by rfl) (by decide)) ?_ | refine N.call (cPoll0 _ s.T hE 5 0 1 2 3 4 _ _ _ _ _ (by rfl) (by rfl) (by rfl) (by rfl) (by rfl) (by rfl) (by decide)) ?_ | fail_if_success skip)
  refine N.go ?_
  refine ndClose {s with bl := s.bn - 1, seq := s.seq + 1, tx := now + s.te} g 0 1 2 3 4 [6] nd_piece (fun i hi => .inl (by simpa using hi)) (by rfl) rfl rfl (ndRe (D := {s.nd g with seq := s.seq + 1}) (f := 1) (t := 2) (b := 3) (m := 4) (f' := 1) (t' := 2) (b' := 3) (m' := 4) (by rfl) (by rfl) (by rfl) (by rfl)) (by rfl) rfl rfl re7 (by rfl) (by rfl) rfl rfl re2 (by rfl) rfl rfl re2 (by rfl) (fun k hk => by simp at hk; omega) (fun k hk d hd l hl => ?_) (fun ρ ρ' ha => by have := ha 6 ⟨_, rfl⟩; simp [den, den2, den1, den0, denA, this]) ?_
  · obtain rfl : k = 6 := by simpa using hk
    obtain rfl : outC _ = d := by simpa using hd
    have hl : l < 16 := hl
    generalize closeH _ _ _ _ _ = HH
    exact lt16 (p := fun j => Safe1 HH (Chunk.f (outC (outV 1 s.id s.boot s.seq now 0 0 0 0 0 0 0 0 0 0 fine)) j)) trivial trivial trivial trivial trivial trivial trivial trivial trivial trivial trivial trivial trivial trivial trivial trivial l hl
  refine N.some κ ⟨hκ, ?_⟩
  refine N.obl (.one (.slice (by rfl))) ?_
  refine N.obl ⟨⟨_, rfl, id, Nat.le_refl _, fun j hj => absurd hj (Nat.not_lt_zero j)⟩, trivial⟩ ?_
  refine N.obl ⟨⟨Nat.le_of_ble_eq_true rfl, _, rfl, id, Nat.le_refl _, lt16 (.plain rfl) (.plain rfl) (.plain rfl) (.plain rfl) (.plain rfl) (.plain rfl) (.plain rfl) (.plain rfl) (.plain rfl) (.plain rfl) (.plain rfl) (.plain rfl) (.plain rfl) (.plain rfl) (.plain rfl) (.plain rfl)⟩, trivial⟩ ?_
  refine N.obl ⟨⟨.inr ⟨_, rfl, rfl⟩, trivial⟩, .inl rfl, trivial⟩ ?_
  exact N.true
end Go.Proofs.Ytcdbanoipidmeaa


/-
  A node's numbers that may be.
-/
set_option linter.unusedVariables false
set_option linter.unusedSimpArgs false
namespace Go.Proofs.Ytcdbanoipidmeaa
open Go Go.RowKit Sx

set_option maxRecDepth 100000 in
set_option maxHeartbeats 2000000 in
theorem ndin_x (n a b : Int)  (w : World) : Calls Try.prog 32 #[.int .i64 n, .int .i64 a, .int .i64 b] w fun e w' => e = .returned (.bool (decide (a ≤ n ∧ n ≤ b))) ∧ Below w.heap.size w w' := by
  refine calls_pure (G := tys) w tysOK mixed Try.func32 (by rfl) (by first | rfl | (simp only [List.all_cons, List.all_nil, plain_wz, plain_lim, plain_wi]; rfl)) (by first | exact plain3_wz _ | exact plain3_wi _ _ _ | rfl | (simp only [plain3, List.all_cons, List.all_nil, plain_wz, plain_lim, plain_wi]; rfl)) ?_
  repeat' (refine N.go ?_; first | with_reducible refine N.obl (by decide) ?_ | with_reducible refine N.obl (flat_wi _ _ _) ?_ | with_reducible refine N.obl (flat_lim _ _) ?_ | with_reducible refine N.eq ?_ | with_reducible refine N.obl rfl ?_ | with_reducible refine N.obl ⟨by kernel_rfl, by kernel_rfl⟩ ?_ | with_reducible refine N.alt ?_ | with_reducible refine N.forkT ?_ | with_reducible refine N.forkF ?_ | refine N.fork (fun hb => ?_) (fun hb => ?_) | fail_if_success skip)
  all_goals
    refine boolD ?_
    simp only [decide_eq_true_eq, decide_eq_false_iff_not, Bool.false_eq_true, false_iff, true_iff, iff_true, iff_false, reduceCtorEq, not_true_eq_false, not_false_eq_true, ge_iff_le, gt_iff_lt] at *
    omega
theorem cNdIn (n a b : Int) (h : List (Option Chunk)) : CallOK Try.prog 32 [.int .i64 n, .int .i64 a, .int .i64 b] h (.bool (decide (a ≤ n ∧ n ≤ b))) [] [] := call_pure rfl rfl (Try.call32 _) (ndin_x n a b)
/-- A config that may be. -/
structure CfOK (C : Nat → Int) : Prop where
  h0 : 1 ≤ C 0 ∧ C 0 ≤ 64
  h1 : 1 ≤ C 1 ∧ C 1 ≤ 64
  h2 : 0 ≤ C 2 ∧ C 2 ≤ 1000
  h3 : 0 ≤ C 3 ∧ C 3 ≤ 1000
  h4 : C 4 = 1
  h5 : 0 ≤ C 5 ∧ C 5 ≤ 1000
  h6 : C 6 = 50
  h7 : 1 ≤ C 7 ∧ C 7 ≤ 10000
  h8 : 1 ≤ C 8 ∧ C 8 ≤ 1000
  h9 : 1 ≤ C 9 ∧ C 9 ≤ 100
  h10 : 2 ≤ C 10 ∧ C 10 ≤ 140737488355328
abbrev cfV (C : Nat → Int) : Value := .agg ⟨[.int .i64 (C 0), .int .i64 (C 1), .int .i64 (C 2), .int .i64 (C 3), .int .i64 (C 4), .int .i64 (C 5), .int .i64 (C 6), .int .i64 (C 7), .int .i64 (C 8), .int .i64 (C 9), .int .i64 (C 10)]⟩
set_option maxRecDepth 100000 in
set_option maxHeartbeats 2000000 in
theorem ndmay_x (C : Nat → Int) (hC : CfOK C) (w : World) : Calls Try.prog 11 #[cfV C] w fun e w' => e = .returned (.bool true) ∧ Below w.heap.size w w' := by
  obtain ⟨c0, c1, c2, c3, c4, c5, c6, c7, c8, c9, c10⟩ := hC
  refine calls_pure (G := tys) w tysOK mixed Try.func11 (by rfl) (by first | rfl | (simp only [List.all_cons, List.all_nil, plain_wz, plain_lim, plain_wi]; rfl)) (by first | exact plain3_wz _ | exact plain3_wi _ _ _ | rfl | (simp only [plain3, List.all_cons, List.all_nil, plain_wz, plain_lim, plain_wi]; rfl)) ?_
  repeat' (refine N.go ?_; first | with_reducible refine N.obl (by decide) ?_ | with_reducible refine N.obl (flat_wi _ _ _) ?_ | with_reducible refine N.obl (flat_lim _ _) ?_ | with_reducible refine N.eq ?_ | with_reducible refine N.obl rfl ?_ | with_reducible refine N.obl ⟨by kernel_rfl, by kernel_rfl⟩ ?_ | with_reducible refine N.alt ?_ | with_reducible refine N.forkT ?_ | with_reducible refine N.forkF ?_ | refine N.call (cNdIn _ _ _ _) ?_ | refine N.forkYes (by rw [decide_eq_true_eq]; omega) ?_ | fail_if_success skip)
  all_goals
    rw [c4, c6, show IntKind.i64.wrap (2 * 1) = 2 from by decide, show IntKind.i64.wrap (50 + 2) = 52 from by decide, show IntKind.i64.wrap (52 + 2) = 54 from by decide, i64s (C 9 * 54) (by omega) (by omega)]
    exact congrArg Value.bool (decide_eq_true (by omega))
theorem cNdMay (C : Nat → Int) (hC : CfOK C) (h : List (Option Chunk)) : CallOK Try.prog 11 [cfV C] h (.bool true) [] [] := call_pure rfl rfl (Try.call11 _) (ndmay_x C hC)
end Go.Proofs.Ytcdbanoipidmeaa


/-
  A new node.
-/
set_option linter.unusedVariables false
set_option linter.unusedSimpArgs false
namespace Go.Proofs.Ytcdbanoipidmeaa
open Go Go.RowKit Sx

theorem eq_ell (x y : Operand) (a b c d e p q r s t : Int) : BinIs Try.prog .eql 27 x y (.agg ⟨[.int .i64 a, .int .i64 b, .int .i64 c, .int .i64 d, .int .i64 e]⟩) (.agg ⟨[.int .i64 p, .int .i64 q, .int .i64 r, .int .i64 s, .int .i64 t]⟩) (.bool (a == p && (b == q && (c == r && (d == s && e == t))))) :=
  ⟨rfl, rfl, rfl, fun w => by go_simp; by_cases h1 : a = p <;> by_cases h2 : b = q <;> by_cases h3 : c = r <;> by_cases h4 : d = s <;> by_cases h5 : e = t <;> simp [h1, h2, h3, h4, h5]⟩
theorem ne_ell (x y : Operand) (a b c d e p q r s t : Int) : BinIs Try.prog .neq 27 x y (.agg ⟨[.int .i64 a, .int .i64 b, .int .i64 c, .int .i64 d, .int .i64 e]⟩) (.agg ⟨[.int .i64 p, .int .i64 q, .int .i64 r, .int .i64 s, .int .i64 t]⟩) (.bool !(a == p && (b == q && (c == r && (d == s && e == t))))) :=
  ⟨rfl, rfl, rfl, fun w => by go_simp; by_cases h1 : a = p <;> by_cases h2 : b = q <;> by_cases h3 : c = r <;> by_cases h4 : d = s <;> by_cases h5 : e = t <;> simp [h1, h2, h3, h4, h5]⟩
theorem z_ell (a b c d e : Int) : (!(a == 0 && (b == 0 && (c == 0 && (d == 0 && e == 0))))) = decide (¬ (a = 0 ∧ b = 0 ∧ c = 0 ∧ d = 0 ∧ e = 0)) := by
  by_cases h1 : a = 0 <;> by_cases h2 : b = 0 <;> by_cases h3 : c = 0 <;> by_cases h4 : d = 0 <;> by_cases h5 : e = 0 <;> simp [h1, h2, h3, h4, h5]
/-- A new node. -/
abbrev nsNew (C : Nat → Int) (id boot : Int) (v : Bool) (x y a b d : Int) : NSt := ⟨C, id, boot, 0, -1, -1, 0, max 2 (C 10), v, x, y, a, b, d, Tbl.new (C 1), max 0 (min (C 9) 1000), max 0 (min (C 9) 1000), max 1 (min (C 8) 1000000), 0⟩
/-- A node whose sessions are being made. -/
abbrev nwC (C : Nat → Int) (id boot : Int) (s : Nat × (Nat → Nat × Nat)) : Chunk := ⟨true, 85, [(79, 6, .agg #[.pointer (some ⟨10, 0, some 0⟩), .pointer (some ⟨14, 0, some 0⟩), .int .i64 0, .int .i64 (-1), .int .i64 (-1), .int .i64 0]), (15, 64, .agg ⟨(List.range 64).map fun i => if i < s.1 then realP (s.2 i) else .pointer none⟩), (0, 15, .agg #[.int .i64 (C 0), .int .i64 (C 1), .int .i64 (C 2), .int .i64 (C 3), .int .i64 (C 4), .int .i64 (C 5), .int .i64 (C 6), .int .i64 (C 7), .int .i64 (C 8), .int .i64 (C 9), .int .i64 (C 10), .int .i64 id, .int .i64 boot, .pointer (some ⟨2, 0, some 0⟩), .pointer (some ⟨6, 0, some 0⟩)])]⟩
theorem Nd.callM {P : Program} {g : FuncId} {vs : List Value} {h : List (Option Chunk)} {slot : Nat} {C : List Nat → Prop} {K : List Nat → Value → List (Nat × Chunk) → Prop} (hs : List Nat) (R : Value → List (Nat × Chunk) → Prop) (hC : C hs) (hc : ∀ h₂ : List (Option Chunk), (∀ q ∈ hs, h₂[q]? = h[q]?) → CallAll P g vs h₂ R) (k : ∀ v ms, R v ms → (∀ q ∈ ms.map (·.1), q ∈ hs) ∧ K hs v ms) : N (CallM P g vs h slot C K) := N.mk ⟨hs, R, hC, hc, k⟩
theorem nw_f (C : Nat → Int) (id boot : Int) (s : Nat × (Nat → Nat × Nat)) (j : Nat) (hj : j < 64) : (nwC C id boot s).f (15 + j) = if j < s.1 then realP (s.2 j) else .pointer none := by
  show cellOf [(79, 6, _), (15, 64, _), (0, 15, _)] _ = _
  rw [cellOf_cons, if_neg (by omega), cellOf_cons, if_pos (by omega), show 15 + j - 15 = j from by omega]
  simp [cellIn, hj]
theorem nw_wr (C : Nat → Int) (id boot : Int) (i : Nat) (g : Nat → Nat × Nat) (q : Nat × Nat) (hi : i < 64) {p : Nat} (hp : p = 15 + i) : Writes (nwC C id boot (i, g)) p 1 (realP q) (nwC C id boot (i + 1, fun j => if j = i then q else g j)) := by
  subst hp
  refine ⟨rfl, by show 15 + i + 1 ≤ 85; omega, rfl, lt85 (fun j hj => ?_) (by rw [if_neg (by omega)]; rfl) (by rw [if_neg (by omega)]; rfl) (by rw [if_neg (by omega)]; rfl) (by rw [if_neg (by omega)]; rfl) (by rw [if_neg (by omega)]; rfl) (by rw [if_neg (by omega)]; rfl) (by rw [if_neg (by omega)]; rfl) (by rw [if_neg (by omega)]; rfl) (by rw [if_neg (by omega)]; rfl) (by rw [if_neg (by omega)]; rfl) (by rw [if_neg (by omega)]; rfl) (by rw [if_neg (by omega)]; rfl) (by rw [if_neg (by omega)]; rfl) (by rw [if_neg (by omega)]; rfl) (by rw [if_neg (by omega)]; rfl) (by rw [if_neg (by omega)]; rfl) (by rw [if_neg (by omega)]; rfl) (by rw [if_neg (by omega)]; rfl) (by rw [if_neg (by omega)]; rfl) (by rw [if_neg (by omega)]; rfl) (by rw [if_neg (by omega)]; rfl)⟩
  rw [nw_f _ _ _ _ j hj, nw_f _ _ _ _ j hj]
  by_cases e : j = i
  · subst e
    rw [if_pos (Nat.lt_succ_self _), if_pos (by omega), show 15 + j - (15 + j) = 0 from by omega]
    show realP (if j = j then q else g j) = _
    rw [if_pos rfl]; rfl
  · rw [if_neg (by omega : ¬ (15 + i ≤ 15 + j ∧ 15 + j < 15 + i + 1))]
    by_cases h2 : j < i
    · rw [if_pos (by show j < i + 1; omega), if_pos h2]
      show realP (if j = i then q else g j) = _
      rw [if_neg e]
    · rw [if_neg (by show ¬ j < i + 1; omega), if_neg h2]
theorem nw_re (C : Nat → Int) (id boot : Int) (g : Nat → Nat × Nat) (s : NSt) (h1 : s.C = C) (h2 : s.id = id) (h3 : s.boot = boot) (h4 : s.seq = 0) (h5 : s.told = -1) (h6 : s.asked = -1) (h7 : s.bad = 0) : ∀ j, j < 85 → Re1 [(0, 18), (1, 2), (2, 6), (3, 10), (4, 14)] ((nwC C id boot (64, g)).f j) ((ndC (s.nd g) 1 2 3 4).f j) := by
  obtain ⟨C', id', boot', sq, td, ak, bd, _⟩ := s
  simp only at h1 h2 h3 h4 h5 h6 h7
  subst h1 h2 h3 h4 h5 h6 h7
  refine lt85 (fun j hj => ?_) (.plain rfl) (.plain rfl) (.plain rfl) (.plain rfl) (.plain rfl) (.plain rfl) (.plain rfl) (.plain rfl) (.plain rfl) (.plain rfl) (.plain rfl) (.plain rfl) (.plain rfl) (.ptr rfl) (.ptr rfl) (.ptr rfl) (.ptr rfl) (.plain rfl) (.plain rfl) (.plain rfl) (.plain rfl)
  have e : ∀ D f t b m, (ndC D f t b m).f (15 + j) = realP (D.g j) := fun D f t b m => by
    show cellOf [(79, 6, _), (15, 64, _), (0, 15, _)] _ = _
    rw [cellOf_cons, if_neg (by omega), cellOf_cons, if_pos (by omega), show 15 + j - 15 = j from by omega]
    simp [cellIn, hj]
  rw [nw_f _ _ _ _ j hj, e, if_pos hj]
  exact .plain rfl
theorem nw_le0 (C : Nat → Int) (id boot : Int) (g : Nat → Nat × Nat) : ChunkLe (nwC C id boot (0, g)) ⟨true, 85, [(0, 85, .agg ⟨[.int .i64 (C 0), .int .i64 (C 1), .int .i64 (C 2), .int .i64 (C 3), .int .i64 (C 4), .int .i64 (C 5), .int .i64 (C 6), .int .i64 (C 7), .int .i64 (C 8), .int .i64 (C 9), .int .i64 (C 10), .int .i64 id, .int .i64 boot, .pointer (some ⟨2, 0, some 0⟩), .pointer (some ⟨6, 0, some 0⟩), .pointer none, .pointer none, .pointer none, .pointer none, .pointer none, .pointer none, .pointer none, .pointer none, .pointer none, .pointer none, .pointer none, .pointer none, .pointer none, .pointer none, .pointer none, .pointer none, .pointer none, .pointer none, .pointer none, .pointer none, .pointer none, .pointer none, .pointer none, .pointer none, .pointer none, .pointer none, .pointer none, .pointer none, .pointer none, .pointer none, .pointer none, .pointer none, .pointer none, .pointer none, .pointer none, .pointer none, .pointer none, .pointer none, .pointer none, .pointer none, .pointer none, .pointer none, .pointer none, .pointer none, .pointer none, .pointer none, .pointer none, .pointer none, .pointer none, .pointer none, .pointer none, .pointer none, .pointer none, .pointer none, .pointer none, .pointer none, .pointer none, .pointer none, .pointer none, .pointer none, .pointer none, .pointer none, .pointer none, .pointer none, .pointer (some ⟨10, 0, some 0⟩), .pointer (some ⟨14, 0, some 0⟩), .int .i64 0, .int .i64 (-1), .int .i64 (-1), .int .i64 0]⟩)]⟩ := ChunkLe.mk (fun h => h) (Nat.le_refl _) (fun j hj => by
  match j, hj with
  | 0, _ => exact rfl
  | 1, _ => exact rfl
  | 2, _ => exact rfl
  | 3, _ => exact rfl
  | 4, _ => exact rfl
  | 5, _ => exact rfl
  | 6, _ => exact rfl
  | 7, _ => exact rfl
  | 8, _ => exact rfl
  | 9, _ => exact rfl
  | 10, _ => exact rfl
  | 11, _ => exact rfl
  | 12, _ => exact rfl
  | 13, _ => exact rfl
  | 14, _ => exact rfl
  | 15, _ => exact rfl
  | 16, _ => exact rfl
  | 17, _ => exact rfl
  | 18, _ => exact rfl
  | 19, _ => exact rfl
  | 20, _ => exact rfl
  | 21, _ => exact rfl
  | 22, _ => exact rfl
  | 23, _ => exact rfl
  | 24, _ => exact rfl
  | 25, _ => exact rfl
  | 26, _ => exact rfl
  | 27, _ => exact rfl
  | 28, _ => exact rfl
  | 29, _ => exact rfl
  | 30, _ => exact rfl
  | 31, _ => exact rfl
  | 32, _ => exact rfl
  | 33, _ => exact rfl
  | 34, _ => exact rfl
  | 35, _ => exact rfl
  | 36, _ => exact rfl
  | 37, _ => exact rfl
  | 38, _ => exact rfl
  | 39, _ => exact rfl
  | 40, _ => exact rfl
  | 41, _ => exact rfl
  | 42, _ => exact rfl
  | 43, _ => exact rfl
  | 44, _ => exact rfl
  | 45, _ => exact rfl
  | 46, _ => exact rfl
  | 47, _ => exact rfl
  | 48, _ => exact rfl
  | 49, _ => exact rfl
  | 50, _ => exact rfl
  | 51, _ => exact rfl
  | 52, _ => exact rfl
  | 53, _ => exact rfl
  | 54, _ => exact rfl
  | 55, _ => exact rfl
  | 56, _ => exact rfl
  | 57, _ => exact rfl
  | 58, _ => exact rfl
  | 59, _ => exact rfl
  | 60, _ => exact rfl
  | 61, _ => exact rfl
  | 62, _ => exact rfl
  | 63, _ => exact rfl
  | 64, _ => exact rfl
  | 65, _ => exact rfl
  | 66, _ => exact rfl
  | 67, _ => exact rfl
  | 68, _ => exact rfl
  | 69, _ => exact rfl
  | 70, _ => exact rfl
  | 71, _ => exact rfl
  | 72, _ => exact rfl
  | 73, _ => exact rfl
  | 74, _ => exact rfl
  | 75, _ => exact rfl
  | 76, _ => exact rfl
  | 77, _ => exact rfl
  | 78, _ => exact rfl
  | 79, _ => exact rfl
  | 80, _ => exact rfl
  | 81, _ => exact rfl
  | 82, _ => exact rfl
  | 83, _ => exact rfl
  | 84, _ => exact rfl
  | k + 85, h => exact absurd (show k + 85 < 85 from h) (by omega)
)
set_option maxRecDepth 100000 in
set_option maxHeartbeats 2000000 in
theorem cNdNewZ (C : Nat → Int) (hC : CfOK C) (id boot : Int) (hid : 0 ≤ id ∧ id < 64) (hbo : serOK boot)  (K : Nat) (h : List (Option Chunk)) (hK : h[K]? = some none) :
    CallOK Try.prog 5 [cfV C, .int .i64 id, .int .i64 boot, elV 0 0 0 0 0] h (.pointer (some ⟨K, 0, some 0⟩)) [(K, ndP (nsNew C id boot false 0 0 0 0 0))] [] := by
  refine call_res (G := tys) (fun _ : Unit => True) (fun _ => []) [] [⟨K, 18, ndP (nsNew C id boot false 0 0 0 0 0)⟩] [cfV C, .int .i64 id, .int .i64 boot, elV 0 0 0 0 0] tysOK mixed Try.func5 (by rfl) (Try.call5) trivial trivial trivial trivial ⟨⟨hK, rfl, .inr packX_selfish, by simp⟩, trivial⟩ ⟨.plain rfl, .plain rfl, .plain rfl, .plain rfl, trivial⟩ Opens.same ?_
  rintro ⟨⟩ -
  repeat' (refine N.go ?_; first | with_reducible refine N.obl (by decide) ?_ | with_reducible refine N.obl (flat_wi _ _ _) ?_ | with_reducible refine N.obl (flat_lim _ _) ?_ | with_reducible refine N.eq ?_ | with_reducible refine N.obl rfl ?_ | with_reducible refine N.obl ⟨by kernel_rfl, by kernel_rfl⟩ ?_ | with_reducible refine N.alt ?_ | with_reducible refine N.forkT ?_ | with_reducible refine N.forkF ?_ | refine N.call (cSerMay boot _) ?_ | refine N.call (cNdMay C hC _) ?_ | refine N.call (cEMay _ _ _ _ _ _) ?_ | refine N.bin _ (ne_ell _ _ _ _ _ _ _ _ _ _ _ _) ?_ | refine N.call (cFiNew _ 2 _ (by rfl)) ?_ | refine N.call (cNewT _ 6 _ (by rfl)) ?_ | refine N.call (cBuNew _ 10 _ (by rfl)) ?_ | refine N.call (cTiNew _ 14 _ (by rfl)) ?_ | refine N.forkNo (by rw [decide_eq_false_iff_not]; omega) ?_ | refine N.forkNo (by rw [decide_eq_true hbo]; rfl) ?_ | refine N.forkNo (by decide) ?_ | refine N.forkYes (by decide) ?_ | fail_if_success skip)
  refine N.go ?_
  refine N.loop (α := Nat × (Nat → Nat × Nat)) (fun s => s.1 ≤ 64) (fun s => 64 - s.1) (fun s => [(54, .int .i64 s.1)]) (fun s => [(18, nwC C id boot s)]) (0, fun _ => (0, 0)) (by decide) ?_ ?_
  · repeat' (refine N.go ?_; first | with_reducible refine N.obl (by decide) ?_ | with_reducible refine N.obl (flat_wi _ _ _) ?_ | with_reducible refine N.obl (flat_lim _ _) ?_ | with_reducible refine N.eq ?_ | with_reducible refine N.obl rfl ?_ | with_reducible refine N.obl ⟨by kernel_rfl, by kernel_rfl⟩ ?_ | with_reducible refine N.alt ?_ | with_reducible refine N.forkT ?_ | with_reducible refine N.forkF ?_ | with_reducible refine N.obl (ChunkLe.refl _) ?_ | refine N.obl (nw_le0 C id boot _) ?_ | exact N.true | fail_if_success skip)
  rintro ⟨i, g⟩ hi
  have hi : i ≤ 64 := hi
  refine N.go ?_
  refine N.fork (fun hb => ?_) (fun hb => ?_)
  · have hb : i < 64 := by have := of_decide_eq_true hb; omega
    repeat' (refine N.go ?_; first | with_reducible refine N.obl (by decide) ?_ | with_reducible refine N.obl (flat_wi _ _ _) ?_ | with_reducible refine N.obl (flat_lim _ _) ?_ | with_reducible refine N.eq ?_ | with_reducible refine N.obl rfl ?_ | with_reducible refine N.obl ⟨by kernel_rfl, by kernel_rfl⟩ ?_ | with_reducible refine N.forkT ?_ | with_reducible refine N.forkF ?_ | refine N.obl (by show endB _ _ = Bool.true; kernel_rfl) ?_ | refine N.obl (by show midB _ _ _ _ = Bool.true; kernel_rfl) ?_ | refine N.idx i 1 rfl (by omega) ?_ | refine N.store _ (nw_wr C id boot i g _ hb (by omega)) ?_ | fail_if_success skip)
    refine N.go ?_
    refine N.altP ?_
    refine N.go ?_
    refine N.plan [0, 1, 3, 4, 5] [(2, [6])] (by kernel_rfl) ?_
    repeat' (refine N.go ?_; first | with_reducible refine N.obl (by decide) ?_ | with_reducible refine N.obl (flat_wi _ _ _) ?_ | with_reducible refine N.obl (flat_lim _ _) ?_ | with_reducible refine N.eq ?_ | with_reducible refine N.obl rfl ?_ | with_reducible refine N.obl ⟨by kernel_rfl, by kernel_rfl⟩ ?_ | with_reducible refine N.forkT ?_ | with_reducible refine N.forkF ?_ | refine N.obl (by show endB _ _ = Bool.true; kernel_rfl) ?_ | refine N.obl (by show midB _ _ _ _ = Bool.true; kernel_rfl) ?_ | refine N.idx i 1 rfl (by omega) ?_ | refine N.store _ (nw_wr C id boot i g _ hb (by omega)) ?_ | fail_if_success skip)
    refine N.go ?_
    refine Nd.callM [] _ (by kernel_rfl) (fun h₂ hh => cSesNew h₂) fun v ms hR => ?_
    obtain ⟨q, rfl, rfl⟩ := hR
    refine ⟨by simp, ?_⟩
    repeat' (refine N.go ?_; first | with_reducible refine N.obl (by decide) ?_ | with_reducible refine N.obl (flat_wi _ _ _) ?_ | with_reducible refine N.obl (flat_lim _ _) ?_ | with_reducible refine N.eq ?_ | with_reducible refine N.obl rfl ?_ | with_reducible refine N.obl ⟨by kernel_rfl, by kernel_rfl⟩ ?_ | with_reducible refine N.forkT ?_ | with_reducible refine N.forkF ?_ | refine N.obl (by show endB _ _ = Bool.true; kernel_rfl) ?_ | refine N.obl (by show midB _ _ _ _ = Bool.true; kernel_rfl) ?_ | refine N.idx i 1 rfl (by omega) ?_ | refine N.store _ (nw_wr C id boot i g _ hb (by omega)) ?_ | fail_if_success skip)
    refine N.go ?_
    refine N.next (i + 1, fun j => if j = i then q else g j) ⟨by show i + 1 ≤ 64; omega, by show 64 - (i + 1) < 64 - i; omega⟩ ?_
    repeat' (refine N.go ?_; first | with_reducible refine N.obl (by decide) ?_ | with_reducible refine N.obl (flat_wi _ _ _) ?_ | with_reducible refine N.obl (flat_lim _ _) ?_ | with_reducible refine N.eq ?_ | with_reducible refine N.obl rfl ?_ | with_reducible refine N.obl ⟨by kernel_rfl, by kernel_rfl⟩ ?_ | with_reducible refine N.alt ?_ | with_reducible refine N.forkT ?_ | with_reducible refine N.forkF ?_ | with_reducible refine N.obl (ChunkLe.refl _) ?_ | refine N.obl (by rw [i64s _ (by omega) (by omega)]; rfl) ?_ | exact N.true | fail_if_success skip)
  · have hb : ¬ i < 64 := by have := of_decide_eq_false hb; omega
    repeat' (refine N.go ?_; first | with_reducible refine N.obl (by decide) ?_ | with_reducible refine N.obl (flat_wi _ _ _) ?_ | with_reducible refine N.obl (flat_lim _ _) ?_ | with_reducible refine N.eq ?_ | with_reducible refine N.obl rfl ?_ | with_reducible refine N.obl ⟨by kernel_rfl, by kernel_rfl⟩ ?_ | with_reducible refine N.alt ?_ | with_reducible refine N.forkT ?_ | with_reducible refine N.forkF ?_ | refine N.call (cFiSetN _ _ _ _ _ _ _ _ _ _ _ _ 2 _ (by rfl) (fun h => (by unfold mayP at h; omega))) ?_ | fail_if_success skip)
    refine N.go ?_
    obtain rfl : i = 64 := by omega
    refine ndClose (nsNew C id boot false 0 0 0 0 0) g 18 2 6 10 14 [] (fun l _ hl => absurd hl (by simp)) (fun i hi => absurd hi (by simp)) (by rfl) rfl rfl (nw_re C id boot g (nsNew C id boot false 0 0 0 0 0) rfl rfl rfl rfl rfl rfl rfl) (by rfl) rfl rfl re7 (by rfl) (by rfl) rfl rfl re2 (by rfl) rfl rfl re2 (by rfl) (fun k hk => by cases hk) (fun k hk => by cases hk) (fun ρ ρ' ha => by have := ha 18 ⟨_, rfl⟩; simp [den, den2, den1, den0, denA, this]) ?_
    refine N.obl (.one (.ptr rfl)) ?_
    refine N.obl trivial ?_
    refine N.obl ⟨⟨Nat.zero_le _, _, rfl, fun h => h, Nat.le_refl _, fun j hj => absurd hj (Nat.not_lt_zero j)⟩, trivial⟩ ?_
    refine N.obl ⟨trivial, .inr ⟨_, rfl, rfl⟩, trivial⟩ ?_
    exact N.true
set_option maxRecDepth 100000 in
set_option maxHeartbeats 2000000 in
theorem cNdNewO (C : Nat → Int) (hC : CfOK C) (id boot : Int) (hid : 0 ≤ id ∧ id < 64) (hbo : serOK boot) (x y a b d : Int) (hm : mayP x y a b d) (ho : max 2 (C 10) < a + d) (K : Nat) (h : List (Option Chunk)) (hK : h[K]? = some none) :
    CallOK Try.prog 5 [cfV C, .int .i64 id, .int .i64 boot, elV x y a b d] h (.pointer (some ⟨K, 0, some 0⟩)) [(K, ndP (nsNew C id boot false 0 0 0 0 0))] [] := by
  refine call_res (G := tys) (fun _ : Unit => True) (fun _ => []) [] [⟨K, 18, ndP (nsNew C id boot false 0 0 0 0 0)⟩] [cfV C, .int .i64 id, .int .i64 boot, elV x y a b d] tysOK mixed Try.func5 (by rfl) (Try.call5) trivial trivial trivial trivial ⟨⟨hK, rfl, .inr packX_selfish, by simp⟩, trivial⟩ ⟨.plain rfl, .plain rfl, .plain rfl, .plain rfl, trivial⟩ Opens.same ?_
  have hz : ¬ (x = 0 ∧ y = 0 ∧ a = 0 ∧ b = 0 ∧ d = 0) := fun h => (by unfold mayP at hm; omega)
  rintro ⟨⟩ -
  repeat' (refine N.go ?_; first | with_reducible refine N.obl (by decide) ?_ | with_reducible refine N.obl (flat_wi _ _ _) ?_ | with_reducible refine N.obl (flat_lim _ _) ?_ | with_reducible refine N.eq ?_ | with_reducible refine N.obl rfl ?_ | with_reducible refine N.obl ⟨by kernel_rfl, by kernel_rfl⟩ ?_ | with_reducible refine N.alt ?_ | with_reducible refine N.forkT ?_ | with_reducible refine N.forkF ?_ | refine N.call (cSerMay boot _) ?_ | refine N.call (cNdMay C hC _) ?_ | refine N.call (cEMay _ _ _ _ _ _) ?_ | refine N.bin _ (ne_ell _ _ _ _ _ _ _ _ _ _ _ _) ?_ | refine N.call (cFiNew _ 2 _ (by rfl)) ?_ | refine N.call (cNewT _ 6 _ (by rfl)) ?_ | refine N.call (cBuNew _ 10 _ (by rfl)) ?_ | refine N.call (cTiNew _ 14 _ (by rfl)) ?_ | refine N.forkNo (by rw [decide_eq_false_iff_not]; omega) ?_ | refine N.forkNo (by rw [decide_eq_true hbo]; rfl) ?_ | refine N.forkNo (by decide) ?_ | refine N.forkYes (by rw [z_ell, decide_eq_true_eq]; exact hz) ?_ | refine N.forkNo (by rw [decide_eq_true hm]; rfl) ?_ | refine N.forkYes (by decide) ?_ | fail_if_success skip)
  refine N.go ?_
  refine N.loop (α := Nat × (Nat → Nat × Nat)) (fun s => s.1 ≤ 64) (fun s => 64 - s.1) (fun s => [(54, .int .i64 s.1)]) (fun s => [(18, nwC C id boot s)]) (0, fun _ => (0, 0)) (by decide) ?_ ?_
  · repeat' (refine N.go ?_; first | with_reducible refine N.obl (by decide) ?_ | with_reducible refine N.obl (flat_wi _ _ _) ?_ | with_reducible refine N.obl (flat_lim _ _) ?_ | with_reducible refine N.eq ?_ | with_reducible refine N.obl rfl ?_ | with_reducible refine N.obl ⟨by kernel_rfl, by kernel_rfl⟩ ?_ | with_reducible refine N.alt ?_ | with_reducible refine N.forkT ?_ | with_reducible refine N.forkF ?_ | with_reducible refine N.obl (ChunkLe.refl _) ?_ | refine N.obl (nw_le0 C id boot _) ?_ | exact N.true | fail_if_success skip)
  rintro ⟨i, g⟩ hi
  have hi : i ≤ 64 := hi
  refine N.go ?_
  refine N.fork (fun hb => ?_) (fun hb => ?_)
  · have hb : i < 64 := by have := of_decide_eq_true hb; omega
    repeat' (refine N.go ?_; first | with_reducible refine N.obl (by decide) ?_ | with_reducible refine N.obl (flat_wi _ _ _) ?_ | with_reducible refine N.obl (flat_lim _ _) ?_ | with_reducible refine N.eq ?_ | with_reducible refine N.obl rfl ?_ | with_reducible refine N.obl ⟨by kernel_rfl, by kernel_rfl⟩ ?_ | with_reducible refine N.forkT ?_ | with_reducible refine N.forkF ?_ | refine N.obl (by show endB _ _ = Bool.true; kernel_rfl) ?_ | refine N.obl (by show midB _ _ _ _ = Bool.true; kernel_rfl) ?_ | refine N.idx i 1 rfl (by omega) ?_ | refine N.store _ (nw_wr C id boot i g _ hb (by omega)) ?_ | fail_if_success skip)
    refine N.go ?_
    refine N.altP ?_
    refine N.go ?_
    refine N.plan [0, 1, 3, 4, 5] [(2, [6])] (by kernel_rfl) ?_
    repeat' (refine N.go ?_; first | with_reducible refine N.obl (by decide) ?_ | with_reducible refine N.obl (flat_wi _ _ _) ?_ | with_reducible refine N.obl (flat_lim _ _) ?_ | with_reducible refine N.eq ?_ | with_reducible refine N.obl rfl ?_ | with_reducible refine N.obl ⟨by kernel_rfl, by kernel_rfl⟩ ?_ | with_reducible refine N.forkT ?_ | with_reducible refine N.forkF ?_ | refine N.obl (by show endB _ _ = Bool.true; kernel_rfl) ?_ | refine N.obl (by show midB _ _ _ _ = Bool.true; kernel_rfl) ?_ | refine N.idx i 1 rfl (by omega) ?_ | refine N.store _ (nw_wr C id boot i g _ hb (by omega)) ?_ | fail_if_success skip)
    refine N.go ?_
    refine Nd.callM [] _ (by kernel_rfl) (fun h₂ hh => cSesNew h₂) fun v ms hR => ?_
    obtain ⟨q, rfl, rfl⟩ := hR
    refine ⟨by simp, ?_⟩
    repeat' (refine N.go ?_; first | with_reducible refine N.obl (by decide) ?_ | with_reducible refine N.obl (flat_wi _ _ _) ?_ | with_reducible refine N.obl (flat_lim _ _) ?_ | with_reducible refine N.eq ?_ | with_reducible refine N.obl rfl ?_ | with_reducible refine N.obl ⟨by kernel_rfl, by kernel_rfl⟩ ?_ | with_reducible refine N.forkT ?_ | with_reducible refine N.forkF ?_ | refine N.obl (by show endB _ _ = Bool.true; kernel_rfl) ?_ | refine N.obl (by show midB _ _ _ _ = Bool.true; kernel_rfl) ?_ | refine N.idx i 1 rfl (by omega) ?_ | refine N.store _ (nw_wr C id boot i g _ hb (by omega)) ?_ | fail_if_success skip)
    refine N.go ?_
    refine N.next (i + 1, fun j => if j = i then q else g j) ⟨by show i + 1 ≤ 64; omega, by show 64 - (i + 1) < 64 - i; omega⟩ ?_
    repeat' (refine N.go ?_; first | with_reducible refine N.obl (by decide) ?_ | with_reducible refine N.obl (flat_wi _ _ _) ?_ | with_reducible refine N.obl (flat_lim _ _) ?_ | with_reducible refine N.eq ?_ | with_reducible refine N.obl rfl ?_ | with_reducible refine N.obl ⟨by kernel_rfl, by kernel_rfl⟩ ?_ | with_reducible refine N.alt ?_ | with_reducible refine N.forkT ?_ | with_reducible refine N.forkF ?_ | with_reducible refine N.obl (ChunkLe.refl _) ?_ | refine N.obl (by rw [i64s _ (by omega) (by omega)]; rfl) ?_ | exact N.true | fail_if_success skip)
  · have hb : ¬ i < 64 := by have := of_decide_eq_false hb; omega
    repeat' (refine N.go ?_; first | with_reducible refine N.obl (by decide) ?_ | with_reducible refine N.obl (flat_wi _ _ _) ?_ | with_reducible refine N.obl (flat_lim _ _) ?_ | with_reducible refine N.eq ?_ | with_reducible refine N.obl rfl ?_ | with_reducible refine N.obl ⟨by kernel_rfl, by kernel_rfl⟩ ?_ | with_reducible refine N.alt ?_ | with_reducible refine N.forkT ?_ | with_reducible refine N.forkF ?_ | refine N.call (cFiSetO _ _ _ _ _ _ _ x y a b d 2 _ (by rfl) hm ho) ?_ | fail_if_success skip)
    refine N.go ?_
    obtain rfl : i = 64 := by omega
    refine ndClose (nsNew C id boot false 0 0 0 0 0) g 18 2 6 10 14 [] (fun l _ hl => absurd hl (by simp)) (fun i hi => absurd hi (by simp)) (by rfl) rfl rfl (nw_re C id boot g (nsNew C id boot false 0 0 0 0 0) rfl rfl rfl rfl rfl rfl rfl) (by rfl) rfl rfl re7 (by rfl) (by rfl) rfl rfl re2 (by rfl) rfl rfl re2 (by rfl) (fun k hk => by cases hk) (fun k hk => by cases hk) (fun ρ ρ' ha => by have := ha 18 ⟨_, rfl⟩; simp [den, den2, den1, den0, denA, this]) ?_
    refine N.obl (.one (.ptr rfl)) ?_
    refine N.obl trivial ?_
    refine N.obl ⟨⟨Nat.zero_le _, _, rfl, fun h => h, Nat.le_refl _, fun j hj => absurd hj (Nat.not_lt_zero j)⟩, trivial⟩ ?_
    refine N.obl ⟨trivial, .inr ⟨_, rfl, rfl⟩, trivial⟩ ?_
    exact N.true
set_option maxRecDepth 100000 in
set_option maxHeartbeats 2000000 in
theorem cNdNewY (C : Nat → Int) (hC : CfOK C) (id boot : Int) (hid : 0 ≤ id ∧ id < 64) (hbo : serOK boot) (x y a b d : Int) (hm : mayP x y a b d) (ho : ¬ max 2 (C 10) < a + d) (K : Nat) (h : List (Option Chunk)) (hK : h[K]? = some none) :
    CallOK Try.prog 5 [cfV C, .int .i64 id, .int .i64 boot, elV x y a b d] h (.pointer (some ⟨K, 0, some 0⟩)) [(K, ndP (nsNew C id boot true x y a b d))] [] := by
  refine call_res (G := tys) (fun _ : Unit => True) (fun _ => []) [] [⟨K, 18, ndP (nsNew C id boot true x y a b d)⟩] [cfV C, .int .i64 id, .int .i64 boot, elV x y a b d] tysOK mixed Try.func5 (by rfl) (Try.call5) trivial trivial trivial trivial ⟨⟨hK, rfl, .inr packX_selfish, by simp⟩, trivial⟩ ⟨.plain rfl, .plain rfl, .plain rfl, .plain rfl, trivial⟩ Opens.same ?_
  have hz : ¬ (x = 0 ∧ y = 0 ∧ a = 0 ∧ b = 0 ∧ d = 0) := fun h => (by unfold mayP at hm; omega)
  rintro ⟨⟩ -
  repeat' (refine N.go ?_; first | with_reducible refine N.obl (by decide) ?_ | with_reducible refine N.obl (flat_wi _ _ _) ?_ | with_reducible refine N.obl (flat_lim _ _) ?_ | with_reducible refine N.eq ?_ | with_reducible refine N.obl rfl ?_ | with_reducible refine N.obl ⟨by kernel_rfl, by kernel_rfl⟩ ?_ | with_reducible refine N.alt ?_ | with_reducible refine N.forkT ?_ | with_reducible refine N.forkF ?_ | refine N.call (cSerMay boot _) ?_ | refine N.call (cNdMay C hC _) ?_ | refine N.call (cEMay _ _ _ _ _ _) ?_ | refine N.bin _ (ne_ell _ _ _ _ _ _ _ _ _ _ _ _) ?_ | refine N.call (cFiNew _ 2 _ (by rfl)) ?_ | refine N.call (cNewT _ 6 _ (by rfl)) ?_ | refine N.call (cBuNew _ 10 _ (by rfl)) ?_ | refine N.call (cTiNew _ 14 _ (by rfl)) ?_ | refine N.forkNo (by rw [decide_eq_false_iff_not]; omega) ?_ | refine N.forkNo (by rw [decide_eq_true hbo]; rfl) ?_ | refine N.forkNo (by decide) ?_ | refine N.forkYes (by rw [z_ell, decide_eq_true_eq]; exact hz) ?_ | refine N.forkNo (by rw [decide_eq_true hm]; rfl) ?_ | refine N.forkYes (by decide) ?_ | fail_if_success skip)
  refine N.go ?_
  refine N.loop (α := Nat × (Nat → Nat × Nat)) (fun s => s.1 ≤ 64) (fun s => 64 - s.1) (fun s => [(54, .int .i64 s.1)]) (fun s => [(18, nwC C id boot s)]) (0, fun _ => (0, 0)) (by decide) ?_ ?_
  · repeat' (refine N.go ?_; first | with_reducible refine N.obl (by decide) ?_ | with_reducible refine N.obl (flat_wi _ _ _) ?_ | with_reducible refine N.obl (flat_lim _ _) ?_ | with_reducible refine N.eq ?_ | with_reducible refine N.obl rfl ?_ | with_reducible refine N.obl ⟨by kernel_rfl, by kernel_rfl⟩ ?_ | with_reducible refine N.alt ?_ | with_reducible refine N.forkT ?_ | with_reducible refine N.forkF ?_ | with_reducible refine N.obl (ChunkLe.refl _) ?_ | refine N.obl (nw_le0 C id boot _) ?_ | exact N.true | fail_if_success skip)
  rintro ⟨i, g⟩ hi
  have hi : i ≤ 64 := hi
  refine N.go ?_
  refine N.fork (fun hb => ?_) (fun hb => ?_)
  · have hb : i < 64 := by have := of_decide_eq_true hb; omega
    repeat' (refine N.go ?_; first | with_reducible refine N.obl (by decide) ?_ | with_reducible refine N.obl (flat_wi _ _ _) ?_ | with_reducible refine N.obl (flat_lim _ _) ?_ | with_reducible refine N.eq ?_ | with_reducible refine N.obl rfl ?_ | with_reducible refine N.obl ⟨by kernel_rfl, by kernel_rfl⟩ ?_ | with_reducible refine N.forkT ?_ | with_reducible refine N.forkF ?_ | refine N.obl (by show endB _ _ = Bool.true; kernel_rfl) ?_ | refine N.obl (by show midB _ _ _ _ = Bool.true; kernel_rfl) ?_ | refine N.idx i 1 rfl (by omega) ?_ | refine N.store _ (nw_wr C id boot i g _ hb (by omega)) ?_ | fail_if_success skip)
    refine N.go ?_
    refine N.altP ?_
    refine N.go ?_
    refine N.plan [0, 1, 3, 4, 5] [(2, [6])] (by kernel_rfl) ?_
    repeat' (refine N.go ?_; first | with_reducible refine N.obl (by decide) ?_ | with_reducible refine N.obl (flat_wi _ _ _) ?_ | with_reducible refine N.obl (flat_lim _ _) ?_ | with_reducible refine N.eq ?_ | with_reducible refine N.obl rfl ?_ | with_reducible refine N.obl ⟨by kernel_rfl, by kernel_rfl⟩ ?_ | with_reducible refine N.forkT ?_ | with_reducible refine N.forkF ?_ | refine N.obl (by show endB _ _ = Bool.true; kernel_rfl) ?_ | refine N.obl (by show midB _ _ _ _ = Bool.true; kernel_rfl) ?_ | refine N.idx i 1 rfl (by omega) ?_ | refine N.store _ (nw_wr C id boot i g _ hb (by omega)) ?_ | fail_if_success skip)
    refine N.go ?_
    refine Nd.callM [] _ (by kernel_rfl) (fun h₂ hh => cSesNew h₂) fun v ms hR => ?_
    obtain ⟨q, rfl, rfl⟩ := hR
    refine ⟨by simp, ?_⟩
    repeat' (refine N.go ?_; first | with_reducible refine N.obl (by decide) ?_ | with_reducible refine N.obl (flat_wi _ _ _) ?_ | with_reducible refine N.obl (flat_lim _ _) ?_ | with_reducible refine N.eq ?_ | with_reducible refine N.obl rfl ?_ | with_reducible refine N.obl ⟨by kernel_rfl, by kernel_rfl⟩ ?_ | with_reducible refine N.forkT ?_ | with_reducible refine N.forkF ?_ | refine N.obl (by show endB _ _ = Bool.true; kernel_rfl) ?_ | refine N.obl (by show midB _ _ _ _ = Bool.true; kernel_rfl) ?_ | refine N.idx i 1 rfl (by omega) ?_ | refine N.store _ (nw_wr C id boot i g _ hb (by omega)) ?_ | fail_if_success skip)
    refine N.go ?_
    refine N.next (i + 1, fun j => if j = i then q else g j) ⟨by show i + 1 ≤ 64; omega, by show 64 - (i + 1) < 64 - i; omega⟩ ?_
    repeat' (refine N.go ?_; first | with_reducible refine N.obl (by decide) ?_ | with_reducible refine N.obl (flat_wi _ _ _) ?_ | with_reducible refine N.obl (flat_lim _ _) ?_ | with_reducible refine N.eq ?_ | with_reducible refine N.obl rfl ?_ | with_reducible refine N.obl ⟨by kernel_rfl, by kernel_rfl⟩ ?_ | with_reducible refine N.alt ?_ | with_reducible refine N.forkT ?_ | with_reducible refine N.forkF ?_ | with_reducible refine N.obl (ChunkLe.refl _) ?_ | refine N.obl (by rw [i64s _ (by omega) (by omega)]; rfl) ?_ | exact N.true | fail_if_success skip)
  · have hb : ¬ i < 64 := by have := of_decide_eq_false hb; omega
    repeat' (refine N.go ?_; first | with_reducible refine N.obl (by decide) ?_ | with_reducible refine N.obl (flat_wi _ _ _) ?_ | with_reducible refine N.obl (flat_lim _ _) ?_ | with_reducible refine N.eq ?_ | with_reducible refine N.obl rfl ?_ | with_reducible refine N.obl ⟨by kernel_rfl, by kernel_rfl⟩ ?_ | with_reducible refine N.alt ?_ | with_reducible refine N.forkT ?_ | with_reducible refine N.forkF ?_ | refine N.call (cFiSetY _ _ _ _ _ _ _ x y a b d 2 _ (by rfl) hm ho) ?_ | fail_if_success skip)
    refine N.go ?_
    obtain rfl : i = 64 := by omega
    refine ndClose (nsNew C id boot true x y a b d) g 18 2 6 10 14 [] (fun l _ hl => absurd hl (by simp)) (fun i hi => absurd hi (by simp)) (by rfl) rfl rfl (nw_re C id boot g (nsNew C id boot true x y a b d) rfl rfl rfl rfl rfl rfl rfl) (by rfl) rfl rfl re7 (by rfl) (by rfl) rfl rfl re2 (by rfl) rfl rfl re2 (by rfl) (fun k hk => by cases hk) (fun k hk => by cases hk) (fun ρ ρ' ha => by have := ha 18 ⟨_, rfl⟩; simp [den, den2, den1, den0, denA, this]) ?_
    refine N.obl (.one (.ptr rfl)) ?_
    refine N.obl trivial ?_
    refine N.obl ⟨⟨Nat.zero_le _, _, rfl, fun h => h, Nat.le_refl _, fun j hj => absurd hj (Nat.not_lt_zero j)⟩, trivial⟩ ?_
    refine N.obl ⟨trivial, .inr ⟨_, rfl, rfl⟩, trivial⟩ ?_
    exact N.true
set_option maxRecDepth 100000 in
set_option maxHeartbeats 2000000 in
theorem cNdNewF (C : Nat → Int) (hC : CfOK C) (id boot : Int) (hid : 0 ≤ id ∧ id < 64) (hbo : serOK boot) (x y a b d : Int) (hz : ¬ (x = 0 ∧ y = 0 ∧ a = 0 ∧ b = 0 ∧ d = 0)) (hm : ¬ mayP x y a b d) (h : List (Option Chunk)) :
    CallOK Try.prog 5 [cfV C, .int .i64 id, .int .i64 boot, elV x y a b d] h (.pointer none) [] [] := by
  refine call_pure rfl rfl (Try.call5 _) fun w => ?_
  refine calls_pure (G := tys) w tysOK mixed Try.func5 (by rfl) (by rfl) (by rfl) ?_
  repeat' (refine N.go ?_; first | with_reducible refine N.obl (by decide) ?_ | with_reducible refine N.obl (flat_wi _ _ _) ?_ | with_reducible refine N.obl (flat_lim _ _) ?_ | with_reducible refine N.eq ?_ | with_reducible refine N.obl rfl ?_ | with_reducible refine N.obl ⟨by kernel_rfl, by kernel_rfl⟩ ?_ | with_reducible refine N.alt ?_ | with_reducible refine N.forkT ?_ | with_reducible refine N.forkF ?_ | refine N.call (cSerMay boot _) ?_ | refine N.call (cNdMay C hC _) ?_ | refine N.call (cEMay _ _ _ _ _ _) ?_ | refine N.bin _ (ne_ell _ _ _ _ _ _ _ _ _ _ _ _) ?_ | refine N.call (cFiNew _ 2 _ (by rfl)) ?_ | refine N.call (cNewT _ 6 _ (by rfl)) ?_ | refine N.call (cBuNew _ 10 _ (by rfl)) ?_ | refine N.call (cTiNew _ 14 _ (by rfl)) ?_ | refine N.forkNo (by rw [decide_eq_false_iff_not]; omega) ?_ | refine N.forkNo (by rw [decide_eq_true hbo]; rfl) ?_ | refine N.forkNo (by decide) ?_ | refine N.forkYes (by rw [z_ell, decide_eq_true_eq]; exact hz) ?_ | refine N.forkYes (by rw [decide_eq_false hm]; rfl) ?_ | refine N.forkYes (by decide) ?_ | fail_if_success skip)
  all_goals rfl
end Go.Proofs.Ytcdbanoipidmeaa


/-
  What a node alone reports; a config that may be; a node that every program must know.
-/
set_option linter.unusedVariables false
set_option linter.unusedSimpArgs false
namespace Go.Proofs.Ytcdbanoipidmeaa
open Go Go.RowKit Sx

/-- A number below a bound, out of any. -/
abbrev md (a m : Int) : Int := IntKind.i64.wrap ((IntKind.u64.wrap a).tmod m)
theorem md_b (a m : Int) (h0 : 0 < m) (h1 : m ≤ 9223372036854775807) : 0 ≤ md a m ∧ md a m < m := u64mod a m h0 h1
abbrev cf6 (a b c d g f : Int) : Nat → Int := fun k => match k with
  | 0 => 1 + md a 8
  | 1 => 1 + md b 6
  | 2 => md c 40
  | 3 => md d 10
  | 4 => 1
  | 5 => 10
  | 6 => 50
  | 7 => 30
  | 8 => 1 + md g 6
  | 9 => 1 + md f 8
  | _ => 1000000000000
theorem cf6_ok (a b c d g f : Int) : CfOK (cf6 a b c d g f) := by
  have k0 := md_b a 8 (by decide) (by decide)
  have k1 := md_b b 6 (by decide) (by decide)
  have k2 := md_b c 40 (by decide) (by decide)
  have k3 := md_b d 10 (by decide) (by decide)
  have k4 := md_b g 6 (by decide) (by decide)
  have k5 := md_b f 8 (by decide) (by decide)
  refine ⟨?_, ?_, ?_, ?_, rfl, ?_, rfl, ?_, ?_, ?_, ?_⟩ <;> simp only [cf6] <;> omega
set_option maxRecDepth 100000 in
set_option maxHeartbeats 2000000 in
theorem config_x (a b c d g f : Int)  (w : World) : Calls Try.prog 4 #[.int .i64 a, .int .i64 b, .int .i64 c, .int .i64 d, .int .i64 g, .int .i64 f] w fun e w' => e = .returned (cfV (cf6 a b c d g f)) ∧ Below w.heap.size w w' := by
  have k0 := md_b a 8 (by decide) (by decide)
  have k1 := md_b b 6 (by decide) (by decide)
  have k4 := md_b g 6 (by decide) (by decide)
  have k5 := md_b f 8 (by decide) (by decide)
  refine calls_pure (G := tys) w tysOK mixed Try.func4 (by rfl) (by first | rfl | (simp only [List.all_cons, List.all_nil, plain_wz, plain_lim, plain_wi]; rfl)) (by first | exact plain3_wz _ | exact plain3_wi _ _ _ | rfl | (simp only [plain3, List.all_cons, List.all_nil, plain_wz, plain_lim, plain_wi]; rfl)) ?_
  repeat' (refine N.go ?_; first | with_reducible refine N.obl (by decide) ?_ | with_reducible refine N.obl (flat_wi _ _ _) ?_ | with_reducible refine N.obl (flat_lim _ _) ?_ | with_reducible refine N.eq ?_ | with_reducible refine N.obl rfl ?_ | with_reducible refine N.obl ⟨by kernel_rfl, by kernel_rfl⟩ ?_ | with_reducible refine N.alt ?_ | with_reducible refine N.forkT ?_ | with_reducible refine N.forkF ?_ | fail_if_success skip)
  all_goals
    simp only [cfV, cf6]
    rw [i64s (1 + md a 8) (by omega) (by omega), i64s (1 + md b 6) (by omega) (by omega), i64s (1 + md g 6) (by omega) (by omega), i64s (1 + md f 8) (by omega) (by omega)]
theorem cConfig (a b c d g f : Int) (h : List (Option Chunk)) : CallOK Try.prog 4 [.int .i64 a, .int .i64 b, .int .i64 c, .int .i64 d, .int .i64 g, .int .i64 f] h (cfV (cf6 a b c d g f)) [] [] := call_pure rfl rfl (Try.call4 _) (config_x a b c d g f)
abbrev rpV (v : Bool) (x y a b d : Int) (s : Value) : Value := .agg ⟨[.bool v, .int .i64 x, .int .i64 y, .int .i64 a, .int .i64 b, .int .i64 d, s]⟩
set_option maxRecDepth 100000 in
set_option maxHeartbeats 2000000 in
theorem cReport0 (s : NSt) (hE : s.T.E = []) (i : Nat) (h : List (Option Chunk)) (hi : h[i]? = some (some (ndP s))) :
    CallOK Try.prog 8 [.pointer (some ⟨i, 0, some 0⟩)] h (rpV s.fv s.fx s.fy s.fa s.fb s.fd (.slice none 0 0)) [(i, ndP s)] [] := by
  refine call_res (G := tys) (fun _ : Nat → Nat × Nat => True) (ndH s) [⟨i, ndP s, ndP s, ndP s⟩] [] [.pointer (some ⟨0, 0, some 0⟩)] tysOK mixed Try.func8 (by rfl) (Try.call8) ⟨hi, trivial⟩ ⟨⟨fun h => ⟨rfl, Nat.le_refl _⟩, Nat.le_refl _, fun j hj => absurd hj (Nat.not_lt_zero j)⟩, trivial⟩ (by simp [Apart]) ⟨.inr ⟨rfl, rfl⟩, trivial⟩ trivial ⟨.ptr rfl, trivial⟩ pack_opens ?_
  intro g _
  repeat' (refine N.go ?_; first | with_reducible refine N.obl (by decide) ?_ | with_reducible refine N.obl (flat_wi _ _ _) ?_ | with_reducible refine N.obl (flat_lim _ _) ?_ | with_reducible refine N.eq ?_ | with_reducible refine N.obl rfl ?_ | with_reducible refine N.obl ⟨by kernel_rfl, by kernel_rfl⟩ ?_ | with_reducible refine N.alt ?_ | with_reducible refine N.forkT ?_ | with_reducible refine N.forkF ?_ | refine N.call (cFiValid _ _ _ _ _ _ _ 1 _ (by rfl)) ?_ | refine N.call (cFiE _ _ _ _ _ _ _ 1 _ (by rfl)) ?_ | refine N.call (cAll0 s.T hE 2 _ (by rfl)) ?_ | refine N.forkNo (by decide) ?_ | fail_if_success skip)
  refine N.go ?_
  refine ndClose s g 0 1 2 3 4 [] nd_piece (fun i hi => .inl (by simpa using hi)) (by rfl) rfl rfl (ndRe (D := s.nd g) (f := 1) (t := 2) (b := 3) (m := 4) (f' := 1) (t' := 2) (b' := 3) (m' := 4) (by rfl) (by rfl) (by rfl) (by rfl)) (by rfl) rfl rfl re7 (by rfl) (by rfl) rfl rfl re2 (by rfl) rfl rfl re2 (by rfl) (fun k hk => by cases hk) (fun k hk => by cases hk) (plain_sc rfl) ?_
  refine N.obl (.plain rfl) ?_
  refine N.obl ⟨⟨_, rfl, fun h => h, Nat.le_refl _, fun j hj => absurd hj (Nat.not_lt_zero j)⟩, trivial⟩ ?_
  refine N.obl trivial ?_
  refine N.obl ⟨⟨.inr ⟨_, rfl, rfl⟩, trivial⟩, trivial⟩ ?_
  exact N.true
set_option maxRecDepth 100000 in
set_option maxHeartbeats 2000000 in
theorem ndawake_x (w : World) : Calls Try.prog 7 #[] w fun e w' => e = .returned (.bool true) ∧ Below w.heap.size w w' := by
  refine calls_pure (G := tys) w tysOK mixed Try.func7 (by rfl) (by rfl) (by rfl) ?_
  repeat' (refine N.go ?_; first | with_reducible refine N.obl (by decide) ?_ | with_reducible refine N.obl (flat_wi _ _ _) ?_ | with_reducible refine N.obl (flat_lim _ _) ?_ | with_reducible refine N.eq ?_ | with_reducible refine N.obl rfl ?_ | with_reducible refine N.obl ⟨by kernel_rfl, by kernel_rfl⟩ ?_ | with_reducible refine N.alt ?_ | with_reducible refine N.forkT ?_ | with_reducible refine N.forkF ?_ | refine N.forkYes (by rfl) ?_ | refine N.idx 0 0 rfl (by decide) ?_ | refine N.bin _ (eq_ell _ _ _ _ _ _ _ _ _ _ _ _) ?_ | refine N.call (cBallY 0 0 8 _ (by decide) (by decide)) ?_ | refine N.call (cConfig 3 3 5 1 4 4 _) ?_ | refine N.call (cNdNewY _ (cf6_ok 3 3 5 1 4 4) 2 7 (by decide) (by decide) 0 0 64 0 64 (by decide) (by decide) 2 _ (by rfl)) ?_ | fail_if_success skip)
  refine N.go ?_
  refine N.callAll (cTickE (nsNew (cf6 3 3 5 1 4 4) 2 7 true 0 0 64 0 64) rfl rfl 0 100 (by decide) (by decide) (by decide) (by decide) (by decide) (by decide) 2 5 _ (by rfl) (by rfl)) fun v ms hR => ?_
  obtain ⟨κ, hκ, rfl, rfl⟩ := hR
  repeat' (refine N.go ?_; first | with_reducible refine N.obl (by decide) ?_ | with_reducible refine N.obl (flat_wi _ _ _) ?_ | with_reducible refine N.obl (flat_lim _ _) ?_ | with_reducible refine N.eq ?_ | with_reducible refine N.obl rfl ?_ | with_reducible refine N.obl ⟨by kernel_rfl, by kernel_rfl⟩ ?_ | with_reducible refine N.alt ?_ | with_reducible refine N.forkT ?_ | with_reducible refine N.forkF ?_ | refine N.forkYes (by rfl) ?_ | refine N.idx 0 0 rfl (by decide) ?_ | refine N.bin _ (eq_ell _ _ _ _ _ _ _ _ _ _ _ _) ?_ | refine N.call (cBallY 0 0 8 _ (by decide) (by decide)) ?_ | refine N.call (cConfig 3 3 5 1 4 4 _) ?_ | refine N.call (cNdNewY _ (cf6_ok 3 3 5 1 4 4) 2 7 (by decide) (by decide) 0 0 64 0 64 (by decide) (by decide) 2 _ (by rfl)) ?_ | fail_if_success skip)
  all_goals rfl
theorem cAwakeN (h : List (Option Chunk)) : CallOK Try.prog 7 [] h (.bool true) [] [] := call_pure rfl rfl (Try.call7 _) ndawake_x
end Go.Proofs.Ytcdbanoipidmeaa
