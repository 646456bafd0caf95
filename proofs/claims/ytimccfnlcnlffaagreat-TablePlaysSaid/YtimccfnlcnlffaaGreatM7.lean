import Derived.Test.YtimccfnlcnlffaaGreatM6
set_option linter.unusedVariables false
set_option linter.unusedSimpArgs false
set_option maxRecDepth 100000
set_option maxHeartbeats 20000000

namespace Go.Proofs.YtimccfnlcnlffaaGreat
open Go Go.RowKit Sx
theorem hearBoth {T : Tbl} {M : RTb} {i : Nat} (h : TRel T M i) (n boot seq now : Int) : ∃ T', TRel T' (rhear M n boot seq now).2 (i + 1) ∧ ∀ (k : Nat) (hp : List (Option Chunk)) (hk : hp[k]? = some (some (tblC T))),
    CallOK Tryz.prog 6 [.pointer (some ⟨k, 0, some 0⟩), .int .i64 n, .int .i64 boot, .int .i64 seq, .int .i64 now] hp (.int .i64 (rhear M n boot seq now).1) [(k, tblC T')] [] := by
  obtain ⟨h1, h2⟩ := h.hear n boot seq now
  exact ⟨_, h2, fun k hp hk => cHear T h.ok n boot seq now _ (hearT T n boot seq now).2 (by rw [← h1]) k hp hk⟩
theorem leaveBoth {T : Tbl} {M : RTb} {i : Nat} (h : TRel T M i) (n : Int) : ∃ T', TRel T' (rleave M n).2 (i + 1) ∧ ∀ (k : Nat) (hp : List (Option Chunk)) (hk : hp[k]? = some (some (tblC T))),
    CallOK Tryz.prog 8 [.pointer (some ⟨k, 0, some 0⟩), .int .i64 n] hp (.bool (rleave M n).1) [(k, tblC T')] [] := by
  rcases h.leave n with ⟨l, h1, h2, h3, h4⟩ | ⟨h1, h2⟩
  · exact ⟨_, h4.more (Nat.le_succ i), fun k hp hk => by rw [h3]; exact cLeaveY T n h1 l h2 k hp hk⟩
  · rw [h2]; exact ⟨T, h.more (Nat.le_succ i), fun k hp hk => cLeaveN T n h1 k hp hk⟩
theorem putBoth {T : Tbl} {M : RTb} {i : Nat} (h : TRel T M i) (n x y a b d w : Int) (hn : -9223372036854775808 ≤ n ∧ n ≤ 9223372036854775807) : ∃ T', TRel T' (rput M n x y a b d w).2 (i + 1) ∧ ∀ (k : Nat) (hp : List (Option Chunk)) (hk : hp[k]? = some (some (tblC T))),
    CallOK Tryz.prog 10 [.pointer (some ⟨k, 0, some 0⟩), .int .i64 n, elV x y a b d, .int .i64 w] hp (.int .i64 (rput M n x y a b d w).1) [(k, tblC T')] [] := by
  rcases h.put n x y a b d w with ⟨h1, h2⟩ | ⟨e, h1, ⟨h2, h3⟩ | ⟨h2, h3, h4, h5⟩⟩
  · rw [h2]; exact ⟨T, h.more (Nat.le_succ i), fun k hp hk => cPutN T n x y a b d w hn h1 k hp hk⟩
  · rw [h3]; exact ⟨T, h.more (Nat.le_succ i), fun k hp hk => cPutB T n x y a b d w hn e h1 h2 k hp hk⟩
  · rw [h4]; exact ⟨_, h5.more (Nat.le_succ i), fun k hp hk => cPutY T n x y a b d w hn e h1 h2 h3 k hp hk⟩
theorem getBoth [ZW] {T : Tbl} {M : RTb} {i : Nat} (h : TRel T M i) (n : Int) : ∃ (e : Ent) (b : Bool), (∀ (k : Nat) (hp : List (Option Chunk)) (hk : hp[k]? = some (some (tblC T))), CallOK Tryz.prog 14 [.pointer (some ⟨k, 0, some 0⟩), .int .i64 n] hp (.tuple ⟨[entV e, .bool b]⟩) [(k, tblC T)] []) ∧
    ∀ (u : Option Sl) (lv : Nat → RLv) (R : List Rw) (hS : RtS R u lv M) (k g : Nat) (hp : List (Option Chunk)) (m : Int) (hk : hp[k]? = some (some (rtC m u lv))) (hg : hp[g]? = some (some (rvC R))) (hkg : k ≠ g), CallOK Tryz.prog 15 [.pointer (some ⟨k, 0, some 0⟩), .int .i64 n] hp (.tuple ⟨[entV e, .bool b]⟩) [(k, rtC m u lv), (g, rvC R)] [] := by
  have hf := h.get n
  have hl := h.len.2
  cases hg : dGet T.E n with
  | none => exact ⟨_, _, fun k hp hk => cGetN T n hg k hp hk, fun u lv R hS k g hp m hk hg' hkg => cRGetN m u lv R M.L hS.e (by omega) n (by rw [hf, hg]) k g hp hk hg' hkg⟩
  | some e => exact ⟨_, _, fun k hp hk => cGetY T n e hg k hp hk, fun u lv R hS k g hp m hk hg' hkg => cRGetY m u lv R M.L hS.e (by omega) n e (by rw [hf, hg]) k g hp hk hg' hkg⟩
theorem allE {T : Tbl} {M : RTb} {i : Nat} (h : TRel T M i) : ∀ (j : Nat) (e : Ent), M.L[j]? = some e → (fun i => if i < T.E.length then entT T.E i else Ent.zero) j = e := fun j e hj => by
  have hl := (List.getElem?_eq_some_iff.1 hj).1
  have h1 := h.er.at h.ek hl
  rw [hj] at h1
  have h2 := h.len.1
  show (if j < T.E.length then entT T.E j else Ent.zero) = e
  rw [if_pos (by omega)]
  exact (Option.some.inj h1).symm
theorem rd_rl {L : List Int} {c p n : Nat} {x : Int} (j : Nat) (hx : L[j]? = some x) (hc : L.length ≤ c) (e : p = j * 1) : Reads (rl L c) p false n (.int .i64 x) := by
  have hl := (List.getElem?_eq_some_iff.1 hx).1
  subst e
  refine ⟨by show j * 1 < c * 1; omega, rfl, ?_⟩
  rw [riC_f (by omega), Nat.div_one, Nat.mod_one]
  show Value.int .i64 (L.getD (j * 1) 0) = _
  rw [Nat.mul_one, List.getD_eq_getElem?_getD, hx]; rfl
theorem N.endR [ZW] {v V : Value} {st : St} (R : List Rw) (h1 : v = V) (h2 : st.h[0]? = some (some (rvC R))) : N (v = V ∧ ∃ R, st.h[0]? = some (some (rvC R))) := N.mk ⟨h1, R, h2⟩
theorem rv_renE [ZW] {ix : List (Nat × Nat)} {R R' : List Rw} (h : R = R') : ChunkReLe ix (rvC R) (rvC R') := by
  subst h; exact rv_ren
theorem tbl_renE {ix : List (Nat × Nat)} {T T' : Tbl} (h : T = T') : ChunkReLe ix (tblC T) (tblC T') := by
  subst h; exact ⟨id, Nat.le_refl _, fun j hj => absurd hj (Nat.not_lt_zero j)⟩
theorem rt_renE {ix : List (Nat × Nat)} {m m' : Int} {u : Option Sl} {lv : Nat → RLv} (h : m = m') : ChunkReLe ix (rtC m u lv) (rtC m' u lv) := by
  subst h; exact rt_ren
theorem put_most {M : RTb} {n x y a b d w : Int} : (rput M n x y a b d w).2.most = M.most := by
  unfold rput
  split
  · rfl
  · split <;> rfl
theorem hear_most {M : RTb} {n boot seq now : Int} : (rhear M n boot seq now).2.most = M.most := by
  unfold rhear
  split
  · split
    · rfl
    · simp only
      split <;> rfl
  · rfl
theorem leave_most {M : RTb} {n : Int} : (rleave M n).2.most = M.most := by
  unfold rleave
  split <;> rfl
structure P4 where
  i : Nat
  T : Tbl
  M : RTb
  u : Option Sl
  lv : Nat → RLv
  R : List Rw
structure Cq where
  d : Int
  n : Int
  boot : Int
  seq : Int
  now : Int
  sil : Int
  x : Int
  y : Int
  a : Int
  b : Int
  e : Int
abbrev Cq.cs (c : Cq) : List Value := [.int .i64 c.d, .int .i64 c.n, .int .i64 c.boot, .int .i64 c.seq, .int .i64 c.now, .int .i64 c.sil, .int .i64 c.x, .int .i64 c.y, .int .i64 c.a, .int .i64 c.b, .int .i64 c.e]
abbrev inw64 (x : Int) : Prop := -9223372036854775808 ≤ x ∧ x < 9223372036854775808
end Go.Proofs.YtimccfnlcnlffaaGreat


namespace Go.Proofs.YtimccfnlcnlffaaGreat.tablePlays
open Go Go.ChangeShapes Go.WideShapes Go.ChangeAt Go.RowKit Sx
theorem walk [ZW] (b0 o0 n cap : Nat) (most : Int) (C : Nat → Cq) (W : World) (hz : ZW.z = some W) (hW : b0 < W.heap.size) (hC : ∀ i, i < n → (inw64 (C i).n ∧ inw64 (C i).now ∧ inw64 (C i).sil) ∧ ∀ j v, (C i).cs[j]? = some v → W.cell? ⟨b0, o0 + i * 11 + j, none⟩ = some v) (hnn : n ≤ 9223372036854775807) :
    Calls Tryz.prog 3 #[.int .i64 most, .slice (some ⟨b0, o0, none⟩) n cap] W fun e w' => e = .returned (.bool true) ∧ Below W.heap.size W w' := by
  refine calls_rv W hz tysOK mixed Tryz.func3 (by rfl) (by omega) rfl rfl ?_
  repeat' (refine N.go ?_; first | with_reducible (first | refine N.obl (by decide) ?_ | refine N.eq ?_ | refine N.obl rfl ?_ | refine N.obl ⟨by kernel_rfl, by kernel_rfl⟩ ?_ | refine N.alt ?_ | refine N.forkT ?_ | refine N.forkF ?_) | refine N.forkNo (by decide) ?_ | refine N.forkYes (by decide) ?_ | refine N.forkYes (by rw [decide_eq_true_eq]; omega) ?_ | refine N.forkNo (by rw [decide_eq_false_iff_not]; omega) ?_ | refine N.call (cNewT most 1 _ (by rfl)) ?_ | refine N.call (cRNew most 5 _ (by rfl)) ?_ | fail)
  refine N.go ?_
  refine N.loopR (α := P4) (fun q => q.i ≤ n ∧ q.i ≤ 150 ∧ TRel q.T q.M q.i ∧ RtS q.R q.u q.lv q.M) (fun q => n - q.i) (fun q => [(25, .int .i64 (q.i : Int))]) (fun q => [(0, rvC q.R), (1, tblC q.T), (5, rtC q.M.most q.u q.lv)]) ⟨0, Tbl.new most, RTb.new most, none, fun _ => ⟨false, false, 0, none, 0⟩, []⟩ [(0, 0), (1, 1), (5, 5)] ⟨Nat.zero_le _, Nat.zero_le _, TRel.new most, ⟨.inl ⟨rfl, rfl⟩, fun k _ => ⟨rfl, rfl, rfl, rfl, .inl ⟨rfl, rfl⟩⟩⟩⟩ ?_ ?_
  · repeat' (refine N.go ?_; first | with_reducible (first | refine N.obl (by decide) ?_ | refine N.eq ?_ | refine N.obl rfl ?_ | refine N.obl ⟨by kernel_rfl, by kernel_rfl⟩ ?_ | refine N.alt ?_ | refine N.forkT ?_ | refine N.forkF ?_) | exact N.true | refine N.obl (rv_renE rfl) ?_ | refine N.obl (tbl_renE rfl) ?_ | refine N.obl (rt_renE (by first | rfl | exact hmm.symm | exact hmm)) ?_ | refine N.obl (rl_ren rfl) ?_ | refine N.obl (.plain (by rfl)) ?_ | refine N.obl (re_eqn (congrArg Value.bool hgb) rfl) ?_ | refine N.obl (re_eqn (congrArg Value.bool (beq_self_eq_true _).symm) rfl) ?_ | refine N.obl (re_eqn (int_eqn (by rw [i64s _ (by omega) (by omega)]; rfl)) rfl) ?_ | refine N.obl (.one .quo) ?_ | refine N.obl (.one (.ptr rfl)) ?_ | refine N.obl (.one (.slice rfl)) ?_ | refine N.obl (ChunkReLe.same (agg_plain (by rfl) (by rfl))) ?_ | fail)
  rintro q ⟨hq1, hq2, hR, hS⟩
  refine N.go ?_
  refine N.fork (fun hb => ?_) (fun hb => ?_)
  · have hi : q.i < n := by have := of_decide_eq_true hb; omega
    obtain ⟨⟨hcn, hcw, hcs⟩, hc⟩ := hC q.i hi
    generalize hcc : C q.i = c at hcn hcw hcs hc
    by_cases h150 : q.i = 150
    · repeat' (refine N.go ?_; first | with_reducible (first | refine N.obl (by decide) ?_ | refine N.eq ?_ | refine N.obl rfl ?_ | refine N.obl ⟨by kernel_rfl, by kernel_rfl⟩ ?_ | refine N.alt ?_ | refine N.forkT ?_ | refine N.forkF ?_) | refine N.forkNo (by decide) ?_ | refine N.forkYes (by decide) ?_ | refine N.op (ok_idxR (sz := 11) (g := o0 + q.i * 11) tysOK rfl rfl (fun _ => rfl) rfl (by exact rfl) (by omega) (by omega) (by simp; first | done | fail)) ?_ | refine N.op (ok_loadRV hz (i := 0) (R := q.R) (ds := c.cs) rfl rfl rfl (by exact ⟨rfl, rfl⟩) rfl rfl hc) ?_ | refine N.obl (show flatB (.agg ⟨c.cs⟩) 11 = true from rfl) ?_ | refine N.op (ok_lenU rfl rfl ⟨_, rfl, _, Tryz.underlying46⟩) ?_ | refine N.op (ok_lenU rfl rfl ⟨_, rfl, _, Tryz.underlying39⟩) ?_ | refine N.forkYes (by rw [decide_eq_true_eq]; omega) ?_ | refine N.forkNo (by rw [decide_eq_false_iff_not]; omega) ?_ | refine N.forkYes (decide_eq_true (by show _ ≤ _; omega)) ?_ | refine N.forkNo (decide_eq_false (by show ¬ _ ≤ _; omega)) ?_ | refine N.forkYes (decide_eq_true (by show _ < _; omega)) ?_ | refine N.forkNo (decide_eq_false (by show ¬ _ < _; omega)) ?_ | refine N.forkYes (beq_iff_eq.2 hd) ?_ | refine N.forkYes (decide_eq_true hd) ?_ | refine N.forkNo (beq_false_of_ne hd0) ?_ | refine N.forkNo (beq_false_of_ne hd1) ?_ | refine N.forkNo (beq_false_of_ne hd2) ?_ | refine N.forkNo (decide_eq_false hd0) ?_ | refine N.forkNo (decide_eq_false hd1) ?_ | refine N.forkNo (decide_eq_false hd2) ?_ | refine N.call (cAwake _) ?_ | refine N.forkNo (by rw [decide_eq_true rfl]; rfl) ?_ | refine N.forkNo (by rw [beq_self_eq_true]; rfl) ?_ | refine N.forkNo (bne_self_eq_false _) ?_ | refine N.forkNo (bne_self _) ?_ | fail_if_success skip | refine N.obl (by show endB _ _ = Bool.true; kernel_rfl) ?_ | fail)
      all_goals exact N.endR _ rfl rfl
    have hl5 : q.M.L.length ≤ 500 := by have := hR.len.2; omega
    have hwl : ∀ k, (q.M.lv k).wl.length ≤ 500 := fun k => by have := hR.wl k; omega
    have hmost : 1 ≤ q.M.most := by rw [hR.most]; exact hR.ok.most.1
    by_cases hd : c.d = 0
    · obtain ⟨T2, hR2, hcT⟩ := hearBoth hR c.n c.boot c.seq c.now
      repeat' (refine N.go ?_; first | with_reducible (first | refine N.obl (by decide) ?_ | refine N.eq ?_ | refine N.obl rfl ?_ | refine N.obl ⟨by kernel_rfl, by kernel_rfl⟩ ?_ | refine N.forkT ?_ | refine N.forkF ?_) | refine N.forkNo (by decide) ?_ | refine N.forkYes (by decide) ?_ | refine N.op (ok_idxR (sz := 11) (g := o0 + q.i * 11) tysOK rfl rfl (fun _ => rfl) rfl (by exact rfl) (by omega) (by omega) (by simp; first | done | fail)) ?_ | refine N.op (ok_loadRV hz (i := 0) (R := q.R) (ds := c.cs) rfl rfl rfl (by exact ⟨rfl, rfl⟩) rfl rfl hc) ?_ | refine N.obl (show flatB (.agg ⟨c.cs⟩) 11 = true from rfl) ?_ | refine N.op (ok_lenU rfl rfl ⟨_, rfl, _, Tryz.underlying46⟩) ?_ | refine N.op (ok_lenU rfl rfl ⟨_, rfl, _, Tryz.underlying39⟩) ?_ | refine N.forkYes (by rw [decide_eq_true_eq]; omega) ?_ | refine N.forkNo (by rw [decide_eq_false_iff_not]; omega) ?_ | refine N.forkYes (decide_eq_true (by show _ ≤ _; omega)) ?_ | refine N.forkNo (decide_eq_false (by show ¬ _ ≤ _; omega)) ?_ | refine N.forkYes (decide_eq_true (by show _ < _; omega)) ?_ | refine N.forkNo (decide_eq_false (by show ¬ _ < _; omega)) ?_ | refine N.forkYes (beq_iff_eq.2 hd) ?_ | refine N.forkYes (decide_eq_true hd) ?_ | refine N.forkNo (beq_false_of_ne hd0) ?_ | refine N.forkNo (beq_false_of_ne hd1) ?_ | refine N.forkNo (beq_false_of_ne hd2) ?_ | refine N.forkNo (decide_eq_false hd0) ?_ | refine N.forkNo (decide_eq_false hd1) ?_ | refine N.forkNo (decide_eq_false hd2) ?_ | refine N.obl (by show endB _ _ = Bool.true; kernel_rfl) ?_ | fail)
      refine N.go ?_
      refine N.altP ?_
      repeat' (refine N.go ?_; first | with_reducible (first | refine N.obl (by decide) ?_ | refine N.eq ?_ | refine N.obl rfl ?_ | refine N.obl ⟨by kernel_rfl, by kernel_rfl⟩ ?_ | refine N.alt ?_ | refine N.forkT ?_ | refine N.forkF ?_) | refine N.forkNo (by decide) ?_ | refine N.forkYes (by decide) ?_ | refine N.forkYes (by rw [decide_eq_true_eq]; omega) ?_ | refine N.forkNo (by rw [decide_eq_false_iff_not]; omega) ?_ | refine N.obl (by show endB _ _ = Bool.true; kernel_rfl) ?_ | fail)
      refine N.go ?_
      refine N.plan [0, 1, 2, 3, 4, 5, 6, 7, 8, 9, 10, 11, 12, 13, 14, 15, 16, 17, 18] [(19, [20, 21])] (by kernel_rfl) ?_
      repeat' (refine N.go ?_; first | with_reducible (first | refine N.obl (by decide) ?_ | refine N.eq ?_ | refine N.obl rfl ?_ | refine N.obl ⟨by kernel_rfl, by kernel_rfl⟩ ?_ | refine N.alt ?_ | refine N.forkT ?_ | refine N.forkF ?_) | refine N.forkNo (by decide) ?_ | refine N.forkYes (by decide) ?_ | refine N.forkYes (by rw [decide_eq_true_eq]; omega) ?_ | refine N.forkNo (by rw [decide_eq_false_iff_not]; omega) ?_ | refine N.call (hcT 1 _ (by rfl)) ?_ | refine N.obl (by show endB _ _ = Bool.true; kernel_rfl) ?_ | fail)
      refine N.go ?_
      refine N_callM [5, 0] _ (by show midB _ _ _ _ = Bool.true; kernel_rfl) (fun h₂ hh => cRHear q.M q.u q.lv q.R hS hl5 c.n c.boot c.seq c.now hwl hmost 5 0 h₂ ((hh 5 (by simp)).trans rfl) ((hh 0 (by simp)).trans rfl) (by decide)) fun v ms hM_ => ?_
      obtain ⟨⟨u2, lv2, R2⟩, hS2, rfl, rfl⟩ := hM_
      refine ⟨by simp, ?_⟩
      repeat' (refine N.go ?_; first | with_reducible (first | refine N.obl (by decide) ?_ | refine N.eq ?_ | refine N.obl rfl ?_ | refine N.obl ⟨by kernel_rfl, by kernel_rfl⟩ ?_ | refine N.alt ?_ | refine N.forkT ?_ | refine N.forkF ?_) | refine N.forkNo (by decide) ?_ | refine N.forkYes (by decide) ?_ | refine N.forkYes (by rw [decide_eq_true_eq]; omega) ?_ | refine N.forkNo (by rw [decide_eq_false_iff_not]; omega) ?_ | refine N.obl (by show endB _ _ = Bool.true; kernel_rfl) ?_ | fail)
      refine N.go ?_
      have hRt : TRel (T2) ((rhear q.M c.n c.boot c.seq c.now).2) (q.i + 1) := hR2
      have hSt : RtS R2 u2 lv2 ((rhear q.M c.n c.boot c.seq c.now).2) := hS2
      have hmm : ((rhear q.M c.n c.boot c.seq c.now).2).most = q.M.most := hear_most
      obtain ⟨en, gb, hga, hgb⟩ := getBoth hRt c.n
      have hlA := hRt.len
      have hlE := hSt.e.len
      have hlI : (((T2).E.length : Nat) : Int) = ((uN u2 : Nat) : Int) := by rw [hlE, hlA.1]
      repeat' (refine N.go ?_; first | with_reducible (first | refine N.obl (by decide) ?_ | refine N.eq ?_ | refine N.obl rfl ?_ | refine N.obl ⟨by kernel_rfl, by kernel_rfl⟩ ?_ | refine N.forkT ?_ | refine N.forkF ?_) | refine N.forkNo (by decide) ?_ | refine N.forkYes (by decide) ?_ | refine N.forkYes (by rw [decide_eq_true_eq]; omega) ?_ | refine N.forkNo (by rw [decide_eq_false_iff_not]; omega) ?_ | refine N.call (hga 1 _ (by rfl)) ?_ | refine N.call (hgb _ _ _ hSt 5 0 _ _ (by rfl) (by rfl) (by decide)) ?_ | refine N.forkNo (by rw [decide_eq_true rfl]; rfl) ?_ | refine N.forkNo (by rw [beq_self_eq_true]; rfl) ?_ | refine N.forkNo (bne_self_eq_false _) ?_ | refine N.forkNo (bne_self _) ?_ | refine N.obl (by show endB _ _ = Bool.true; kernel_rfl) ?_ | fail)
      refine N.go ?_
      refine N.altP ?_
      repeat' (refine N.go ?_; first | with_reducible (first | refine N.obl (by decide) ?_ | refine N.eq ?_ | refine N.obl rfl ?_ | refine N.obl ⟨by kernel_rfl, by kernel_rfl⟩ ?_ | refine N.alt ?_ | refine N.forkT ?_ | refine N.forkF ?_) | refine N.forkNo (by decide) ?_ | refine N.forkYes (by decide) ?_ | refine N.forkYes (by rw [decide_eq_true_eq]; omega) ?_ | refine N.forkNo (by rw [decide_eq_false_iff_not]; omega) ?_ | refine N.obl (by show endB _ _ = Bool.true; kernel_rfl) ?_ | fail)
      refine N.go ?_
      refine N.plan [0, 1, 2, 3, 4, 5, 6, 7, 8, 9, 10, 11, 12, 13, 14, 15, 16, 17, 18, 19, 20, 21, 22, 23, 25, 26, 27, 28] [(24, [29, 30, 31])] (by kernel_rfl) ?_
      repeat' (refine N.go ?_; first | with_reducible (first | refine N.obl (by decide) ?_ | refine N.eq ?_ | refine N.obl rfl ?_ | refine N.obl ⟨by kernel_rfl, by kernel_rfl⟩ ?_ | refine N.alt ?_ | refine N.forkT ?_ | refine N.forkF ?_) | refine N.forkNo (by decide) ?_ | refine N.forkYes (by decide) ?_ | refine N.op (ok_lenU rfl rfl ⟨_, rfl, _, Tryz.underlying46⟩) ?_ | refine N.op (ok_lenU rfl rfl ⟨_, rfl, _, Tryz.underlying39⟩) ?_ | refine N.forkYes (by rw [decide_eq_true_eq]; omega) ?_ | refine N.forkNo (by rw [decide_eq_false_iff_not]; omega) ?_ | refine N.call (cLenT _ 1 _ (by rfl)) ?_ | refine N.bin _ (ne_entry_same _ _ en) ?_ | refine N.forkNo (by rw [hlI]; exact bne_self_eq_false _) ?_ | refine N.forkNo (by rw [decide_eq_true rfl]; rfl) ?_ | refine N.forkNo (by rw [beq_self_eq_true]; rfl) ?_ | refine N.forkNo (bne_self_eq_false _) ?_ | refine N.forkNo (bne_self _) ?_ | refine N.obl (by show endB _ _ = Bool.true; kernel_rfl) ?_ | fail)
      refine N.go ?_
      refine N_callM [1, 2] _ (by show midB _ _ _ _ = Bool.true; kernel_rfl) (fun h₂ hh => cAllT _ (by have := hlA.1; have := hlA.2; omega) 1 2 h₂ ((hh 1 (by simp)).trans rfl) ((hh 2 (by simp)).trans rfl)) fun v ms hM_ => ?_
      rcases hM_ with ⟨hE0, rfl, rfl⟩ | ⟨cap2, hc0, hc1, rfl, rfl⟩
      · have hL0 : ((rhear q.M c.n c.boot c.seq c.now).2).L = [] := List.length_eq_zero_iff.1 (by rw [hlA.1, hE0]; rfl)
        have hSE := hSt.e
        rw [hL0] at hSE
        refine ⟨by simp, ?_⟩
        repeat' (refine N.go ?_; first | with_reducible (first | refine N.obl (by decide) ?_ | refine N.eq ?_ | refine N.obl rfl ?_ | refine N.obl ⟨by kernel_rfl, by kernel_rfl⟩ ?_ | refine N.alt ?_ | refine N.forkT ?_ | refine N.forkF ?_) | refine N.forkNo (by decide) ?_ | refine N.forkYes (by decide) ?_ | refine N.forkYes (by rw [decide_eq_true_eq]; omega) ?_ | refine N.forkNo (by rw [decide_eq_false_iff_not]; omega) ?_ | refine N.call (cRSameNil _ _ hSE 0 _ (by rfl)) ?_ | refine N.obl (by show endB _ _ = Bool.true; kernel_rfl) ?_ | fail)
        refine N.go ?_
        refine N.nextR (⟨q.i + 1, T2, (rhear q.M c.n c.boot c.seq c.now).2, u2, lv2, R2⟩ : P4) [(0, 0), (1, 1), (5, 5)] ⟨⟨by show q.i + 1 ≤ n; omega, by show q.i + 1 ≤ 150; omega, hRt, hSt⟩, by show n - (q.i + 1) < n - q.i; omega⟩ ?_
        repeat' (refine N.go ?_; first | with_reducible (first | refine N.obl (by decide) ?_ | refine N.eq ?_ | refine N.obl rfl ?_ | refine N.obl ⟨by kernel_rfl, by kernel_rfl⟩ ?_ | refine N.alt ?_ | refine N.forkT ?_ | refine N.forkF ?_) | exact N.true | refine N.obl (rv_renE rfl) ?_ | refine N.obl (tbl_renE rfl) ?_ | refine N.obl (rt_renE (by first | rfl | exact hmm.symm | exact hmm)) ?_ | refine N.obl (.plain (by rfl)) ?_ | refine N.obl (re_eqn (int_eqn (by rw [i64s _ (by omega) (by omega)]; rfl)) rfl) ?_ | refine N.obl (.one .quo) ?_ | refine N.obl (.one (.ptr rfl)) ?_ | refine N.obl (.one (.slice rfl)) ?_ | refine N.obl (ChunkReLe.same (agg_plain (by rfl) (by rfl))) ?_ | fail)
      · refine ⟨by simp, ?_⟩
        repeat' (refine N.go ?_; first | with_reducible (first | refine N.obl (by decide) ?_ | refine N.eq ?_ | refine N.obl rfl ?_ | refine N.obl ⟨by kernel_rfl, by kernel_rfl⟩ ?_ | refine N.alt ?_ | refine N.forkT ?_ | refine N.forkF ?_) | refine N.forkNo (by decide) ?_ | refine N.forkYes (by decide) ?_ | refine N.forkYes (by rw [decide_eq_true_eq]; omega) ?_ | refine N.forkNo (by rw [decide_eq_false_iff_not]; omega) ?_ | refine N.call (cRSame cap2 _ _ _ _ _ hSt.e (by omega) hlA.1.symm hc1 (allE hRt) 2 0 _ (by rfl) (by rfl) (by decide)) ?_ | refine N.obl (by show endB _ _ = Bool.true; kernel_rfl) ?_ | fail)
        refine N.go ?_
        refine N.nextR (⟨q.i + 1, T2, (rhear q.M c.n c.boot c.seq c.now).2, u2, lv2, R2⟩ : P4) [(0, 0), (1, 1), (5, 5)] ⟨⟨by show q.i + 1 ≤ n; omega, by show q.i + 1 ≤ 150; omega, hRt, hSt⟩, by show n - (q.i + 1) < n - q.i; omega⟩ ?_
        repeat' (refine N.go ?_; first | with_reducible (first | refine N.obl (by decide) ?_ | refine N.eq ?_ | refine N.obl rfl ?_ | refine N.obl ⟨by kernel_rfl, by kernel_rfl⟩ ?_ | refine N.alt ?_ | refine N.forkT ?_ | refine N.forkF ?_) | exact N.true | refine N.obl (rv_renE rfl) ?_ | refine N.obl (tbl_renE rfl) ?_ | refine N.obl (rt_renE (by first | rfl | exact hmm.symm | exact hmm)) ?_ | refine N.obl (.plain (by rfl)) ?_ | refine N.obl (re_eqn (int_eqn (by rw [i64s _ (by omega) (by omega)]; rfl)) rfl) ?_ | refine N.obl (.one .quo) ?_ | refine N.obl (.one (.ptr rfl)) ?_ | refine N.obl (.one (.slice rfl)) ?_ | refine N.obl (ChunkReLe.same (agg_plain (by rfl) (by rfl))) ?_ | fail)
    · have hd0 : c.d ≠ 0 := hd
      by_cases hd : c.d = 1
      · obtain ⟨T2, hR2, hcT⟩ := leaveBoth hR c.n
        repeat' (refine N.go ?_; first | with_reducible (first | refine N.obl (by decide) ?_ | refine N.eq ?_ | refine N.obl rfl ?_ | refine N.obl ⟨by kernel_rfl, by kernel_rfl⟩ ?_ | refine N.forkT ?_ | refine N.forkF ?_) | refine N.forkNo (by decide) ?_ | refine N.forkYes (by decide) ?_ | refine N.op (ok_idxR (sz := 11) (g := o0 + q.i * 11) tysOK rfl rfl (fun _ => rfl) rfl (by exact rfl) (by omega) (by omega) (by simp; first | done | fail)) ?_ | refine N.op (ok_loadRV hz (i := 0) (R := q.R) (ds := c.cs) rfl rfl rfl (by exact ⟨rfl, rfl⟩) rfl rfl hc) ?_ | refine N.obl (show flatB (.agg ⟨c.cs⟩) 11 = true from rfl) ?_ | refine N.op (ok_lenU rfl rfl ⟨_, rfl, _, Tryz.underlying46⟩) ?_ | refine N.op (ok_lenU rfl rfl ⟨_, rfl, _, Tryz.underlying39⟩) ?_ | refine N.forkYes (by rw [decide_eq_true_eq]; omega) ?_ | refine N.forkNo (by rw [decide_eq_false_iff_not]; omega) ?_ | refine N.forkYes (decide_eq_true (by show _ ≤ _; omega)) ?_ | refine N.forkNo (decide_eq_false (by show ¬ _ ≤ _; omega)) ?_ | refine N.forkYes (decide_eq_true (by show _ < _; omega)) ?_ | refine N.forkNo (decide_eq_false (by show ¬ _ < _; omega)) ?_ | refine N.forkYes (beq_iff_eq.2 hd) ?_ | refine N.forkYes (decide_eq_true hd) ?_ | refine N.forkNo (beq_false_of_ne hd0) ?_ | refine N.forkNo (beq_false_of_ne hd1) ?_ | refine N.forkNo (beq_false_of_ne hd2) ?_ | refine N.forkNo (decide_eq_false hd0) ?_ | refine N.forkNo (decide_eq_false hd1) ?_ | refine N.forkNo (decide_eq_false hd2) ?_ | refine N.obl (by show endB _ _ = Bool.true; kernel_rfl) ?_ | fail)
        refine N.go ?_
        refine N.altP ?_
        repeat' (refine N.go ?_; first | with_reducible (first | refine N.obl (by decide) ?_ | refine N.eq ?_ | refine N.obl rfl ?_ | refine N.obl ⟨by kernel_rfl, by kernel_rfl⟩ ?_ | refine N.alt ?_ | refine N.forkT ?_ | refine N.forkF ?_) | refine N.forkNo (by decide) ?_ | refine N.forkYes (by decide) ?_ | refine N.forkYes (by rw [decide_eq_true_eq]; omega) ?_ | refine N.forkNo (by rw [decide_eq_false_iff_not]; omega) ?_ | refine N.obl (by show endB _ _ = Bool.true; kernel_rfl) ?_ | fail)
        refine N.go ?_
        refine N.plan [0, 1, 2, 3, 4, 5, 6] [(7, [8, 9])] (by kernel_rfl) ?_
        repeat' (refine N.go ?_; first | with_reducible (first | refine N.obl (by decide) ?_ | refine N.eq ?_ | refine N.obl rfl ?_ | refine N.obl ⟨by kernel_rfl, by kernel_rfl⟩ ?_ | refine N.alt ?_ | refine N.forkT ?_ | refine N.forkF ?_) | refine N.forkNo (by decide) ?_ | refine N.forkYes (by decide) ?_ | refine N.forkYes (by rw [decide_eq_true_eq]; omega) ?_ | refine N.forkNo (by rw [decide_eq_false_iff_not]; omega) ?_ | refine N.call (hcT 1 _ (by rfl)) ?_ | refine N.obl (by show endB _ _ = Bool.true; kernel_rfl) ?_ | fail)
        refine N.go ?_
        refine N_callM [5, 0] _ (by show midB _ _ _ _ = Bool.true; kernel_rfl) (fun h₂ hh => cRLeave q.M q.u q.lv q.R hS hl5 c.n 5 0 h₂ ((hh 5 (by simp)).trans rfl) ((hh 0 (by simp)).trans rfl) (by decide)) fun v ms hM_ => ?_
        obtain ⟨⟨u2, lv2, R2⟩, hS2, rfl, rfl⟩ := hM_
        refine ⟨by simp, ?_⟩
        repeat' (refine N.go ?_; first | with_reducible (first | refine N.obl (by decide) ?_ | refine N.eq ?_ | refine N.obl rfl ?_ | refine N.obl ⟨by kernel_rfl, by kernel_rfl⟩ ?_ | refine N.alt ?_ | refine N.forkT ?_ | refine N.forkF ?_) | refine N.forkNo (by decide) ?_ | refine N.forkYes (by decide) ?_ | refine N.forkYes (by rw [decide_eq_true_eq]; omega) ?_ | refine N.forkNo (by rw [decide_eq_false_iff_not]; omega) ?_ | refine N.obl (by show endB _ _ = Bool.true; kernel_rfl) ?_ | fail)
        refine N.go ?_
        have hRt : TRel (T2) ((rleave q.M c.n).2) (q.i + 1) := hR2
        have hSt : RtS R2 u2 lv2 ((rleave q.M c.n).2) := hS2
        have hmm : ((rleave q.M c.n).2).most = q.M.most := leave_most
        obtain ⟨en, gb, hga, hgb⟩ := getBoth hRt c.n
        have hlA := hRt.len
        have hlE := hSt.e.len
        have hlI : (((T2).E.length : Nat) : Int) = ((uN u2 : Nat) : Int) := by rw [hlE, hlA.1]
        repeat' (refine N.go ?_; first | with_reducible (first | refine N.obl (by decide) ?_ | refine N.eq ?_ | refine N.obl rfl ?_ | refine N.obl ⟨by kernel_rfl, by kernel_rfl⟩ ?_ | refine N.forkT ?_ | refine N.forkF ?_) | refine N.forkNo (by decide) ?_ | refine N.forkYes (by decide) ?_ | refine N.forkYes (by rw [decide_eq_true_eq]; omega) ?_ | refine N.forkNo (by rw [decide_eq_false_iff_not]; omega) ?_ | refine N.call (hga 1 _ (by rfl)) ?_ | refine N.call (hgb _ _ _ hSt 5 0 _ _ (by rfl) (by rfl) (by decide)) ?_ | refine N.forkNo (by rw [decide_eq_true rfl]; rfl) ?_ | refine N.forkNo (by rw [beq_self_eq_true]; rfl) ?_ | refine N.forkNo (bne_self_eq_false _) ?_ | refine N.forkNo (bne_self _) ?_ | refine N.obl (by show endB _ _ = Bool.true; kernel_rfl) ?_ | fail)
        refine N.go ?_
        refine N.altP ?_
        repeat' (refine N.go ?_; first | with_reducible (first | refine N.obl (by decide) ?_ | refine N.eq ?_ | refine N.obl rfl ?_ | refine N.obl ⟨by kernel_rfl, by kernel_rfl⟩ ?_ | refine N.alt ?_ | refine N.forkT ?_ | refine N.forkF ?_) | refine N.forkNo (by decide) ?_ | refine N.forkYes (by decide) ?_ | refine N.forkYes (by rw [decide_eq_true_eq]; omega) ?_ | refine N.forkNo (by rw [decide_eq_false_iff_not]; omega) ?_ | refine N.obl (by show endB _ _ = Bool.true; kernel_rfl) ?_ | fail)
        refine N.go ?_
        refine N.plan [0, 1, 2, 3, 4, 5, 6, 7, 8, 9, 10, 11, 12, 13, 14, 15, 16, 17, 18, 19, 20, 21, 22, 23, 25, 26, 27, 28] [(24, [29, 30, 31])] (by kernel_rfl) ?_
        repeat' (refine N.go ?_; first | with_reducible (first | refine N.obl (by decide) ?_ | refine N.eq ?_ | refine N.obl rfl ?_ | refine N.obl ⟨by kernel_rfl, by kernel_rfl⟩ ?_ | refine N.alt ?_ | refine N.forkT ?_ | refine N.forkF ?_) | refine N.forkNo (by decide) ?_ | refine N.forkYes (by decide) ?_ | refine N.op (ok_lenU rfl rfl ⟨_, rfl, _, Tryz.underlying46⟩) ?_ | refine N.op (ok_lenU rfl rfl ⟨_, rfl, _, Tryz.underlying39⟩) ?_ | refine N.forkYes (by rw [decide_eq_true_eq]; omega) ?_ | refine N.forkNo (by rw [decide_eq_false_iff_not]; omega) ?_ | refine N.call (cLenT _ 1 _ (by rfl)) ?_ | refine N.bin _ (ne_entry_same _ _ en) ?_ | refine N.forkNo (by rw [hlI]; exact bne_self_eq_false _) ?_ | refine N.forkNo (by rw [decide_eq_true rfl]; rfl) ?_ | refine N.forkNo (by rw [beq_self_eq_true]; rfl) ?_ | refine N.forkNo (bne_self_eq_false _) ?_ | refine N.forkNo (bne_self _) ?_ | refine N.obl (by show endB _ _ = Bool.true; kernel_rfl) ?_ | fail)
        refine N.go ?_
        refine N_callM [1, 2] _ (by show midB _ _ _ _ = Bool.true; kernel_rfl) (fun h₂ hh => cAllT _ (by have := hlA.1; have := hlA.2; omega) 1 2 h₂ ((hh 1 (by simp)).trans rfl) ((hh 2 (by simp)).trans rfl)) fun v ms hM_ => ?_
        rcases hM_ with ⟨hE0, rfl, rfl⟩ | ⟨cap2, hc0, hc1, rfl, rfl⟩
        · have hL0 : ((rleave q.M c.n).2).L = [] := List.length_eq_zero_iff.1 (by rw [hlA.1, hE0]; rfl)
          have hSE := hSt.e
          rw [hL0] at hSE
          refine ⟨by simp, ?_⟩
          repeat' (refine N.go ?_; first | with_reducible (first | refine N.obl (by decide) ?_ | refine N.eq ?_ | refine N.obl rfl ?_ | refine N.obl ⟨by kernel_rfl, by kernel_rfl⟩ ?_ | refine N.alt ?_ | refine N.forkT ?_ | refine N.forkF ?_) | refine N.forkNo (by decide) ?_ | refine N.forkYes (by decide) ?_ | refine N.forkYes (by rw [decide_eq_true_eq]; omega) ?_ | refine N.forkNo (by rw [decide_eq_false_iff_not]; omega) ?_ | refine N.call (cRSameNil _ _ hSE 0 _ (by rfl)) ?_ | refine N.obl (by show endB _ _ = Bool.true; kernel_rfl) ?_ | fail)
          refine N.go ?_
          refine N.nextR (⟨q.i + 1, T2, (rleave q.M c.n).2, u2, lv2, R2⟩ : P4) [(0, 0), (1, 1), (5, 5)] ⟨⟨by show q.i + 1 ≤ n; omega, by show q.i + 1 ≤ 150; omega, hRt, hSt⟩, by show n - (q.i + 1) < n - q.i; omega⟩ ?_
          repeat' (refine N.go ?_; first | with_reducible (first | refine N.obl (by decide) ?_ | refine N.eq ?_ | refine N.obl rfl ?_ | refine N.obl ⟨by kernel_rfl, by kernel_rfl⟩ ?_ | refine N.alt ?_ | refine N.forkT ?_ | refine N.forkF ?_) | exact N.true | refine N.obl (rv_renE rfl) ?_ | refine N.obl (tbl_renE rfl) ?_ | refine N.obl (rt_renE (by first | rfl | exact hmm.symm | exact hmm)) ?_ | refine N.obl (.plain (by rfl)) ?_ | refine N.obl (re_eqn (int_eqn (by rw [i64s _ (by omega) (by omega)]; rfl)) rfl) ?_ | refine N.obl (.one .quo) ?_ | refine N.obl (.one (.ptr rfl)) ?_ | refine N.obl (.one (.slice rfl)) ?_ | refine N.obl (ChunkReLe.same (agg_plain (by rfl) (by rfl))) ?_ | fail)
        · refine ⟨by simp, ?_⟩
          repeat' (refine N.go ?_; first | with_reducible (first | refine N.obl (by decide) ?_ | refine N.eq ?_ | refine N.obl rfl ?_ | refine N.obl ⟨by kernel_rfl, by kernel_rfl⟩ ?_ | refine N.alt ?_ | refine N.forkT ?_ | refine N.forkF ?_) | refine N.forkNo (by decide) ?_ | refine N.forkYes (by decide) ?_ | refine N.forkYes (by rw [decide_eq_true_eq]; omega) ?_ | refine N.forkNo (by rw [decide_eq_false_iff_not]; omega) ?_ | refine N.call (cRSame cap2 _ _ _ _ _ hSt.e (by omega) hlA.1.symm hc1 (allE hRt) 2 0 _ (by rfl) (by rfl) (by decide)) ?_ | refine N.obl (by show endB _ _ = Bool.true; kernel_rfl) ?_ | fail)
          refine N.go ?_
          refine N.nextR (⟨q.i + 1, T2, (rleave q.M c.n).2, u2, lv2, R2⟩ : P4) [(0, 0), (1, 1), (5, 5)] ⟨⟨by show q.i + 1 ≤ n; omega, by show q.i + 1 ≤ 150; omega, hRt, hSt⟩, by show n - (q.i + 1) < n - q.i; omega⟩ ?_
          repeat' (refine N.go ?_; first | with_reducible (first | refine N.obl (by decide) ?_ | refine N.eq ?_ | refine N.obl rfl ?_ | refine N.obl ⟨by kernel_rfl, by kernel_rfl⟩ ?_ | refine N.alt ?_ | refine N.forkT ?_ | refine N.forkF ?_) | exact N.true | refine N.obl (rv_renE rfl) ?_ | refine N.obl (tbl_renE rfl) ?_ | refine N.obl (rt_renE (by first | rfl | exact hmm.symm | exact hmm)) ?_ | refine N.obl (.plain (by rfl)) ?_ | refine N.obl (re_eqn (int_eqn (by rw [i64s _ (by omega) (by omega)]; rfl)) rfl) ?_ | refine N.obl (.one .quo) ?_ | refine N.obl (.one (.ptr rfl)) ?_ | refine N.obl (.one (.slice rfl)) ?_ | refine N.obl (ChunkReLe.same (agg_plain (by rfl) (by rfl))) ?_ | fail)
      · have hd1 : c.d ≠ 1 := hd
        by_cases hd : c.d = 2
        · obtain ⟨T2, hR2, hcT⟩ := putBoth hR c.n c.x c.y c.a c.b c.e c.now ⟨hcn.1, by have := hcn.2; omega⟩
          repeat' (refine N.go ?_; first | with_reducible (first | refine N.obl (by decide) ?_ | refine N.eq ?_ | refine N.obl rfl ?_ | refine N.obl ⟨by kernel_rfl, by kernel_rfl⟩ ?_ | refine N.forkT ?_ | refine N.forkF ?_) | refine N.forkNo (by decide) ?_ | refine N.forkYes (by decide) ?_ | refine N.op (ok_idxR (sz := 11) (g := o0 + q.i * 11) tysOK rfl rfl (fun _ => rfl) rfl (by exact rfl) (by omega) (by omega) (by simp; first | done | fail)) ?_ | refine N.op (ok_loadRV hz (i := 0) (R := q.R) (ds := c.cs) rfl rfl rfl (by exact ⟨rfl, rfl⟩) rfl rfl hc) ?_ | refine N.obl (show flatB (.agg ⟨c.cs⟩) 11 = true from rfl) ?_ | refine N.op (ok_lenU rfl rfl ⟨_, rfl, _, Tryz.underlying46⟩) ?_ | refine N.op (ok_lenU rfl rfl ⟨_, rfl, _, Tryz.underlying39⟩) ?_ | refine N.forkYes (by rw [decide_eq_true_eq]; omega) ?_ | refine N.forkNo (by rw [decide_eq_false_iff_not]; omega) ?_ | refine N.forkYes (decide_eq_true (by show _ ≤ _; omega)) ?_ | refine N.forkNo (decide_eq_false (by show ¬ _ ≤ _; omega)) ?_ | refine N.forkYes (decide_eq_true (by show _ < _; omega)) ?_ | refine N.forkNo (decide_eq_false (by show ¬ _ < _; omega)) ?_ | refine N.forkYes (beq_iff_eq.2 hd) ?_ | refine N.forkYes (decide_eq_true hd) ?_ | refine N.forkNo (beq_false_of_ne hd0) ?_ | refine N.forkNo (beq_false_of_ne hd1) ?_ | refine N.forkNo (beq_false_of_ne hd2) ?_ | refine N.forkNo (decide_eq_false hd0) ?_ | refine N.forkNo (decide_eq_false hd1) ?_ | refine N.forkNo (decide_eq_false hd2) ?_ | refine N.obl (by show endB _ _ = Bool.true; kernel_rfl) ?_ | fail)
          refine N.go ?_
          refine N.altP ?_
          repeat' (refine N.go ?_; first | with_reducible (first | refine N.obl (by decide) ?_ | refine N.eq ?_ | refine N.obl rfl ?_ | refine N.obl ⟨by kernel_rfl, by kernel_rfl⟩ ?_ | refine N.alt ?_ | refine N.forkT ?_ | refine N.forkF ?_) | refine N.forkNo (by decide) ?_ | refine N.forkYes (by decide) ?_ | refine N.forkYes (by rw [decide_eq_true_eq]; omega) ?_ | refine N.forkNo (by rw [decide_eq_false_iff_not]; omega) ?_ | refine N.obl (by show endB _ _ = Bool.true; kernel_rfl) ?_ | fail)
          refine N.go ?_
          refine N.plan [0, 1, 2, 3, 4, 5, 6, 7, 8, 9, 10, 11, 12, 13, 14] [(15, [16, 17])] (by kernel_rfl) ?_
          repeat' (refine N.go ?_; first | with_reducible (first | refine N.obl (by decide) ?_ | refine N.eq ?_ | refine N.obl rfl ?_ | refine N.obl ⟨by kernel_rfl, by kernel_rfl⟩ ?_ | refine N.alt ?_ | refine N.forkT ?_ | refine N.forkF ?_) | refine N.forkNo (by decide) ?_ | refine N.forkYes (by decide) ?_ | refine N.forkYes (by rw [decide_eq_true_eq]; omega) ?_ | refine N.forkNo (by rw [decide_eq_false_iff_not]; omega) ?_ | refine N.call (hcT 1 _ (by rfl)) ?_ | refine N.obl (by show endB _ _ = Bool.true; kernel_rfl) ?_ | fail)
          refine N.go ?_
          refine N_callM [5, 0] _ (by show midB _ _ _ _ = Bool.true; kernel_rfl) (fun h₂ hh => cRPut q.M q.u q.lv q.R hS hl5 c.n c.x c.y c.a c.b c.e c.now 5 0 h₂ ((hh 5 (by simp)).trans rfl) ((hh 0 (by simp)).trans rfl) (by decide)) fun v ms hM_ => ?_
          obtain ⟨⟨u2, lv2, R2⟩, hS2, rfl, rfl⟩ := hM_
          refine ⟨by simp, ?_⟩
          repeat' (refine N.go ?_; first | with_reducible (first | refine N.obl (by decide) ?_ | refine N.eq ?_ | refine N.obl rfl ?_ | refine N.obl ⟨by kernel_rfl, by kernel_rfl⟩ ?_ | refine N.alt ?_ | refine N.forkT ?_ | refine N.forkF ?_) | refine N.forkNo (by decide) ?_ | refine N.forkYes (by decide) ?_ | refine N.forkYes (by rw [decide_eq_true_eq]; omega) ?_ | refine N.forkNo (by rw [decide_eq_false_iff_not]; omega) ?_ | refine N.obl (by show endB _ _ = Bool.true; kernel_rfl) ?_ | fail)
          refine N.go ?_
          have hRt : TRel (T2) ((rput q.M c.n c.x c.y c.a c.b c.e c.now).2) (q.i + 1) := hR2
          have hSt : RtS R2 u2 lv2 ((rput q.M c.n c.x c.y c.a c.b c.e c.now).2) := hS2
          have hmm : ((rput q.M c.n c.x c.y c.a c.b c.e c.now).2).most = q.M.most := put_most
          obtain ⟨en, gb, hga, hgb⟩ := getBoth hRt c.n
          have hlA := hRt.len
          have hlE := hSt.e.len
          have hlI : (((T2).E.length : Nat) : Int) = ((uN u2 : Nat) : Int) := by rw [hlE, hlA.1]
          repeat' (refine N.go ?_; first | with_reducible (first | refine N.obl (by decide) ?_ | refine N.eq ?_ | refine N.obl rfl ?_ | refine N.obl ⟨by kernel_rfl, by kernel_rfl⟩ ?_ | refine N.forkT ?_ | refine N.forkF ?_) | refine N.forkNo (by decide) ?_ | refine N.forkYes (by decide) ?_ | refine N.forkYes (by rw [decide_eq_true_eq]; omega) ?_ | refine N.forkNo (by rw [decide_eq_false_iff_not]; omega) ?_ | refine N.call (hga 1 _ (by rfl)) ?_ | refine N.call (hgb _ _ _ hSt 5 0 _ _ (by rfl) (by rfl) (by decide)) ?_ | refine N.forkNo (by rw [decide_eq_true rfl]; rfl) ?_ | refine N.forkNo (by rw [beq_self_eq_true]; rfl) ?_ | refine N.forkNo (bne_self_eq_false _) ?_ | refine N.forkNo (bne_self _) ?_ | refine N.obl (by show endB _ _ = Bool.true; kernel_rfl) ?_ | fail)
          refine N.go ?_
          refine N.altP ?_
          repeat' (refine N.go ?_; first | with_reducible (first | refine N.obl (by decide) ?_ | refine N.eq ?_ | refine N.obl rfl ?_ | refine N.obl ⟨by kernel_rfl, by kernel_rfl⟩ ?_ | refine N.alt ?_ | refine N.forkT ?_ | refine N.forkF ?_) | refine N.forkNo (by decide) ?_ | refine N.forkYes (by decide) ?_ | refine N.forkYes (by rw [decide_eq_true_eq]; omega) ?_ | refine N.forkNo (by rw [decide_eq_false_iff_not]; omega) ?_ | refine N.obl (by show endB _ _ = Bool.true; kernel_rfl) ?_ | fail)
          refine N.go ?_
          refine N.plan [0, 1, 2, 3, 4, 5, 6, 7, 8, 9, 10, 11, 12, 13, 14, 15, 16, 17, 18, 19, 20, 21, 22, 23, 25, 26, 27, 28] [(24, [29, 30, 31])] (by kernel_rfl) ?_
          repeat' (refine N.go ?_; first | with_reducible (first | refine N.obl (by decide) ?_ | refine N.eq ?_ | refine N.obl rfl ?_ | refine N.obl ⟨by kernel_rfl, by kernel_rfl⟩ ?_ | refine N.alt ?_ | refine N.forkT ?_ | refine N.forkF ?_) | refine N.forkNo (by decide) ?_ | refine N.forkYes (by decide) ?_ | refine N.op (ok_lenU rfl rfl ⟨_, rfl, _, Tryz.underlying46⟩) ?_ | refine N.op (ok_lenU rfl rfl ⟨_, rfl, _, Tryz.underlying39⟩) ?_ | refine N.forkYes (by rw [decide_eq_true_eq]; omega) ?_ | refine N.forkNo (by rw [decide_eq_false_iff_not]; omega) ?_ | refine N.call (cLenT _ 1 _ (by rfl)) ?_ | refine N.bin _ (ne_entry_same _ _ en) ?_ | refine N.forkNo (by rw [hlI]; exact bne_self_eq_false _) ?_ | refine N.forkNo (by rw [decide_eq_true rfl]; rfl) ?_ | refine N.forkNo (by rw [beq_self_eq_true]; rfl) ?_ | refine N.forkNo (bne_self_eq_false _) ?_ | refine N.forkNo (bne_self _) ?_ | refine N.obl (by show endB _ _ = Bool.true; kernel_rfl) ?_ | fail)
          refine N.go ?_
          refine N_callM [1, 2] _ (by show midB _ _ _ _ = Bool.true; kernel_rfl) (fun h₂ hh => cAllT _ (by have := hlA.1; have := hlA.2; omega) 1 2 h₂ ((hh 1 (by simp)).trans rfl) ((hh 2 (by simp)).trans rfl)) fun v ms hM_ => ?_
          rcases hM_ with ⟨hE0, rfl, rfl⟩ | ⟨cap2, hc0, hc1, rfl, rfl⟩
          · have hL0 : ((rput q.M c.n c.x c.y c.a c.b c.e c.now).2).L = [] := List.length_eq_zero_iff.1 (by rw [hlA.1, hE0]; rfl)
            have hSE := hSt.e
            rw [hL0] at hSE
            refine ⟨by simp, ?_⟩
            repeat' (refine N.go ?_; first | with_reducible (first | refine N.obl (by decide) ?_ | refine N.eq ?_ | refine N.obl rfl ?_ | refine N.obl ⟨by kernel_rfl, by kernel_rfl⟩ ?_ | refine N.alt ?_ | refine N.forkT ?_ | refine N.forkF ?_) | refine N.forkNo (by decide) ?_ | refine N.forkYes (by decide) ?_ | refine N.forkYes (by rw [decide_eq_true_eq]; omega) ?_ | refine N.forkNo (by rw [decide_eq_false_iff_not]; omega) ?_ | refine N.call (cRSameNil _ _ hSE 0 _ (by rfl)) ?_ | refine N.obl (by show endB _ _ = Bool.true; kernel_rfl) ?_ | fail)
            refine N.go ?_
            refine N.nextR (⟨q.i + 1, T2, (rput q.M c.n c.x c.y c.a c.b c.e c.now).2, u2, lv2, R2⟩ : P4) [(0, 0), (1, 1), (5, 5)] ⟨⟨by show q.i + 1 ≤ n; omega, by show q.i + 1 ≤ 150; omega, hRt, hSt⟩, by show n - (q.i + 1) < n - q.i; omega⟩ ?_
            repeat' (refine N.go ?_; first | with_reducible (first | refine N.obl (by decide) ?_ | refine N.eq ?_ | refine N.obl rfl ?_ | refine N.obl ⟨by kernel_rfl, by kernel_rfl⟩ ?_ | refine N.alt ?_ | refine N.forkT ?_ | refine N.forkF ?_) | exact N.true | refine N.obl (rv_renE rfl) ?_ | refine N.obl (tbl_renE rfl) ?_ | refine N.obl (rt_renE (by first | rfl | exact hmm.symm | exact hmm)) ?_ | refine N.obl (.plain (by rfl)) ?_ | refine N.obl (re_eqn (int_eqn (by rw [i64s _ (by omega) (by omega)]; rfl)) rfl) ?_ | refine N.obl (.one .quo) ?_ | refine N.obl (.one (.ptr rfl)) ?_ | refine N.obl (.one (.slice rfl)) ?_ | refine N.obl (ChunkReLe.same (agg_plain (by rfl) (by rfl))) ?_ | fail)
          · refine ⟨by simp, ?_⟩
            repeat' (refine N.go ?_; first | with_reducible (first | refine N.obl (by decide) ?_ | refine N.eq ?_ | refine N.obl rfl ?_ | refine N.obl ⟨by kernel_rfl, by kernel_rfl⟩ ?_ | refine N.alt ?_ | refine N.forkT ?_ | refine N.forkF ?_) | refine N.forkNo (by decide) ?_ | refine N.forkYes (by decide) ?_ | refine N.forkYes (by rw [decide_eq_true_eq]; omega) ?_ | refine N.forkNo (by rw [decide_eq_false_iff_not]; omega) ?_ | refine N.call (cRSame cap2 _ _ _ _ _ hSt.e (by omega) hlA.1.symm hc1 (allE hRt) 2 0 _ (by rfl) (by rfl) (by decide)) ?_ | refine N.obl (by show endB _ _ = Bool.true; kernel_rfl) ?_ | fail)
            refine N.go ?_
            refine N.nextR (⟨q.i + 1, T2, (rput q.M c.n c.x c.y c.a c.b c.e c.now).2, u2, lv2, R2⟩ : P4) [(0, 0), (1, 1), (5, 5)] ⟨⟨by show q.i + 1 ≤ n; omega, by show q.i + 1 ≤ 150; omega, hRt, hSt⟩, by show n - (q.i + 1) < n - q.i; omega⟩ ?_
            repeat' (refine N.go ?_; first | with_reducible (first | refine N.obl (by decide) ?_ | refine N.eq ?_ | refine N.obl rfl ?_ | refine N.obl ⟨by kernel_rfl, by kernel_rfl⟩ ?_ | refine N.alt ?_ | refine N.forkT ?_ | refine N.forkF ?_) | exact N.true | refine N.obl (rv_renE rfl) ?_ | refine N.obl (tbl_renE rfl) ?_ | refine N.obl (rt_renE (by first | rfl | exact hmm.symm | exact hmm)) ?_ | refine N.obl (.plain (by rfl)) ?_ | refine N.obl (re_eqn (int_eqn (by rw [i64s _ (by omega) (by omega)]; rfl)) rfl) ?_ | refine N.obl (.one .quo) ?_ | refine N.obl (.one (.ptr rfl)) ?_ | refine N.obl (.one (.slice rfl)) ?_ | refine N.obl (ChunkReLe.same (agg_plain (by rfl) (by rfl))) ?_ | fail)
        · have hd2 : c.d ≠ 2 := hd
          obtain ⟨hgone, hR2⟩ := hR.evict c.now c.sil
          replace hR2 := hR2.more (Nat.le_succ q.i)
          have hlg := hR.len
          repeat' (refine N.go ?_; first | with_reducible (first | refine N.obl (by decide) ?_ | refine N.eq ?_ | refine N.obl rfl ?_ | refine N.obl ⟨by kernel_rfl, by kernel_rfl⟩ ?_ | refine N.forkT ?_ | refine N.forkF ?_) | refine N.forkNo (by decide) ?_ | refine N.forkYes (by decide) ?_ | refine N.op (ok_idxR (sz := 11) (g := o0 + q.i * 11) tysOK rfl rfl (fun _ => rfl) rfl (by exact rfl) (by omega) (by omega) (by simp; first | done | fail)) ?_ | refine N.op (ok_loadRV hz (i := 0) (R := q.R) (ds := c.cs) rfl rfl rfl (by exact ⟨rfl, rfl⟩) rfl rfl hc) ?_ | refine N.obl (show flatB (.agg ⟨c.cs⟩) 11 = true from rfl) ?_ | refine N.op (ok_lenU rfl rfl ⟨_, rfl, _, Tryz.underlying46⟩) ?_ | refine N.op (ok_lenU rfl rfl ⟨_, rfl, _, Tryz.underlying39⟩) ?_ | refine N.forkYes (by rw [decide_eq_true_eq]; omega) ?_ | refine N.forkNo (by rw [decide_eq_false_iff_not]; omega) ?_ | refine N.forkYes (decide_eq_true (by show _ ≤ _; omega)) ?_ | refine N.forkNo (decide_eq_false (by show ¬ _ ≤ _; omega)) ?_ | refine N.forkYes (decide_eq_true (by show _ < _; omega)) ?_ | refine N.forkNo (decide_eq_false (by show ¬ _ < _; omega)) ?_ | refine N.forkYes (beq_iff_eq.2 hd) ?_ | refine N.forkYes (decide_eq_true hd) ?_ | refine N.forkNo (beq_false_of_ne hd0) ?_ | refine N.forkNo (beq_false_of_ne hd1) ?_ | refine N.forkNo (beq_false_of_ne hd2) ?_ | refine N.forkNo (decide_eq_false hd0) ?_ | refine N.forkNo (decide_eq_false hd1) ?_ | refine N.forkNo (decide_eq_false hd2) ?_ | refine N.obl (by show endB _ _ = Bool.true; kernel_rfl) ?_ | fail)
          refine N.go ?_
          refine N.altP ?_
          repeat' (refine N.go ?_; first | with_reducible (first | refine N.obl (by decide) ?_ | refine N.eq ?_ | refine N.obl rfl ?_ | refine N.obl ⟨by kernel_rfl, by kernel_rfl⟩ ?_ | refine N.alt ?_ | refine N.forkT ?_ | refine N.forkF ?_) | refine N.forkNo (by decide) ?_ | refine N.forkYes (by decide) ?_ | refine N.forkYes (by rw [decide_eq_true_eq]; omega) ?_ | refine N.forkNo (by rw [decide_eq_false_iff_not]; omega) ?_ | refine N.obl (by show endB _ _ = Bool.true; kernel_rfl) ?_ | fail)
          refine N.go ?_
          refine N.plan [0, 1, 2, 3, 4, 6, 7, 8, 9, 10] [(5, []), (11, [12, 13])] (by kernel_rfl) ?_
          repeat' (refine N.go ?_; first | with_reducible (first | refine N.obl (by decide) ?_ | refine N.eq ?_ | refine N.obl rfl ?_ | refine N.obl ⟨by kernel_rfl, by kernel_rfl⟩ ?_ | refine N.alt ?_ | refine N.forkT ?_ | refine N.forkF ?_) | refine N.forkNo (by decide) ?_ | refine N.forkYes (by decide) ?_ | refine N.forkYes (by rw [decide_eq_true_eq]; omega) ?_ | refine N.forkNo (by rw [decide_eq_false_iff_not]; omega) ?_ | refine N.obl (by show endB _ _ = Bool.true; kernel_rfl) ?_ | fail)
          refine N.go ?_
          refine N_callM [1, 3] _ (by show midB _ _ _ _ = Bool.true; kernel_rfl) (fun h₂ hh => cEvict q.T (by omega) c.now c.sil hcw.2 hcs 1 3 h₂ ((hh 1 (by simp)).trans rfl) ((hh 3 (by simp)).trans rfl)) fun v ms hM_ => ?_
          rw [hgone] at hM_
          have hgl : (goneE q.M.L c.now c.sil).length ≤ 500 := by unfold goneE; rw [List.length_map]; exact Nat.le_trans (List.length_filter_le _ _) hl5
          rcases hM_ with ⟨hG0, rfl, rfl⟩ | ⟨ecap, hg1, hcp, rfl, rfl⟩
          · refine ⟨by simp, ?_⟩
            repeat' (refine N.go ?_; first | with_reducible (first | refine N.obl (by decide) ?_ | refine N.eq ?_ | refine N.obl rfl ?_ | refine N.obl ⟨by kernel_rfl, by kernel_rfl⟩ ?_ | refine N.alt ?_ | refine N.forkT ?_ | refine N.forkF ?_) | refine N.forkNo (by decide) ?_ | refine N.forkYes (by decide) ?_ | refine N.forkYes (by rw [decide_eq_true_eq]; omega) ?_ | refine N.forkNo (by rw [decide_eq_false_iff_not]; omega) ?_ | refine N.obl (by show endB _ _ = Bool.true; kernel_rfl) ?_ | fail)
            refine N.go ?_
            refine N_callM [5, 0] _ (by show midB _ _ _ _ = Bool.true; kernel_rfl) (fun h₂ hh => cREvict q.M q.u q.lv q.R hS hl5 c.now c.sil hcw hcs 5 0 h₂ ((hh 5 (by simp)).trans rfl) ((hh 0 (by simp)).trans rfl) (by decide)) fun v ms hM_ => ?_
            obtain ⟨⟨u2, lv2, R2, ug⟩, ⟨hS2, hI2⟩, rfl, rfl⟩ := hM_
            simp only at hS2 hI2
            have hgu := hI2.len
            refine ⟨by simp, ?_⟩
            rw [hG0] at hI2 hgu
            have hgu0 : ((uN ug : Nat) : Int) = 0 := by rw [hgu]; rfl
            have hgb : true = (((0 : Nat) : Int) == ((uN ug : Nat) : Int)) := by rw [hgu0]; rfl
            repeat' (refine N.go ?_; first | with_reducible (first | refine N.obl (by decide) ?_ | refine N.eq ?_ | refine N.obl rfl ?_ | refine N.obl ⟨by kernel_rfl, by kernel_rfl⟩ ?_ | refine N.alt ?_ | refine N.forkT ?_ | refine N.forkF ?_) | refine N.forkNo (by decide) ?_ | refine N.forkYes (by decide) ?_ | refine N.op (ok_lenU rfl rfl ⟨_, rfl, _, Tryz.underlying46⟩) ?_ | refine N.op (ok_lenU rfl rfl ⟨_, rfl, _, Tryz.underlying39⟩) ?_ | refine N.forkYes (by rw [decide_eq_true_eq]; omega) ?_ | refine N.forkNo (by rw [decide_eq_false_iff_not]; omega) ?_ | refine N.obl (show _ = _ from rfl) ?_ | refine N.obl (by show endB _ _ = Bool.true; kernel_rfl) ?_ | fail)
            refine N.go ?_
            refine N.loopR (α := Unit) (fun _ => True) (fun _ => 0) (fun _ => [(9, .bool true), (12, .int .i64 0)]) (fun _ => []) () [(0, 0), (1, 1), (5, 5), (6, 6)] trivial ?_ ?_
            · repeat' (refine N.go ?_; first | with_reducible (first | refine N.obl (by decide) ?_ | refine N.eq ?_ | refine N.obl rfl ?_ | refine N.obl ⟨by kernel_rfl, by kernel_rfl⟩ ?_ | refine N.alt ?_ | refine N.forkT ?_ | refine N.forkF ?_) | exact N.true | refine N.obl (rv_renE rfl) ?_ | refine N.obl (tbl_renE rfl) ?_ | refine N.obl (rt_renE (by first | rfl | exact hmm.symm | exact hmm)) ?_ | refine N.obl (rl_ren rfl) ?_ | refine N.obl (.plain (by rfl)) ?_ | refine N.obl (re_eqn (congrArg Value.bool hgb) rfl) ?_ | refine N.obl (re_eqn (congrArg Value.bool (beq_self_eq_true _).symm) rfl) ?_ | refine N.obl (re_eqn (int_eqn (by rw [i64s _ (by omega) (by omega)]; rfl)) rfl) ?_ | refine N.obl (.one .quo) ?_ | refine N.obl (.one (.ptr rfl)) ?_ | refine N.obl (.one (.slice rfl)) ?_ | refine N.obl (ChunkReLe.same (agg_plain (by rfl) (by rfl))) ?_ | fail)
            rintro ⟨⟩ -
            repeat' (refine N.go ?_; first | with_reducible (first | refine N.obl (by decide) ?_ | refine N.eq ?_ | refine N.obl rfl ?_ | refine N.obl ⟨by kernel_rfl, by kernel_rfl⟩ ?_ | refine N.alt ?_ | refine N.forkT ?_ | refine N.forkF ?_) | refine N.forkNo (by decide) ?_ | refine N.forkYes (by decide) ?_ | refine N.forkYes (by rw [decide_eq_true_eq]; omega) ?_ | refine N.forkNo (by rw [decide_eq_false_iff_not]; omega) ?_ | refine N.obl (by show endB _ _ = Bool.true; kernel_rfl) ?_ | fail)
            refine N.go ?_
            have hRt : TRel (q.T.ev c.now c.sil) (revict q.M c.now c.sil) (q.i + 1) := hR2
            have hSt : RtS R2 u2 lv2 (revict q.M c.now c.sil) := hS2
            have hmm : (revict q.M c.now c.sil).most = q.M.most := rfl
            obtain ⟨en, gb, hga, hgb⟩ := getBoth hRt c.n
            have hlA := hRt.len
            have hlE := hSt.e.len
            have hlI : (((q.T.ev c.now c.sil).E.length : Nat) : Int) = ((uN u2 : Nat) : Int) := by rw [hlE, hlA.1]
            repeat' (refine N.go ?_; first | with_reducible (first | refine N.obl (by decide) ?_ | refine N.eq ?_ | refine N.obl rfl ?_ | refine N.obl ⟨by kernel_rfl, by kernel_rfl⟩ ?_ | refine N.forkT ?_ | refine N.forkF ?_) | refine N.forkNo (by decide) ?_ | refine N.forkYes (by decide) ?_ | refine N.forkYes (by rw [decide_eq_true_eq]; omega) ?_ | refine N.forkNo (by rw [decide_eq_false_iff_not]; omega) ?_ | refine N.call (hga 1 _ (by rfl)) ?_ | refine N.call (hgb _ _ _ hSt 5 0 _ _ (by rfl) (by rfl) (by decide)) ?_ | refine N.forkNo (by rw [decide_eq_true rfl]; rfl) ?_ | refine N.forkNo (by rw [beq_self_eq_true]; rfl) ?_ | refine N.forkNo (bne_self_eq_false _) ?_ | refine N.forkNo (bne_self _) ?_ | refine N.obl (by show endB _ _ = Bool.true; kernel_rfl) ?_ | fail)
            refine N.go ?_
            refine N.altP ?_
            repeat' (refine N.go ?_; first | with_reducible (first | refine N.obl (by decide) ?_ | refine N.eq ?_ | refine N.obl rfl ?_ | refine N.obl ⟨by kernel_rfl, by kernel_rfl⟩ ?_ | refine N.alt ?_ | refine N.forkT ?_ | refine N.forkF ?_) | refine N.forkNo (by decide) ?_ | refine N.forkYes (by decide) ?_ | refine N.forkYes (by rw [decide_eq_true_eq]; omega) ?_ | refine N.forkNo (by rw [decide_eq_false_iff_not]; omega) ?_ | refine N.obl (by show endB _ _ = Bool.true; kernel_rfl) ?_ | fail)
            refine N.go ?_
            refine N.plan [0, 1, 2, 3, 4, 5, 6, 7, 8, 9, 10, 11, 12, 13, 14, 15, 16, 17, 18, 19, 20, 21, 22, 23, 25, 26, 27, 28] [(24, [29, 30, 31])] (by kernel_rfl) ?_
            repeat' (refine N.go ?_; first | with_reducible (first | refine N.obl (by decide) ?_ | refine N.eq ?_ | refine N.obl rfl ?_ | refine N.obl ⟨by kernel_rfl, by kernel_rfl⟩ ?_ | refine N.alt ?_ | refine N.forkT ?_ | refine N.forkF ?_) | refine N.forkNo (by decide) ?_ | refine N.forkYes (by decide) ?_ | refine N.op (ok_lenU rfl rfl ⟨_, rfl, _, Tryz.underlying46⟩) ?_ | refine N.op (ok_lenU rfl rfl ⟨_, rfl, _, Tryz.underlying39⟩) ?_ | refine N.forkYes (by rw [decide_eq_true_eq]; omega) ?_ | refine N.forkNo (by rw [decide_eq_false_iff_not]; omega) ?_ | refine N.call (cLenT _ 1 _ (by rfl)) ?_ | refine N.bin _ (ne_entry_same _ _ en) ?_ | refine N.forkNo (by rw [hlI]; exact bne_self_eq_false _) ?_ | refine N.forkNo (by rw [decide_eq_true rfl]; rfl) ?_ | refine N.forkNo (by rw [beq_self_eq_true]; rfl) ?_ | refine N.forkNo (bne_self_eq_false _) ?_ | refine N.forkNo (bne_self _) ?_ | refine N.obl (by show endB _ _ = Bool.true; kernel_rfl) ?_ | fail)
            refine N.go ?_
            refine N_callM [1, 2] _ (by show midB _ _ _ _ = Bool.true; kernel_rfl) (fun h₂ hh => cAllT _ (by have := hlA.1; have := hlA.2; omega) 1 2 h₂ ((hh 1 (by simp)).trans rfl) ((hh 2 (by simp)).trans rfl)) fun v ms hM_ => ?_
            rcases hM_ with ⟨hE0, rfl, rfl⟩ | ⟨cap2, hc0, hc1, rfl, rfl⟩
            · have hL0 : (revict q.M c.now c.sil).L = [] := List.length_eq_zero_iff.1 (by rw [hlA.1, hE0]; rfl)
              have hSE := hSt.e
              rw [hL0] at hSE
              refine ⟨by simp, ?_⟩
              repeat' (refine N.go ?_; first | with_reducible (first | refine N.obl (by decide) ?_ | refine N.eq ?_ | refine N.obl rfl ?_ | refine N.obl ⟨by kernel_rfl, by kernel_rfl⟩ ?_ | refine N.alt ?_ | refine N.forkT ?_ | refine N.forkF ?_) | refine N.forkNo (by decide) ?_ | refine N.forkYes (by decide) ?_ | refine N.forkYes (by rw [decide_eq_true_eq]; omega) ?_ | refine N.forkNo (by rw [decide_eq_false_iff_not]; omega) ?_ | refine N.call (cRSameNil _ _ hSE 0 _ (by rfl)) ?_ | refine N.obl (by show endB _ _ = Bool.true; kernel_rfl) ?_ | fail)
              refine N.go ?_
              refine N.nextR (⟨q.i + 1, q.T.ev c.now c.sil, revict q.M c.now c.sil, u2, lv2, R2⟩ : P4) [(0, 0), (1, 1), (5, 5)] ⟨⟨by show q.i + 1 ≤ n; omega, by show q.i + 1 ≤ 150; omega, hRt, hSt⟩, by show n - (q.i + 1) < n - q.i; omega⟩ ?_
              repeat' (refine N.go ?_; first | with_reducible (first | refine N.obl (by decide) ?_ | refine N.eq ?_ | refine N.obl rfl ?_ | refine N.obl ⟨by kernel_rfl, by kernel_rfl⟩ ?_ | refine N.alt ?_ | refine N.forkT ?_ | refine N.forkF ?_) | exact N.true | refine N.obl (rv_renE rfl) ?_ | refine N.obl (tbl_renE rfl) ?_ | refine N.obl (rt_renE (by first | rfl | exact hmm.symm | exact hmm)) ?_ | refine N.obl (.plain (by rfl)) ?_ | refine N.obl (re_eqn (int_eqn (by rw [i64s _ (by omega) (by omega)]; rfl)) rfl) ?_ | refine N.obl (.one .quo) ?_ | refine N.obl (.one (.ptr rfl)) ?_ | refine N.obl (.one (.slice rfl)) ?_ | refine N.obl (ChunkReLe.same (agg_plain (by rfl) (by rfl))) ?_ | fail)
            · refine ⟨by simp, ?_⟩
              repeat' (refine N.go ?_; first | with_reducible (first | refine N.obl (by decide) ?_ | refine N.eq ?_ | refine N.obl rfl ?_ | refine N.obl ⟨by kernel_rfl, by kernel_rfl⟩ ?_ | refine N.alt ?_ | refine N.forkT ?_ | refine N.forkF ?_) | refine N.forkNo (by decide) ?_ | refine N.forkYes (by decide) ?_ | refine N.forkYes (by rw [decide_eq_true_eq]; omega) ?_ | refine N.forkNo (by rw [decide_eq_false_iff_not]; omega) ?_ | refine N.call (cRSame cap2 _ _ _ _ _ hSt.e (by omega) hlA.1.symm hc1 (allE hRt) 2 0 _ (by rfl) (by rfl) (by decide)) ?_ | refine N.obl (by show endB _ _ = Bool.true; kernel_rfl) ?_ | fail)
              refine N.go ?_
              refine N.nextR (⟨q.i + 1, q.T.ev c.now c.sil, revict q.M c.now c.sil, u2, lv2, R2⟩ : P4) [(0, 0), (1, 1), (5, 5)] ⟨⟨by show q.i + 1 ≤ n; omega, by show q.i + 1 ≤ 150; omega, hRt, hSt⟩, by show n - (q.i + 1) < n - q.i; omega⟩ ?_
              repeat' (refine N.go ?_; first | with_reducible (first | refine N.obl (by decide) ?_ | refine N.eq ?_ | refine N.obl rfl ?_ | refine N.obl ⟨by kernel_rfl, by kernel_rfl⟩ ?_ | refine N.alt ?_ | refine N.forkT ?_ | refine N.forkF ?_) | exact N.true | refine N.obl (rv_renE rfl) ?_ | refine N.obl (tbl_renE rfl) ?_ | refine N.obl (rt_renE (by first | rfl | exact hmm.symm | exact hmm)) ?_ | refine N.obl (.plain (by rfl)) ?_ | refine N.obl (re_eqn (int_eqn (by rw [i64s _ (by omega) (by omega)]; rfl)) rfl) ?_ | refine N.obl (.one .quo) ?_ | refine N.obl (.one (.ptr rfl)) ?_ | refine N.obl (.one (.slice rfl)) ?_ | refine N.obl (ChunkReLe.same (agg_plain (by rfl) (by rfl))) ?_ | fail)
          · refine ⟨by simp, ?_⟩
            repeat' (refine N.go ?_; first | with_reducible (first | refine N.obl (by decide) ?_ | refine N.eq ?_ | refine N.obl rfl ?_ | refine N.obl ⟨by kernel_rfl, by kernel_rfl⟩ ?_ | refine N.alt ?_ | refine N.forkT ?_ | refine N.forkF ?_) | refine N.forkNo (by decide) ?_ | refine N.forkYes (by decide) ?_ | refine N.forkYes (by rw [decide_eq_true_eq]; omega) ?_ | refine N.forkNo (by rw [decide_eq_false_iff_not]; omega) ?_ | refine N.obl (by show endB _ _ = Bool.true; kernel_rfl) ?_ | fail)
            refine N.go ?_
            refine N_callM [5, 0] _ (by show midB _ _ _ _ = Bool.true; kernel_rfl) (fun h₂ hh => cREvict q.M q.u q.lv q.R hS hl5 c.now c.sil hcw hcs 5 0 h₂ ((hh 5 (by simp)).trans rfl) ((hh 0 (by simp)).trans rfl) (by decide)) fun v ms hM_ => ?_
            obtain ⟨⟨u2, lv2, R2, ug⟩, ⟨hS2, hI2⟩, rfl, rfl⟩ := hM_
            simp only at hS2 hI2
            have hgu := hI2.len
            refine ⟨by simp, ?_⟩
            have hgb : true = ((((goneE q.M.L c.now c.sil).length : Nat) : Int) == ((uN ug : Nat) : Int)) := by rw [hgu]; exact (beq_self_eq_true _).symm
            repeat' (refine N.go ?_; first | with_reducible (first | refine N.obl (by decide) ?_ | refine N.eq ?_ | refine N.obl rfl ?_ | refine N.obl ⟨by kernel_rfl, by kernel_rfl⟩ ?_ | refine N.alt ?_ | refine N.forkT ?_ | refine N.forkF ?_) | refine N.forkNo (by decide) ?_ | refine N.forkYes (by decide) ?_ | refine N.op (ok_lenU rfl rfl ⟨_, rfl, _, Tryz.underlying46⟩) ?_ | refine N.op (ok_lenU rfl rfl ⟨_, rfl, _, Tryz.underlying39⟩) ?_ | refine N.forkYes (by rw [decide_eq_true_eq]; omega) ?_ | refine N.forkNo (by rw [decide_eq_false_iff_not]; omega) ?_ | refine N.obl (by show endB _ _ = Bool.true; kernel_rfl) ?_ | fail)
            refine N.go ?_
            refine N.loopR (α := Nat) (fun k => k ≤ (goneE q.M.L c.now c.sil).length) (fun k => (goneE q.M.L c.now c.sil).length - k) (fun k => [(9, .bool true), (12, .int .i64 (k : Int))]) (fun _ => []) 0 [(0, 0), (1, 1), (5, 5), (6, 6), (3, 3)] (Nat.zero_le _) ?_ ?_
            · repeat' (refine N.go ?_; first | with_reducible (first | refine N.obl (by decide) ?_ | refine N.eq ?_ | refine N.obl rfl ?_ | refine N.obl ⟨by kernel_rfl, by kernel_rfl⟩ ?_ | refine N.alt ?_ | refine N.forkT ?_ | refine N.forkF ?_) | exact N.true | refine N.obl (rv_renE rfl) ?_ | refine N.obl (tbl_renE rfl) ?_ | refine N.obl (rt_renE (by first | rfl | exact hmm.symm | exact hmm)) ?_ | refine N.obl (rl_ren rfl) ?_ | refine N.obl (.plain (by rfl)) ?_ | refine N.obl (re_eqn (congrArg Value.bool hgb) rfl) ?_ | refine N.obl (re_eqn (congrArg Value.bool (beq_self_eq_true _).symm) rfl) ?_ | refine N.obl (re_eqn (int_eqn (by rw [i64s _ (by omega) (by omega)]; rfl)) rfl) ?_ | refine N.obl (.one .quo) ?_ | refine N.obl (.one (.ptr rfl)) ?_ | refine N.obl (.one (.slice rfl)) ?_ | refine N.obl (ChunkReLe.same (agg_plain (by rfl) (by rfl))) ?_ | fail)
            intro k hk
            by_cases hkl : k < (goneE q.M.L c.now c.sil).length
            · obtain ⟨s, he⟩ : ∃ s, (goneE q.M.L c.now c.sil)[k]? = some s := ⟨_, List.getElem?_eq_getElem hkl⟩
              rcases hI2 with ⟨_, h0⟩ | ⟨r, hr, rfl, hrk, hrn, hx⟩
              · rw [h0] at hkl; exact absurd hkl (Nat.not_lt_zero k)
              repeat' (refine N.go ?_; first | with_reducible (first | refine N.obl (by decide) ?_ | refine N.eq ?_ | refine N.obl rfl ?_ | refine N.obl ⟨by kernel_rfl, by kernel_rfl⟩ ?_ | refine N.alt ?_ | refine N.forkT ?_ | refine N.forkF ?_) | refine N.forkNo (by decide) ?_ | refine N.forkYes (by decide) ?_ | refine N.op (ok_lenU rfl rfl ⟨_, rfl, _, Tryz.underlying46⟩) ?_ | refine N.op (ok_lenU rfl rfl ⟨_, rfl, _, Tryz.underlying39⟩) ?_ | refine N.forkYes (by rw [decide_eq_true_eq]; omega) ?_ | refine N.forkNo (by rw [decide_eq_false_iff_not]; omega) ?_ | refine N.op (ok_idxR (sz := 1) (g := r.o + k) tysOK rfl rfl (fun ρ => by rw [uV_den]; rfl) rfl (by exact rfl) (by omega) (by show ((k : Nat) : Int) < ((r.n : Nat) : Int); omega) (by show r.o + ((k : Nat) : Int).toNat * 1 = _; rw [Int.toNat_natCast, Nat.mul_one])) ?_ | refine N.op (ok_loadV (i := 0) r (v := .int .i64 s) k tysOK rfl rfl rfl (by rfl) hr (by exact rfl) rfl (by rw [hx, List.getElem?_map, he]; rfl)) ?_ | refine N.idx k 1 rfl hkl ?_ | refine N.load _ (rd_rl k he hcp (by first | rfl | omega)) ?_ | refine N.obl (by show endB _ _ = Bool.true; kernel_rfl) ?_ | fail)
              refine N.go ?_
              refine N.nextR (α := Nat) (k + 1) [(0, 0), (1, 1), (5, 5), (6, 6), (3, 3)] ⟨hkl, by show _ - (k + 1) < _ - k; omega⟩ ?_
              repeat' (refine N.go ?_; first | with_reducible (first | refine N.obl (by decide) ?_ | refine N.eq ?_ | refine N.obl rfl ?_ | refine N.obl ⟨by kernel_rfl, by kernel_rfl⟩ ?_ | refine N.alt ?_ | refine N.forkT ?_ | refine N.forkF ?_) | exact N.true | refine N.obl (rv_renE rfl) ?_ | refine N.obl (tbl_renE rfl) ?_ | refine N.obl (rt_renE (by first | rfl | exact hmm.symm | exact hmm)) ?_ | refine N.obl (rl_ren rfl) ?_ | refine N.obl (.plain (by rfl)) ?_ | refine N.obl (re_eqn (congrArg Value.bool hgb) rfl) ?_ | refine N.obl (re_eqn (congrArg Value.bool (beq_self_eq_true _).symm) rfl) ?_ | refine N.obl (re_eqn (int_eqn (by rw [i64s _ (by omega) (by omega)]; rfl)) rfl) ?_ | refine N.obl (.one .quo) ?_ | refine N.obl (.one (.ptr rfl)) ?_ | refine N.obl (.one (.slice rfl)) ?_ | refine N.obl (ChunkReLe.same (agg_plain (by rfl) (by rfl))) ?_ | fail)
            · repeat' (refine N.go ?_; first | with_reducible (first | refine N.obl (by decide) ?_ | refine N.eq ?_ | refine N.obl rfl ?_ | refine N.obl ⟨by kernel_rfl, by kernel_rfl⟩ ?_ | refine N.alt ?_ | refine N.forkT ?_ | refine N.forkF ?_) | refine N.forkNo (by decide) ?_ | refine N.forkYes (by decide) ?_ | refine N.forkYes (by rw [decide_eq_true_eq]; omega) ?_ | refine N.forkNo (by rw [decide_eq_false_iff_not]; omega) ?_ | refine N.obl (by show endB _ _ = Bool.true; kernel_rfl) ?_ | fail)
              refine N.go ?_
              have hRt : TRel (q.T.ev c.now c.sil) (revict q.M c.now c.sil) (q.i + 1) := hR2
              have hSt : RtS R2 u2 lv2 (revict q.M c.now c.sil) := hS2
              have hmm : (revict q.M c.now c.sil).most = q.M.most := rfl
              obtain ⟨en, gb, hga, hgb⟩ := getBoth hRt c.n
              have hlA := hRt.len
              have hlE := hSt.e.len
              have hlI : (((q.T.ev c.now c.sil).E.length : Nat) : Int) = ((uN u2 : Nat) : Int) := by rw [hlE, hlA.1]
              repeat' (refine N.go ?_; first | with_reducible (first | refine N.obl (by decide) ?_ | refine N.eq ?_ | refine N.obl rfl ?_ | refine N.obl ⟨by kernel_rfl, by kernel_rfl⟩ ?_ | refine N.forkT ?_ | refine N.forkF ?_) | refine N.forkNo (by decide) ?_ | refine N.forkYes (by decide) ?_ | refine N.forkYes (by rw [decide_eq_true_eq]; omega) ?_ | refine N.forkNo (by rw [decide_eq_false_iff_not]; omega) ?_ | refine N.call (hga 1 _ (by rfl)) ?_ | refine N.call (hgb _ _ _ hSt 5 0 _ _ (by rfl) (by rfl) (by decide)) ?_ | refine N.forkNo (by rw [decide_eq_true rfl]; rfl) ?_ | refine N.forkNo (by rw [beq_self_eq_true]; rfl) ?_ | refine N.forkNo (bne_self_eq_false _) ?_ | refine N.forkNo (bne_self _) ?_ | refine N.obl (by show endB _ _ = Bool.true; kernel_rfl) ?_ | fail)
              refine N.go ?_
              refine N.altP ?_
              repeat' (refine N.go ?_; first | with_reducible (first | refine N.obl (by decide) ?_ | refine N.eq ?_ | refine N.obl rfl ?_ | refine N.obl ⟨by kernel_rfl, by kernel_rfl⟩ ?_ | refine N.alt ?_ | refine N.forkT ?_ | refine N.forkF ?_) | refine N.forkNo (by decide) ?_ | refine N.forkYes (by decide) ?_ | refine N.forkYes (by rw [decide_eq_true_eq]; omega) ?_ | refine N.forkNo (by rw [decide_eq_false_iff_not]; omega) ?_ | refine N.obl (by show endB _ _ = Bool.true; kernel_rfl) ?_ | fail)
              refine N.go ?_
              refine N.plan [0, 1, 2, 3, 4, 5, 6, 7, 8, 9, 10, 11, 12, 13, 14, 15, 16, 17, 18, 19, 20, 21, 22, 23, 25, 26, 27, 28] [(24, [29, 30, 31])] (by kernel_rfl) ?_
              repeat' (refine N.go ?_; first | with_reducible (first | refine N.obl (by decide) ?_ | refine N.eq ?_ | refine N.obl rfl ?_ | refine N.obl ⟨by kernel_rfl, by kernel_rfl⟩ ?_ | refine N.alt ?_ | refine N.forkT ?_ | refine N.forkF ?_) | refine N.forkNo (by decide) ?_ | refine N.forkYes (by decide) ?_ | refine N.op (ok_lenU rfl rfl ⟨_, rfl, _, Tryz.underlying46⟩) ?_ | refine N.op (ok_lenU rfl rfl ⟨_, rfl, _, Tryz.underlying39⟩) ?_ | refine N.forkYes (by rw [decide_eq_true_eq]; omega) ?_ | refine N.forkNo (by rw [decide_eq_false_iff_not]; omega) ?_ | refine N.call (cLenT _ 1 _ (by rfl)) ?_ | refine N.bin _ (ne_entry_same _ _ en) ?_ | refine N.forkNo (by rw [hlI]; exact bne_self_eq_false _) ?_ | refine N.forkNo (by rw [decide_eq_true rfl]; rfl) ?_ | refine N.forkNo (by rw [beq_self_eq_true]; rfl) ?_ | refine N.forkNo (bne_self_eq_false _) ?_ | refine N.forkNo (bne_self _) ?_ | refine N.obl (by show endB _ _ = Bool.true; kernel_rfl) ?_ | fail)
              refine N.go ?_
              refine N_callM [1, 2] _ (by show midB _ _ _ _ = Bool.true; kernel_rfl) (fun h₂ hh => cAllT _ (by have := hlA.1; have := hlA.2; omega) 1 2 h₂ ((hh 1 (by simp)).trans rfl) ((hh 2 (by simp)).trans rfl)) fun v ms hM_ => ?_
              rcases hM_ with ⟨hE0, rfl, rfl⟩ | ⟨cap2, hc0, hc1, rfl, rfl⟩
              · have hL0 : (revict q.M c.now c.sil).L = [] := List.length_eq_zero_iff.1 (by rw [hlA.1, hE0]; rfl)
                have hSE := hSt.e
                rw [hL0] at hSE
                refine ⟨by simp, ?_⟩
                repeat' (refine N.go ?_; first | with_reducible (first | refine N.obl (by decide) ?_ | refine N.eq ?_ | refine N.obl rfl ?_ | refine N.obl ⟨by kernel_rfl, by kernel_rfl⟩ ?_ | refine N.alt ?_ | refine N.forkT ?_ | refine N.forkF ?_) | refine N.forkNo (by decide) ?_ | refine N.forkYes (by decide) ?_ | refine N.forkYes (by rw [decide_eq_true_eq]; omega) ?_ | refine N.forkNo (by rw [decide_eq_false_iff_not]; omega) ?_ | refine N.call (cRSameNil _ _ hSE 0 _ (by rfl)) ?_ | refine N.obl (by show endB _ _ = Bool.true; kernel_rfl) ?_ | fail)
                refine N.go ?_
                refine N.nextR (⟨q.i + 1, q.T.ev c.now c.sil, revict q.M c.now c.sil, u2, lv2, R2⟩ : P4) [(0, 0), (1, 1), (5, 5)] ⟨⟨by show q.i + 1 ≤ n; omega, by show q.i + 1 ≤ 150; omega, hRt, hSt⟩, by show n - (q.i + 1) < n - q.i; omega⟩ ?_
                repeat' (refine N.go ?_; first | with_reducible (first | refine N.obl (by decide) ?_ | refine N.eq ?_ | refine N.obl rfl ?_ | refine N.obl ⟨by kernel_rfl, by kernel_rfl⟩ ?_ | refine N.alt ?_ | refine N.forkT ?_ | refine N.forkF ?_) | exact N.true | refine N.obl (rv_renE rfl) ?_ | refine N.obl (tbl_renE rfl) ?_ | refine N.obl (rt_renE (by first | rfl | exact hmm.symm | exact hmm)) ?_ | refine N.obl (.plain (by rfl)) ?_ | refine N.obl (re_eqn (int_eqn (by rw [i64s _ (by omega) (by omega)]; rfl)) rfl) ?_ | refine N.obl (.one .quo) ?_ | refine N.obl (.one (.ptr rfl)) ?_ | refine N.obl (.one (.slice rfl)) ?_ | refine N.obl (ChunkReLe.same (agg_plain (by rfl) (by rfl))) ?_ | fail)
              · refine ⟨by simp, ?_⟩
                repeat' (refine N.go ?_; first | with_reducible (first | refine N.obl (by decide) ?_ | refine N.eq ?_ | refine N.obl rfl ?_ | refine N.obl ⟨by kernel_rfl, by kernel_rfl⟩ ?_ | refine N.alt ?_ | refine N.forkT ?_ | refine N.forkF ?_) | refine N.forkNo (by decide) ?_ | refine N.forkYes (by decide) ?_ | refine N.forkYes (by rw [decide_eq_true_eq]; omega) ?_ | refine N.forkNo (by rw [decide_eq_false_iff_not]; omega) ?_ | refine N.call (cRSame cap2 _ _ _ _ _ hSt.e (by omega) hlA.1.symm hc1 (allE hRt) 2 0 _ (by rfl) (by rfl) (by decide)) ?_ | refine N.obl (by show endB _ _ = Bool.true; kernel_rfl) ?_ | fail)
                refine N.go ?_
                refine N.nextR (⟨q.i + 1, q.T.ev c.now c.sil, revict q.M c.now c.sil, u2, lv2, R2⟩ : P4) [(0, 0), (1, 1), (5, 5)] ⟨⟨by show q.i + 1 ≤ n; omega, by show q.i + 1 ≤ 150; omega, hRt, hSt⟩, by show n - (q.i + 1) < n - q.i; omega⟩ ?_
                repeat' (refine N.go ?_; first | with_reducible (first | refine N.obl (by decide) ?_ | refine N.eq ?_ | refine N.obl rfl ?_ | refine N.obl ⟨by kernel_rfl, by kernel_rfl⟩ ?_ | refine N.alt ?_ | refine N.forkT ?_ | refine N.forkF ?_) | exact N.true | refine N.obl (rv_renE rfl) ?_ | refine N.obl (tbl_renE rfl) ?_ | refine N.obl (rt_renE (by first | rfl | exact hmm.symm | exact hmm)) ?_ | refine N.obl (.plain (by rfl)) ?_ | refine N.obl (re_eqn (int_eqn (by rw [i64s _ (by omega) (by omega)]; rfl)) rfl) ?_ | refine N.obl (.one .quo) ?_ | refine N.obl (.one (.ptr rfl)) ?_ | refine N.obl (.one (.slice rfl)) ?_ | refine N.obl (ChunkReLe.same (agg_plain (by rfl) (by rfl))) ?_ | fail)
  · repeat' (refine N.go ?_; first | with_reducible (first | refine N.obl (by decide) ?_ | refine N.eq ?_ | refine N.obl rfl ?_ | refine N.obl ⟨by kernel_rfl, by kernel_rfl⟩ ?_ | refine N.alt ?_ | refine N.forkT ?_ | refine N.forkF ?_) | refine N.forkNo (by decide) ?_ | refine N.forkYes (by decide) ?_ | refine N.op (ok_idxR (sz := 11) (g := o0 + q.i * 11) tysOK rfl rfl (fun _ => rfl) rfl (by exact rfl) (by omega) (by omega) (by simp; first | done | fail)) ?_ | refine N.op (ok_loadRV hz (i := 0) (R := q.R) (ds := c.cs) rfl rfl rfl (by exact ⟨rfl, rfl⟩) rfl rfl hc) ?_ | refine N.obl (show flatB (.agg ⟨c.cs⟩) 11 = true from rfl) ?_ | refine N.op (ok_lenU rfl rfl ⟨_, rfl, _, Tryz.underlying46⟩) ?_ | refine N.op (ok_lenU rfl rfl ⟨_, rfl, _, Tryz.underlying39⟩) ?_ | refine N.forkYes (by rw [decide_eq_true_eq]; omega) ?_ | refine N.forkNo (by rw [decide_eq_false_iff_not]; omega) ?_ | refine N.forkYes (decide_eq_true (by show _ ≤ _; omega)) ?_ | refine N.forkNo (decide_eq_false (by show ¬ _ ≤ _; omega)) ?_ | refine N.forkYes (decide_eq_true (by show _ < _; omega)) ?_ | refine N.forkNo (decide_eq_false (by show ¬ _ < _; omega)) ?_ | refine N.forkYes (beq_iff_eq.2 hd) ?_ | refine N.forkYes (decide_eq_true hd) ?_ | refine N.forkNo (beq_false_of_ne hd0) ?_ | refine N.forkNo (beq_false_of_ne hd1) ?_ | refine N.forkNo (beq_false_of_ne hd2) ?_ | refine N.forkNo (decide_eq_false hd0) ?_ | refine N.forkNo (decide_eq_false hd1) ?_ | refine N.forkNo (decide_eq_false hd2) ?_ | refine N.call (cAwake _) ?_ | refine N.forkNo (by rw [decide_eq_true rfl]; rfl) ?_ | refine N.forkNo (by rw [beq_self_eq_true]; rfl) ?_ | refine N.forkNo (bne_self_eq_false _) ?_ | refine N.forkNo (bne_self _) ?_ | fail_if_success skip | refine N.obl (by show endB _ _ = Bool.true; kernel_rfl) ?_ | fail)
    all_goals exact N.endR _ rfl rfl
end Go.Proofs.YtimccfnlcnlffaaGreat.tablePlays
