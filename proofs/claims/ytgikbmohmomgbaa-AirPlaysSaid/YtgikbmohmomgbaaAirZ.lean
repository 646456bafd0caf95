
/-
  The walk of the document's air: Bend.
-/
import Derived.Test.YtgikbmohmomgbaaAirY
set_option linter.unusedVariables false
set_option linter.unusedSimpArgs false
namespace Go.Proofs.Ytgikbmohmomgbaa
open Go Go.RowKit Sx

/-- Bytes behind nothing: a copy. -/
theorem eff_appN {o : Oper} {st : St} {x y : Operand} {i : Nat} {W : World} {F : List By} {u : Option Sl} {bs : List Int} {K : Value → List (Nat × Chunk) → Prop} (ho : o.op = .call ⟨.builtin .append, #[x, y], #[26, 26]⟩) (hx : EvTo x st (.slice none 0 0)) (hy : EvTo y st (uV u)) (hi : st.h[i]? = some (some (memC W F))) (hs : Src W F u bs) (hm : bs.length ≤ 1048576)
    (h0 : bs ≠ []) (hK1 : ∀ g c, g ∉ F.map By.b → K (uV (By.mk g c bs).s) [(i, memC W (⟨g, c, bs⟩ :: F))]) : EffAll Try.prog o st K := fun X ρ a w R next Q hn => by
  obtain ⟨i0, hi0, hz0, hz1, hz2⟩ := info_parts Try.info_u8
  have hx' : a.eval x = .slice none 0 0 := (hx.den R).self.symm
  have hy' : a.eval y = uR u := by rw [← (hy.den R).self, uV_den]
  obtain ⟨S, E⟩ := R.heap.ext
  have M : MemOK W F (ρ i) (S i) w := E.inv i _ hi
  have hb := M.src hs
  · cases u with
    | none => exact absurd (List.length_eq_zero_iff.1 hb.1) h0
    | some q =>
      obtain ⟨qb, qo, qn, qc, sp⟩ := q
      have hn' : bs.length = qn := hb.1
      have hpos : 0 < bs.length := List.length_pos_iff.2 h0
      have hsp : sp = none := by
        rcases (hb.2 _ rfl).1 with h1 | h1
        · exact h1
        · have h1 : qn = 0 := h1
          omega
      subst hsp hn'
      have hc : ∀ j v, (bs.map (Value.int .u8))[j]? = some v → w.cell? ((⟨qb, qo, none⟩ : Addr).add j) = some v := fun j v hv => by
        have hj : j < bs.length := by have := (List.getElem?_eq_some_iff.1 hv).1; simpa using this
        rw [add_at, (hb.2 _ rfl).2 j hj]
        rw [List.getElem?_map, List.getElem?_eq_getElem hj] at hv
        simp only [Option.map_some, Option.some.injEq] at hv
        rw [← hv]
        simp [List.getD_eq_getElem?_getD, hj]
      have hgo := run_append_nil (P := Try.prog) w 26 o.type 5 i0 (.int .u8 0) Try.underlying26 hi0 hz0 ⟨qb, qo, none⟩ bs.length qc (bs.map (Value.int .u8)) (by simp [hz1]) hc hpos (by omega) (by rw [hz2]; omega)
      have hrun := run_append_op (P := Try.prog) (o := o) (x := x) (y := y) (a := a) (w := w) ho (by rw [hx', hy']; exact hgo)
      have hge := grownCap_ge w bs.length 0 5
      generalize hcap : grownCap w bs.length 0 5 = cap at hrun hge
      have hB : Below w.heap.size w (w.drew.alloc (.cells ((bs.map (Value.int .u8)).toArray ++ Builtin.zeroCells (Value.int .u8 0).cells (cap - bs.length)) 5)) := ((Below.refl _ _).drew).alloc (Nat.le_refl _) _
      have hsz : w.drew.heap.size = w.heap.size := rfl
      have hat : ByAt (w.drew.alloc (.cells ((bs.map (Value.int .u8)).toArray ++ Builtin.zeroCells (Value.int .u8 0).cells (cap - bs.length)) 5)) ⟨w.heap.size, cap, bs⟩ := by
        refine ⟨by simp [World.alloc, hsz], fun j hj => ?_, fun j hj => ?_⟩
        · refine cell_alloc_at hsz.symm ?_
          have hj : j < bs.length := hj
          rw [Array.getElem?_append_left (by simpa using hj)]
          simp [List.getD_eq_getElem?_getD, hj]
        · have e := heap_alloc_new w.drew (.cells ((bs.map (Value.int .u8)).toArray ++ Builtin.zeroCells (Value.int .u8 0).cells (cap - bs.length)) 5)
          rw [hsz] at e
          simp only [World.frozen?, e]
          simp
      obtain ⟨hno, H'⟩ := mem_more (e := ⟨w.heap.size, cap, bs⟩) R.heap hi hB hat (Nat.le_refl _)
      unfold Oper.wp
      rw [hrun]
      refine hn _ _ ρ _ _ (hK1 w.heap.size cap hno) ⟨AgreeOn.refl _ _, H', fun r _ => ?_⟩
      rw [uV_den]
      rfl
set_option maxRecDepth 100000 in
set_option maxHeartbeats 2000000 in
theorem cRBendNone (L : List Ml) (x q b : Int) (hx : x < 0 ∨ (L.length : Int) ≤ x) (i : Nat) (h : List (Option Chunk)) (hi : h[i]? = some (some (airP L))) : CallOK Try.prog 19 [.pointer (some ⟨i, 0, some 0⟩), .int .i64 x, .int .i64 q, .int .u8 b] h (.int .i64 7) [(i, airP (L))] [] := by
  refine call_res (G := tys) (fun _ : Unit => True) (fun _ => _) [⟨i, airP L, airP L, airP (L)⟩] [] [.pointer (some ⟨0, 0, some 0⟩), .int .i64 x, .int .i64 q, .int .u8 b] tysOK mixed Try.func19 (by rfl) (Try.call19) ⟨hi, trivial⟩ ⟨⟨fun h => ⟨rfl, Nat.le_refl _⟩, Nat.le_refl _, fun j hj => absurd hj (Nat.not_lt_zero j)⟩, trivial⟩ (by simp [Apart]) ⟨.inr ⟨rfl, rfl⟩, trivial⟩ trivial ⟨.ptr rfl, .plain rfl, .plain rfl, .plain rfl, trivial⟩ Opens.same ?_
  rintro ⟨⟩ -
  repeat' (refine N.go ?_; first | with_reducible refine N.obl (by decide) ?_ | with_reducible refine N.obl (flat_wi _ _ _) ?_ | with_reducible refine N.obl (flat_lim _ _) ?_ | with_reducible refine N.eq ?_ | with_reducible refine N.obl rfl ?_ | with_reducible refine N.obl ⟨by kernel_rfl, by kernel_rfl⟩ ?_ | with_reducible refine N.alt ?_ | with_reducible refine N.forkT ?_ | with_reducible refine N.forkF ?_ | refine N.forkNo (by decide) ?_ | refine N.forkYes (by decide) ?_ | refine N.forkYes (by rw [decide_eq_true_eq]; omega) ?_ | refine N.forkNo (by rw [decide_eq_false_iff_not]; omega) ?_ | refine N.call (cRGetBad _ x hx 0 _ (by rfl)) ?_ | refine N.obl (mail_flat _ _ _ _ _) ?_ | fail_if_success skip)
  refine N.go ?_
  refine N.endSame ?_
  refine N.obl (.plain rfl) ?_
  refine N.obl ⟨⟨_, rfl, fun h => h, Nat.le_refl _, fun j hj => absurd hj (Nat.not_lt_zero j)⟩, trivial⟩ ?_
  refine N.obl trivial ?_
  refine N.obl ⟨⟨.inr ⟨_, rfl, rfl⟩, trivial⟩, trivial⟩ ?_
  exact N.true
set_option maxRecDepth 100000 in
set_option maxHeartbeats 2000000 in
theorem cRBendState (L : List Ml) (x : Nat) (q b : Int) (to_ at_ tr : Int) (u : Option Sl) (hm : L[x]? = some ⟨to_, u, at_, tr, true⟩) (i : Nat) (h : List (Option Chunk)) (hi : h[i]? = some (some (airP L))) : CallOK Try.prog 19 [.pointer (some ⟨i, 0, some 0⟩), .int .i64 (x : Nat), .int .i64 q, .int .u8 b] h (.int .i64 10) [(i, airP (L))] [] := by
  refine call_res (G := tys) (fun _ : Unit => True) (fun _ => _) [⟨i, airP L, airP L, airP (L)⟩] [] [.pointer (some ⟨0, 0, some 0⟩), .int .i64 (x : Nat), .int .i64 q, .int .u8 b] tysOK mixed Try.func19 (by rfl) (Try.call19) ⟨hi, trivial⟩ ⟨⟨fun h => ⟨rfl, Nat.le_refl _⟩, Nat.le_refl _, fun j hj => absurd hj (Nat.not_lt_zero j)⟩, trivial⟩ (by simp [Apart]) ⟨.inr ⟨rfl, rfl⟩, trivial⟩ trivial ⟨.ptr rfl, .plain rfl, .plain rfl, .plain rfl, trivial⟩ Opens.same ?_
  rintro ⟨⟩ -
  repeat' (refine N.go ?_; first | with_reducible refine N.obl (by decide) ?_ | with_reducible refine N.obl (flat_wi _ _ _) ?_ | with_reducible refine N.obl (flat_lim _ _) ?_ | with_reducible refine N.eq ?_ | with_reducible refine N.obl rfl ?_ | with_reducible refine N.obl ⟨by kernel_rfl, by kernel_rfl⟩ ?_ | with_reducible refine N.alt ?_ | with_reducible refine N.forkT ?_ | with_reducible refine N.forkF ?_ | refine N.forkNo (by decide) ?_ | refine N.forkYes (by decide) ?_ | refine N.forkYes (by rw [decide_eq_true_eq]; omega) ?_ | refine N.forkNo (by rw [decide_eq_false_iff_not]; omega) ?_ | refine N.call (cRGetY _ x _ hm 0 _ (by rfl)) ?_ | refine N.obl (mail_flat _ _ _ _ _) ?_ | fail_if_success skip)
  refine N.go ?_
  refine N.endSame ?_
  refine N.obl (.plain rfl) ?_
  refine N.obl ⟨⟨_, rfl, fun h => h, Nat.le_refl _, fun j hj => absurd hj (Nat.not_lt_zero j)⟩, trivial⟩ ?_
  refine N.obl trivial ?_
  refine N.obl ⟨⟨.inr ⟨_, rfl, rfl⟩, trivial⟩, trivial⟩ ?_
  exact N.true
set_option maxRecDepth 100000 in
set_option maxHeartbeats 2000000 in
theorem cRBendArg1 (L : List Ml) (x : Nat) (q b : Int) (to_ at_ tr : Int) (u : Option Sl) (hm : L[x]? = some ⟨to_, u, at_, tr, false⟩) (hq : q < 0) (i : Nat) (h : List (Option Chunk)) (hi : h[i]? = some (some (airP L))) : CallOK Try.prog 19 [.pointer (some ⟨i, 0, some 0⟩), .int .i64 (x : Nat), .int .i64 q, .int .u8 b] h (.int .i64 1) [(i, airP (L))] [] := by
  refine call_res (G := tys) (fun _ : Unit => True) (fun _ => _) [⟨i, airP L, airP L, airP (L)⟩] [] [.pointer (some ⟨0, 0, some 0⟩), .int .i64 (x : Nat), .int .i64 q, .int .u8 b] tysOK mixed Try.func19 (by rfl) (Try.call19) ⟨hi, trivial⟩ ⟨⟨fun h => ⟨rfl, Nat.le_refl _⟩, Nat.le_refl _, fun j hj => absurd hj (Nat.not_lt_zero j)⟩, trivial⟩ (by simp [Apart]) ⟨.inr ⟨rfl, rfl⟩, trivial⟩ trivial ⟨.ptr rfl, .plain rfl, .plain rfl, .plain rfl, trivial⟩ Opens.same ?_
  rintro ⟨⟩ -
  repeat' (refine N.go ?_; first | with_reducible refine N.obl (by decide) ?_ | with_reducible refine N.obl (flat_wi _ _ _) ?_ | with_reducible refine N.obl (flat_lim _ _) ?_ | with_reducible refine N.eq ?_ | with_reducible refine N.obl rfl ?_ | with_reducible refine N.obl ⟨by kernel_rfl, by kernel_rfl⟩ ?_ | with_reducible refine N.alt ?_ | with_reducible refine N.forkT ?_ | with_reducible refine N.forkF ?_ | refine N.forkNo (by decide) ?_ | refine N.forkYes (by decide) ?_ | refine N.forkYes (by rw [decide_eq_true_eq]; omega) ?_ | refine N.forkNo (by rw [decide_eq_false_iff_not]; omega) ?_ | refine N.call (cRGetY _ x _ hm 0 _ (by rfl)) ?_ | refine N.op (ok_lenU rfl rfl ⟨_, rfl, _, Try.underlying26⟩) ?_ | refine N.forkYes (decide_eq_true (by show (uN u : Int) ≤ q; omega)) ?_ | refine N.forkNo (decide_eq_false (by show ¬ (uN u : Int) ≤ q; omega)) ?_ | refine N.obl (mail_flat _ _ _ _ _) ?_ | fail_if_success skip)
  refine N.go ?_
  refine N.endSame ?_
  refine N.obl (.plain rfl) ?_
  refine N.obl ⟨⟨_, rfl, fun h => h, Nat.le_refl _, fun j hj => absurd hj (Nat.not_lt_zero j)⟩, trivial⟩ ?_
  refine N.obl trivial ?_
  refine N.obl ⟨⟨.inr ⟨_, rfl, rfl⟩, trivial⟩, trivial⟩ ?_
  exact N.true
set_option maxRecDepth 100000 in
set_option maxHeartbeats 2000000 in
theorem cRBendArg2 (L : List Ml) (x : Nat) (q b : Int) (to_ at_ tr : Int) (u : Option Sl) (hm : L[x]? = some ⟨to_, u, at_, tr, false⟩) (h0 : 0 ≤ q) (hq : (uN u : Int) ≤ q) (i : Nat) (h : List (Option Chunk)) (hi : h[i]? = some (some (airP L))) : CallOK Try.prog 19 [.pointer (some ⟨i, 0, some 0⟩), .int .i64 (x : Nat), .int .i64 q, .int .u8 b] h (.int .i64 1) [(i, airP (L))] [] := by
  refine call_res (G := tys) (fun _ : Unit => True) (fun _ => _) [⟨i, airP L, airP L, airP (L)⟩] [] [.pointer (some ⟨0, 0, some 0⟩), .int .i64 (x : Nat), .int .i64 q, .int .u8 b] tysOK mixed Try.func19 (by rfl) (Try.call19) ⟨hi, trivial⟩ ⟨⟨fun h => ⟨rfl, Nat.le_refl _⟩, Nat.le_refl _, fun j hj => absurd hj (Nat.not_lt_zero j)⟩, trivial⟩ (by simp [Apart]) ⟨.inr ⟨rfl, rfl⟩, trivial⟩ trivial ⟨.ptr rfl, .plain rfl, .plain rfl, .plain rfl, trivial⟩ Opens.same ?_
  rintro ⟨⟩ -
  repeat' (refine N.go ?_; first | with_reducible refine N.obl (by decide) ?_ | with_reducible refine N.obl (flat_wi _ _ _) ?_ | with_reducible refine N.obl (flat_lim _ _) ?_ | with_reducible refine N.eq ?_ | with_reducible refine N.obl rfl ?_ | with_reducible refine N.obl ⟨by kernel_rfl, by kernel_rfl⟩ ?_ | with_reducible refine N.alt ?_ | with_reducible refine N.forkT ?_ | with_reducible refine N.forkF ?_ | refine N.forkNo (by decide) ?_ | refine N.forkYes (by decide) ?_ | refine N.forkYes (by rw [decide_eq_true_eq]; omega) ?_ | refine N.forkNo (by rw [decide_eq_false_iff_not]; omega) ?_ | refine N.call (cRGetY _ x _ hm 0 _ (by rfl)) ?_ | refine N.op (ok_lenU rfl rfl ⟨_, rfl, _, Try.underlying26⟩) ?_ | refine N.forkYes (decide_eq_true (by show (uN u : Int) ≤ q; omega)) ?_ | refine N.forkNo (decide_eq_false (by show ¬ (uN u : Int) ≤ q; omega)) ?_ | refine N.obl (mail_flat _ _ _ _ _) ?_ | fail_if_success skip)
  refine N.go ?_
  refine N.endSame ?_
  refine N.obl (.plain rfl) ?_
  refine N.obl ⟨⟨_, rfl, fun h => h, Nat.le_refl _, fun j hj => absurd hj (Nat.not_lt_zero j)⟩, trivial⟩ ?_
  refine N.obl trivial ?_
  refine N.obl ⟨⟨.inr ⟨_, rfl, rfl⟩, trivial⟩, trivial⟩ ?_
  exact N.true
set_option maxRecDepth 100000 in
set_option maxHeartbeats 2000000 in
theorem cRBendArg3 (L : List Ml) (x : Nat) (q b : Int) (to_ at_ tr : Int) (u : Option Sl) (hm : L[x]? = some ⟨to_, u, at_, tr, false⟩) (h0 : 0 ≤ q) (hq : q < (uN u : Int)) (hb : b = 0) (i : Nat) (h : List (Option Chunk)) (hi : h[i]? = some (some (airP L))) : CallOK Try.prog 19 [.pointer (some ⟨i, 0, some 0⟩), .int .i64 (x : Nat), .int .i64 q, .int .u8 b] h (.int .i64 1) [(i, airP (L))] [] := by
  refine call_res (G := tys) (fun _ : Unit => True) (fun _ => _) [⟨i, airP L, airP L, airP (L)⟩] [] [.pointer (some ⟨0, 0, some 0⟩), .int .i64 (x : Nat), .int .i64 q, .int .u8 b] tysOK mixed Try.func19 (by rfl) (Try.call19) ⟨hi, trivial⟩ ⟨⟨fun h => ⟨rfl, Nat.le_refl _⟩, Nat.le_refl _, fun j hj => absurd hj (Nat.not_lt_zero j)⟩, trivial⟩ (by simp [Apart]) ⟨.inr ⟨rfl, rfl⟩, trivial⟩ trivial ⟨.ptr rfl, .plain rfl, .plain rfl, .plain rfl, trivial⟩ Opens.same ?_
  rintro ⟨⟩ -
  repeat' (refine N.go ?_; first | with_reducible refine N.obl (by decide) ?_ | with_reducible refine N.obl (flat_wi _ _ _) ?_ | with_reducible refine N.obl (flat_lim _ _) ?_ | with_reducible refine N.eq ?_ | with_reducible refine N.obl rfl ?_ | with_reducible refine N.obl ⟨by kernel_rfl, by kernel_rfl⟩ ?_ | with_reducible refine N.alt ?_ | with_reducible refine N.forkT ?_ | with_reducible refine N.forkF ?_ | refine N.forkNo (by decide) ?_ | refine N.forkYes (by decide) ?_ | refine N.forkYes (by rw [decide_eq_true_eq]; omega) ?_ | refine N.forkNo (by rw [decide_eq_false_iff_not]; omega) ?_ | refine N.call (cRGetY _ x _ hm 0 _ (by rfl)) ?_ | refine N.op (ok_lenU rfl rfl ⟨_, rfl, _, Try.underlying26⟩) ?_ | refine N.forkYes (by rw [hb]; rfl) ?_ | refine N.forkYes (decide_eq_true (by show (uN u : Int) ≤ q; omega)) ?_ | refine N.forkNo (decide_eq_false (by show ¬ (uN u : Int) ≤ q; omega)) ?_ | refine N.obl (mail_flat _ _ _ _ _) ?_ | fail_if_success skip)
  refine N.go ?_
  refine N.endSame ?_
  refine N.obl (.plain rfl) ?_
  refine N.obl ⟨⟨_, rfl, fun h => h, Nat.le_refl _, fun j hj => absurd hj (Nat.not_lt_zero j)⟩, trivial⟩ ?_
  refine N.obl trivial ?_
  refine N.obl ⟨⟨.inr ⟨_, rfl, rfl⟩, trivial⟩, trivial⟩ ?_
  exact N.true
/-- One mail of a new row is another. -/
def putM (T : Nat → Ml) (n x : Nat) (y : Ml) (i : Nat) : Ml := if i = x then y else if i < n then T i else Ml.z
theorem get_put {L : List Ml} {x : Nat} {y : Ml} {T : Nat → Ml} (hT : ∀ i m, L[i]? = some m → T i = m) : ∀ i m, (L.set x y)[i]? = some m → putM T L.length x y i = m := fun i m hm => by
  have hl := (List.getElem?_eq_some_iff.1 hm).1
  rw [List.length_set] at hl
  unfold putM
  by_cases e : x = i
  · subst e
    rw [List.getElem?_set_self hl] at hm
    rw [if_pos rfl]; simpa using hm
  · rw [List.getElem?_set_ne e] at hm
    rw [if_neg (fun h => e h.symm), if_pos hl]; exact hT i m hm
abbrev putC (ci : Chunk) (x c : Nat) (y : Ml) : Chunk := ⟨true, c * 5, [(0, c * 5, .agg ⟨segL (c * 5) (fun j => if x * 5 ≤ j ∧ j < x * 5 + 5 then mlc y (j - x * 5) else ci.f j)⟩)]⟩
theorem wr_putC {ci : Chunk} {x c p m : Nat} {y : Ml} {v : Value} (ho : ci.own = true) (hn : ci.n = c * 5) (hxx : ci.x = Ext.none) (hx : x < c) (hm : m = 5) (e : p = x * 5) (hv : v = y.v) : Writes ci p m v (putC ci x c y) := by
  subst e hm hv
  refine ⟨ho, by omega, by rw [hn, hxx], fun j hj => ?_⟩
  rw [hn] at hj
  rw [seg_cell hj]
  by_cases e : x * 5 ≤ j ∧ j < x * 5 + 5
  · rw [if_pos e, if_pos e, mlc_in _ (by omega)]
  · rw [if_neg e, if_neg e]
theorem put_cells {ci : Chunk} {x n c : Nat} {T : Nat → Ml} {y : Ml} (hx : x < n) (hc : ∀ j, j < n * 5 → Eqv (ci.f j) (mlc (T (j / 5)) (j % 5))) (hz : ∀ j, n * 5 ≤ j → j < c * 5 → Eqv (ci.f j) (mlc Ml.z (j % 5))) {j : Nat} (hj : j < c * 5) : Eqv ((putC ci x c y).f j) (mlc (putM T n x y (j / 5)) (j % 5)) := by
  rw [seg_cell hj]
  unfold putM
  by_cases h1 : x * 5 ≤ j ∧ j < x * 5 + 5
  · rw [if_pos h1, if_pos (by omega)]
    refine eqv_of ?_
    congr 1; omega
  · rw [if_neg h1, if_neg (show ¬ j / 5 = x by omega)]
    by_cases h2 : j < n * 5
    · rw [if_pos (by omega)]; exact hc j h2
    · rw [if_neg (by omega)]; exact hz j (by omega) hj
set_option maxRecDepth 100000 in
set_option maxHeartbeats 2000000 in
theorem cRBendY (W : World) (F : List By) (L : List Ml) (x q : Nat) (b : Int) (to_ at_ tr : Int) (u : Option Sl) (bs : List Int) (i j : Nat) (hij : i ≠ j) (h : List (Option Chunk)) (hi : h[i]? = some (some (airP L))) (hj : h[j]? = some (some (memC W F))) (hm : L[x]? = some ⟨to_, u, at_, tr, false⟩) (hs : Src W F u bs) (hq : q < bs.length) (hbs : bs.length ≤ 1048576) (hb : b ≠ 0) (hl : L.length ≤ 1000) :
    CallAll Try.prog 19 [.pointer (some ⟨i, 0, some 0⟩), .int .i64 (x : Nat), .int .i64 (q : Nat), .int .u8 b] h (fun v ms => ∃ g k, g ∉ F.map By.b ∧ v = .int .i64 0 ∧ ms = [(i, airP (L.set x ⟨to_, (By.mk g k bs).s, at_, tr, true⟩)), (j, memC W (setB (⟨g, k, bs⟩ :: F) g q (bendV (bs.getD q 0) b)))]) := by
  refine CallAll.to (call_resall (G := tys) (h := h) (vs := [.pointer (some ⟨i, 0, some 0⟩), .int .i64 (x : Nat), .int .i64 (q : Nat), .int .u8 b]) (airOK L) (airO W F L) (α := Nat × Nat) (fun κ => κ.1 ∉ F.map By.b) (fun κ => .int .i64 0) [⟨i, airP L, airP L, airP L⟩, ⟨j, memC W F, memC W F, memC W F⟩] (fun κ => [airP (L.set x ⟨to_, (By.mk κ.1 κ.2 bs).s, at_, tr, true⟩), memC W (setB (⟨κ.1, κ.2, bs⟩ :: F) κ.1 q (bendV (bs.getD q 0) b))]) (fun κ => []) [.pointer (some ⟨0, 0, some 0⟩), .int .i64 (x : Nat), .int .i64 (q : Nat), .int .u8 b] tysOK mixed Try.func19 (by rfl) (Try.call19) ⟨hi, hj, trivial⟩ ⟨⟨fun h => ⟨rfl, Nat.le_refl _⟩, Nat.le_refl _, fun j hj => absurd hj (Nat.not_lt_zero j)⟩, ⟨fun h => ⟨rfl, Nat.le_refl _⟩, Nat.le_refl _, fun j hj => absurd hj (Nat.not_lt_zero j)⟩, trivial⟩ (fun κ _ => ⟨⟨fun h => ⟨rfl, Nat.le_refl _⟩, Nat.le_refl _, fun j hj => absurd hj (Nat.not_lt_zero j)⟩, ⟨fun h => ⟨rfl, Nat.le_refl _⟩, Nat.le_refl _, fun j hj => absurd hj (Nat.not_lt_zero j)⟩, trivial⟩) (by simp [Apart, hij]) ⟨.inr ⟨rfl, rfl⟩, .inr ⟨rfl, rfl⟩, trivial⟩ (fun κ _ => trivial) ⟨.ptr rfl, .plain rfl, .plain rfl, .plain rfl, trivial⟩ air_opens2 ?_) ?_
  rotate_left
  · rintro v ms ⟨κ, hκ, rfl, rfl⟩
    exact ⟨κ.1, κ.2, hκ, rfl, rfl⟩
  intro β hβ
  have hx : x < L.length := (List.getElem?_eq_some_iff.1 hm).1
  have hlen := hs.len
  have hne : bs ≠ [] := fun e => by rw [e] at hq; simp at hq
  cases β with
  | none =>
    obtain rfl : L = [] := hβ
    simp at hx
  | some r =>
    obtain ⟨c, T⟩ := r
    obtain ⟨hc1, hlc, hT⟩ := hβ
    have hTx := hT x _ hm
    repeat' (refine N.go ?_; first | with_reducible refine N.obl (by decide) ?_ | with_reducible refine N.obl (flat_wi _ _ _) ?_ | with_reducible refine N.obl (flat_lim _ _) ?_ | with_reducible refine N.eq ?_ | with_reducible refine N.obl rfl ?_ | with_reducible refine N.obl ⟨by kernel_rfl, by kernel_rfl⟩ ?_ | with_reducible refine N.alt ?_ | with_reducible refine N.forkT ?_ | with_reducible refine N.forkF ?_ | refine N.forkNo (by decide) ?_ | refine N.forkYes (by decide) ?_ | refine N.forkYes (by rw [decide_eq_true_eq]; omega) ?_ | refine N.forkNo (by rw [decide_eq_false_iff_not]; omega) ?_ | refine N.obl (mail_flat _ _ _ _ _) ?_ | (refine N.call (cRGetO _ _ L.length c x T hx hlc 0 2 (by decide) _ (by rfl) (by rfl)) ?_; rw [hTx]) | refine N.op (ok_lenU rfl rfl ⟨_, rfl, _, Try.underlying26⟩) ?_ | refine N.forkNo (decide_eq_false (by show ¬ (uN u : Int) ≤ q; omega)) ?_ | refine N.forkNo (beq_false_of_ne hb) ?_ | fail_if_success skip)
    refine N.go ?_
    refine N.mk (eff_appN (i := 1) (F := F) (bs := bs) rfl ⟨rfl, rfl⟩ rfl (by rfl) hs hbs hne (fun g k hg => ?_))
    repeat' (refine N.go ?_; first | with_reducible refine N.obl (by decide) ?_ | with_reducible refine N.obl (flat_wi _ _ _) ?_ | with_reducible refine N.obl (flat_lim _ _) ?_ | with_reducible refine N.eq ?_ | with_reducible refine N.obl rfl ?_ | with_reducible refine N.obl ⟨by kernel_rfl, by kernel_rfl⟩ ?_ | with_reducible refine N.alt ?_ | with_reducible refine N.forkT ?_ | with_reducible refine N.forkF ?_ | refine N.forkNo (by decide) ?_ | refine N.forkYes (by decide) ?_ | refine N.forkYes (by rw [decide_eq_true_eq]; omega) ?_ | refine N.forkNo (by rw [decide_eq_false_iff_not]; omega) ?_ | refine N.obl (mail_flat _ _ _ _ _) ?_ | refine N.op (ok_idxR (sz := 1) (g := q) tysOK rfl rfl (fun ρ => uV_den (By.mk g k bs).s ρ) rfl (by exact rfl) (by omega) (by show (q : Int) < (bs.length : Nat); omega) (by simp; first | done | fail)) ?_ | refine N.op (ok_loadR (i := 1) (F := ⟨g, k, bs⟩ :: F) (v := .int .u8 (bs.getD q 0)) tysOK rfl rfl (by rfl) (by exact rfl) rfl (known_src (s := ⟨g, 0, bs.length, k, none⟩) (.own (e := ⟨g, k, bs⟩) (List.mem_cons_self ..)) hq (by simp; first | done | fail))) ?_ | refine N.op (ok_storeB (i := 1) (F := ⟨g, k, bs⟩ :: F) (e := ⟨g, k, bs⟩) (j := q) tysOK rfl rfl rfl (by rfl) (by exact rfl) (List.mem_cons_self ..) hq) ?_ | fail_if_success skip)
    refine N.go ?_
    refine App0N.mk1 _ (rd_headM rfl hlc rfl) (by omega) (by omega) (by show L.length * 56 ≤ _; omega) fun cap hcap => ?_
    repeat' (refine N.go ?_; first | with_reducible refine N.obl (by decide) ?_ | with_reducible refine N.obl (flat_wi _ _ _) ?_ | with_reducible refine N.obl (flat_lim _ _) ?_ | with_reducible refine N.eq ?_ | with_reducible refine N.obl rfl ?_ | with_reducible refine N.obl ⟨by kernel_rfl, by kernel_rfl⟩ ?_ | with_reducible refine N.alt ?_ | with_reducible refine N.forkT ?_ | with_reducible refine N.forkF ?_ | refine N.forkNo (by decide) ?_ | refine N.forkYes (by decide) ?_ | refine N.forkYes (by rw [decide_eq_true_eq]; omega) ?_ | refine N.forkNo (by rw [decide_eq_false_iff_not]; omega) ?_ | refine N.obl (mail_flat _ _ _ _ _) ?_ | refine N.idx x 1 rfl (by omega) ?_ | refine N.store _ (wr_putC (y := ⟨to_, (By.mk g k bs).s, at_, tr, true⟩) rfl (by rfl) rfl (by omega) rfl rfl rfl) ?_ | fail_if_success skip)
    refine N.go ?_
    refine airClose (W := W) (F := setB (⟨g, k, bs⟩ :: F) g q (bendV (bs.getD q 0) b)) (L.set x ⟨to_, (By.mk g k bs).s, at_, tr, true⟩) 8 cap (putM T L.length x ⟨to_, (By.mk g k bs).s, at_, tr, true⟩) rfl air_pc (by omega) (by rw [List.length_set]; exact hcap) (get_put hT) (by rfl) rfl (Nat.le_refl _) (by rw [List.length_set]; rfl) (by rfl) (by rfl) (by decide) rfl (Nat.le_refl _) (fun j hj => put_cells hx (fun j hj => eqv_of (headM rfl hj)) (fun j h1 h2 => headZ rfl h1 h2) hj) (plain_sc' rfl) ?_
    refine N.some (g, k) ⟨hg, ?_⟩
    refine N.obl (.plain rfl) ?_
    refine N.obl ⟨⟨_, rfl, fun h => h, Nat.le_refl _, fun j hj => absurd hj (Nat.not_lt_zero j)⟩, ⟨_, rfl, fun h => h, Nat.le_refl _, fun j hj => absurd hj (Nat.not_lt_zero j)⟩, trivial⟩ ?_
    refine N.obl trivial ?_
    refine N.obl ⟨⟨.inr ⟨_, rfl, rfl⟩, .inr ⟨_, rfl, rfl⟩, trivial⟩, trivial⟩ ?_
    exact N.true
end Go.Proofs.Ytgikbmohmomgbaa
