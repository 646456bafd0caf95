import Derived.Test.YtimccfnlcnlffaaGreatM5
set_option linter.unusedVariables false
set_option linter.unusedSimpArgs false
set_option maxRecDepth 100000
set_option maxHeartbeats 20000000

namespace Go.Proofs.YtimccfnlcnlffaaGreat
open Go Go.RowKit Sx
theorem rwithin_x (n m : Int) (hm : 0 ≤ m ∧ m ≤ 1152921504606846976) (w : World) : Calls Tryz.prog 52 #[.int .i64 n, .int .i64 m] w fun e w' => e = .returned (.bool (decide (-m ≤ n ∧ n ≤ m))) ∧ Below w.heap.size w w' := by
  have hw := i64s (0 - m) (by omega) (by omega)
  refine calls_pure (G := tys) w tysOK mixed Tryz.func52 (by rfl) (by rfl) (by rfl) ?_
  repeat' (refine N.go ?_; first | with_reducible (first | refine N.obl (by decide) ?_ | refine N.eq ?_ | refine N.obl rfl ?_ | refine N.obl ⟨by kernel_rfl, by kernel_rfl⟩ ?_ | refine N.alt ?_ | refine N.forkT ?_ | refine N.forkF ?_) | with_reducible refine N.fork (fun hb => ?_) (fun hb => ?_) | fail)
  all_goals try rw [hw] at *
  all_goals
    refine boolD ?_
    simp only [decide_eq_true_eq, decide_eq_false_iff_not, Bool.false_eq_true, false_iff, true_iff, iff_true, iff_false, reduceCtorEq, not_true_eq_false, not_false_eq_true, ge_iff_le, gt_iff_lt] at *
    omega
theorem cRWithin (n m : Int) (hm : 0 ≤ m ∧ m ≤ 1152921504606846976) (h : List (Option Chunk)) : CallOK Tryz.prog 52 [.int .i64 n, .int .i64 m] h (.bool (decide (-m ≤ n ∧ n ≤ m))) [] [] := call_pure rfl rfl (Tryz.call52 _) (rwithin_x n m hm)
theorem rmaypoint_x (x y : Int) (w : World) : Calls Tryz.prog 51 #[.agg #[.int .i64 x, .int .i64 y]] w fun e w' => e = .returned (.bool (decide (withinP 4194304 x y))) ∧ Below w.heap.size w w' := by
  refine calls_pure (G := tys) w tysOK mixed Tryz.func51 (by rfl) (by rfl) (by rfl) ?_
  repeat' (refine N.go ?_; first | with_reducible (first | refine N.obl (by decide) ?_ | refine N.eq ?_ | refine N.obl rfl ?_ | refine N.obl ⟨by kernel_rfl, by kernel_rfl⟩ ?_ | refine N.alt ?_ | refine N.forkT ?_ | refine N.forkF ?_) | refine N.call (cRWithin _ _ (by decide) _) ?_ | with_reducible refine N.fork (fun hb => ?_) (fun hb => ?_) | fail)
  all_goals
    refine boolD ?_
    simp only [decide_eq_true_eq, decide_eq_false_iff_not, Bool.false_eq_true, false_iff, true_iff, iff_true, iff_false, reduceCtorEq, not_true_eq_false, not_false_eq_true, ge_iff_le, gt_iff_lt] at *
    try simp only [withinP] at *
    omega
theorem cRMayPoint (x y : Int) (h : List (Option Chunk)) : CallOK Tryz.prog 51 [.agg #[.int .i64 x, .int .i64 y]] h (.bool (decide (withinP 4194304 x y))) [] [] := call_pure rfl rfl (Tryz.call51 _) (rmaypoint_x x y)
theorem rtime_x (s : Int) (w : World) : Calls Tryz.prog 27 #[.int .i64 s] w fun e w' => e = .returned (.bool (decide (0 ≤ s ∧ s ≤ 1000000))) ∧ Below w.heap.size w w' := by
  refine calls_pure (G := tys) w tysOK mixed Tryz.func27 (by rfl) (by rfl) (by rfl) ?_
  repeat' (refine N.go ?_; first | with_reducible (first | refine N.obl (by decide) ?_ | refine N.eq ?_ | refine N.obl rfl ?_ | refine N.obl ⟨by kernel_rfl, by kernel_rfl⟩ ?_ | refine N.alt ?_ | refine N.forkT ?_ | refine N.forkF ?_) | with_reducible refine N.fork (fun hb => ?_) (fun hb => ?_) | fail)
  all_goals
    refine boolD ?_
    simp only [decide_eq_true_eq, decide_eq_false_iff_not, Bool.false_eq_true, false_iff, true_iff, iff_true, iff_false, reduceCtorEq, not_true_eq_false, not_false_eq_true, ge_iff_le, gt_iff_lt] at *
    omega
theorem cRTime (s : Int) (h : List (Option Chunk)) : CallOK Tryz.prog 27 [.int .i64 s] h (.bool (decide (0 ≤ s ∧ s ≤ 1000000))) [] [] := call_pure rfl rfl (Tryz.call27 _) (rtime_x s)
theorem sgnI_pos (z : Int) : decide (sgnI z > 0) = decide (0 < z) := by
  unfold sgnI
  split
  · rw [decide_eq_false (by decide), decide_eq_false (by omega)]
  · split
    · rw [decide_eq_false (by decide), decide_eq_false (by omega)]
    · rw [decide_eq_true (by decide), decide_eq_true (by omega)]
theorem rmaye_x (x y a b d : Int) (w : World) : Calls Tryz.prog 33 #[.agg #[.int .i64 x, .int .i64 y, .int .i64 a, .int .i64 b, .int .i64 d]] w fun e w' => e = .returned (.bool (decide (mayP x y a b d))) ∧ Below w.heap.size w w' := by
  by_cases hr : withinP 4194304 x y ∧ (1 ≤ a ∧ a ≤ 70368744177664) ∧ (1 ≤ d ∧ d ≤ 70368744177664) ∧ (-70368744177664 ≤ b ∧ b ≤ 70368744177664)
  · obtain ⟨p1, ⟨p2, p3⟩, ⟨p4, p5⟩, p6, p7⟩ := hr
    have he : decide (mayP x y a b d) = decide (sgnI (a * d - b * b) > 0) := by
      rw [sgnI_pos, decide_eq_decide]
      unfold mayP
      exact ⟨fun h => h.2.2.2.2, fun h => ⟨p1, ⟨p2, p3⟩, ⟨p4, p5⟩, ⟨p6, p7⟩, h⟩⟩
    rw [he]
    refine calls_pure (G := tys) w tysOK mixed Tryz.func33 (by rfl) (by rfl) (by rfl) ?_
    repeat' (refine N.go ?_; first | with_reducible (first | refine N.obl (by decide) ?_ | refine N.eq ?_ | refine N.obl rfl ?_ | refine N.obl ⟨by kernel_rfl, by kernel_rfl⟩ ?_ | refine N.alt ?_ | refine N.forkT ?_ | refine N.forkF ?_) | refine N.call (cRMayPoint _ _ _) ?_ | refine N.call (cRWithin _ _ (by decide) _) ?_ | refine N.call (cASign (a * d - b * b) _ _ _ _ hκ _) ?_ | refine N.forkYes (decide_eq_true (by assumption)) ?_ | refine N.forkNo (decide_eq_false (by assumption)) ?_ | refine N.forkYes (decide_eq_true (by omega)) ?_ | refine N.forkNo (decide_eq_false (by omega)) ?_ | fail)
    refine N.go ?_
    refine N.callAll (mk_arN 2 (by rfl) (a * d - b * b).natAbs (bzW (a * d - b * b)) (Tryz.call54) (qs := [.pl (.agg #[.int .i64 a, .int .i64 b, .int .i64 d])]) ⟨.pl rfl, trivial⟩ (fun _ => rfl) (wDet a b d ⟨by omega, by omega⟩ ⟨by omega, by omega⟩ ⟨by omega, by omega⟩)) fun v ms hR => ?_
    obtain ⟨κ, hκ, rfl, rfl⟩ := hR
    repeat' (refine N.go ?_; first | with_reducible (first | refine N.obl (by decide) ?_ | refine N.eq ?_ | refine N.obl rfl ?_ | refine N.obl ⟨by kernel_rfl, by kernel_rfl⟩ ?_ | refine N.alt ?_ | refine N.forkT ?_ | refine N.forkF ?_) | refine N.call (cRMayPoint _ _ _) ?_ | refine N.call (cRWithin _ _ (by decide) _) ?_ | refine N.call (cASign (a * d - b * b) _ _ _ _ hκ _) ?_ | refine N.forkYes (decide_eq_true (by assumption)) ?_ | refine N.forkNo (decide_eq_false (by assumption)) ?_ | refine N.forkYes (decide_eq_true (by omega)) ?_ | refine N.forkNo (decide_eq_false (by omega)) ?_ | fail)
    all_goals rfl
  · have he : decide (mayP x y a b d) = false := by
      rw [decide_eq_false_iff_not]
      intro h
      unfold mayP at h
      exact hr ⟨h.1, h.2.1, h.2.2.1, h.2.2.2.1⟩
    rw [he]
    refine calls_pure (G := tys) w tysOK mixed Tryz.func33 (by rfl) (by rfl) (by rfl) ?_
    by_cases q1 : withinP 4194304 x y
    · by_cases q2 : 1 ≤ a
      · by_cases q3 : a ≤ 70368744177664
        · by_cases q4 : 1 ≤ d
          · by_cases q5 : d ≤ 70368744177664
            · have q6 : ¬ (-70368744177664 ≤ b ∧ b ≤ 70368744177664) := fun h => hr ⟨q1, ⟨q2, q3⟩, ⟨q4, q5⟩, h⟩
              repeat' (refine N.go ?_; first | with_reducible (first | refine N.obl (by decide) ?_ | refine N.eq ?_ | refine N.obl rfl ?_ | refine N.obl ⟨by kernel_rfl, by kernel_rfl⟩ ?_ | refine N.alt ?_ | refine N.forkT ?_ | refine N.forkF ?_) | refine N.call (cRMayPoint _ _ _) ?_ | refine N.call (cRWithin _ _ (by decide) _) ?_ | refine N.forkYes (decide_eq_true (by assumption)) ?_ | refine N.forkNo (decide_eq_false (by assumption)) ?_ | refine N.forkYes (decide_eq_true (by omega)) ?_ | refine N.forkNo (decide_eq_false (by omega)) ?_ | fail)
              all_goals rfl
            · repeat' (refine N.go ?_; first | with_reducible (first | refine N.obl (by decide) ?_ | refine N.eq ?_ | refine N.obl rfl ?_ | refine N.obl ⟨by kernel_rfl, by kernel_rfl⟩ ?_ | refine N.alt ?_ | refine N.forkT ?_ | refine N.forkF ?_) | refine N.call (cRMayPoint _ _ _) ?_ | refine N.call (cRWithin _ _ (by decide) _) ?_ | refine N.forkYes (decide_eq_true (by assumption)) ?_ | refine N.forkNo (decide_eq_false (by assumption)) ?_ | refine N.forkYes (decide_eq_true (by omega)) ?_ | refine N.forkNo (decide_eq_false (by omega)) ?_ | fail)
              all_goals rfl
          · repeat' (refine N.go ?_; first | with_reducible (first | refine N.obl (by decide) ?_ | refine N.eq ?_ | refine N.obl rfl ?_ | refine N.obl ⟨by kernel_rfl, by kernel_rfl⟩ ?_ | refine N.alt ?_ | refine N.forkT ?_ | refine N.forkF ?_) | refine N.call (cRMayPoint _ _ _) ?_ | refine N.call (cRWithin _ _ (by decide) _) ?_ | refine N.forkYes (decide_eq_true (by assumption)) ?_ | refine N.forkNo (decide_eq_false (by assumption)) ?_ | refine N.forkYes (decide_eq_true (by omega)) ?_ | refine N.forkNo (decide_eq_false (by omega)) ?_ | fail)
            all_goals rfl
        · repeat' (refine N.go ?_; first | with_reducible (first | refine N.obl (by decide) ?_ | refine N.eq ?_ | refine N.obl rfl ?_ | refine N.obl ⟨by kernel_rfl, by kernel_rfl⟩ ?_ | refine N.alt ?_ | refine N.forkT ?_ | refine N.forkF ?_) | refine N.call (cRMayPoint _ _ _) ?_ | refine N.call (cRWithin _ _ (by decide) _) ?_ | refine N.forkYes (decide_eq_true (by assumption)) ?_ | refine N.forkNo (decide_eq_false (by assumption)) ?_ | refine N.forkYes (decide_eq_true (by omega)) ?_ | refine N.forkNo (decide_eq_false (by omega)) ?_ | fail)
          all_goals rfl
      · repeat' (refine N.go ?_; first | with_reducible (first | refine N.obl (by decide) ?_ | refine N.eq ?_ | refine N.obl rfl ?_ | refine N.obl ⟨by kernel_rfl, by kernel_rfl⟩ ?_ | refine N.alt ?_ | refine N.forkT ?_ | refine N.forkF ?_) | refine N.call (cRMayPoint _ _ _) ?_ | refine N.call (cRWithin _ _ (by decide) _) ?_ | refine N.forkYes (decide_eq_true (by assumption)) ?_ | refine N.forkNo (decide_eq_false (by assumption)) ?_ | refine N.forkYes (decide_eq_true (by omega)) ?_ | refine N.forkNo (decide_eq_false (by omega)) ?_ | fail)
        all_goals rfl
    · repeat' (refine N.go ?_; first | with_reducible (first | refine N.obl (by decide) ?_ | refine N.eq ?_ | refine N.obl rfl ?_ | refine N.obl ⟨by kernel_rfl, by kernel_rfl⟩ ?_ | refine N.alt ?_ | refine N.forkT ?_ | refine N.forkF ?_) | refine N.call (cRMayPoint _ _ _) ?_ | refine N.call (cRWithin _ _ (by decide) _) ?_ | refine N.forkYes (decide_eq_true (by assumption)) ?_ | refine N.forkNo (decide_eq_false (by assumption)) ?_ | refine N.forkYes (decide_eq_true (by omega)) ?_ | refine N.forkNo (decide_eq_false (by omega)) ?_ | fail)
      all_goals rfl
theorem cMayE (x y a b d : Int) (h : List (Option Chunk)) : CallOK Tryz.prog 33 [.agg #[.int .i64 x, .int .i64 y, .int .i64 a, .int .i64 b, .int .i64 d]] h (.bool (decide (mayP x y a b d))) [] [] := call_pure rfl rfl (Tryz.call33 _) (rmaye_x x y a b d)
end Go.Proofs.YtimccfnlcnlffaaGreat


namespace Go.Proofs.YtimccfnlcnlffaaGreat
open Go Go.RowKit Sx
theorem int_eqn {k : IntKind} {a b : Int} (h : a = b) : Value.int k a = .int k b := by rw [h]
theorem CallAll.to {P : Program} {g : FuncId} {vs : List Value} {h : List (Option Chunk)} {R R' : Value → List (Nat × Chunk) → Prop} (hc : CallAll P g vs h R) (hR : ∀ v ms, R v ms → R' v ms) : CallAll P g vs h R' := callAll_mono hc hR
structure RLv where
  known : Bool
  left : Bool
  boot : Int
  wu : Option Sl
  last : Int
def lvcell (x : RLv) : Nat → Value
  | 0 => .bool x.known
  | 1 => .bool x.left
  | 2 => .int .i64 x.boot
  | 3 => uV x.wu
  | _ => .int .i64 x.last
abbrev lvV (x : RLv) : Value := .agg ⟨[.bool x.known, .bool x.left, .int .i64 x.boot, uV x.wu, .int .i64 x.last]⟩
abbrev rtC (most : Int) (u : Option Sl) (lv : Nat → RLv) : Chunk := ⟨true, 322, [(1, 1, uV u), (2, 320, .agg ⟨segL 320 (fun j => lvcell (lv (j / 5)) (j % 5))⟩), (0, 1, .int .i64 most)]⟩
theorem rt_f (most : Int) (u : Option Sl) (lv : Nat → RLv) {j : Nat} (hj : j < 322) : (rtC most u lv).f j = if j = 0 then .int .i64 most else if j = 1 then uV u else lvcell (lv ((j - 2) / 5)) ((j - 2) % 5) := by
  show cellOf [(1, 1, uV u), (2, 320, _), (0, 1, .int .i64 most)] j = _
  by_cases h0 : j = 0
  · subst h0; rfl
  · by_cases h1 : j = 1
    · subst h1; rfl
    · rw [cellOf_cons, if_neg (by omega), cellOf_cons, if_pos (by omega), if_neg h0, if_neg h1]
      show ((segL 320 (fun j => lvcell (lv (j / 5)) (j % 5))).getD (j - 2) undef) = _
      exact segL_get (by omega)
theorem lv_re {ix : List (Nat × Nat)} (x : RLv) (k : Nat) : Re1 ix (lvcell x k) (lvcell x k) := by
  unfold lvcell
  split <;> first | exact uV_re1 _ | exact .plain rfl
theorem rt_re {ix : List (Nat × Nat)} {most : Int} {u : Option Sl} {lv : Nat → RLv} : ∀ j, j < 322 → Re1 ix ((rtC most u lv).f j) ((rtC most u lv).f j) := fun j hj => by
  rw [rt_f most u lv hj]
  split
  · exact .plain rfl
  · split
    · exact uV_re1 u
    · exact lv_re _ _
theorem rv_re [ZW] {ix : List (Nat × Nat)} {R R' : List Rw} : ∀ j, j < 0 → Re1 ix ((rvC R).f j) ((rvC R').f j) := fun j hj => absurd hj (Nat.not_lt_zero j)
theorem rt_ren {ix : List (Nat × Nat)} {most : Int} {u : Option Sl} {lv : Nat → RLv} : ChunkReLe ix (rtC most u lv) (rtC most u lv) := ⟨id, Nat.le_refl _, rt_re⟩
theorem rv_ren [ZW] {ix : List (Nat × Nat)} {R : List Rw} : ChunkReLe ix (rvC R) (rvC R) := ⟨id, Nat.le_refl _, rv_re⟩
theorem rd_lv {most : Int} {u : Option Sl} {lv : Nat → RLv} {p n : Nat} (k : Nat) (hn : n = 5) (hk : k < 64) (e : p = 2 + k * 5) : Reads (rtC most u lv) p true n (lvV (lv k)) := by
  subst e hn
  refine ⟨by show 2 + k * 5 + 5 ≤ 322; omega, _, rfl, rfl, fun j hj => ?_⟩
  rw [rt_f most u lv (by omega), if_neg (by omega), if_neg (by omega), show (2 + k * 5 + j - 2) / 5 = k from by omega, show (2 + k * 5 + j - 2) % 5 = j from by omega]
  match j, hj with
  | 0, _ => rfl
  | 1, _ => rfl
  | 2, _ => rfl
  | 3, _ => rfl
  | 4, _ => rfl
theorem rd_lvs {most : Int} {u : Option Sl} {lv : Nat → RLv} {p n : Nat} (k q : Nat) (hn : n = 1) (hk : k < 64) (hq : q < 5) (e : p = 2 + k * 5 + q) : Reads (rtC most u lv) p false n (lvcell (lv k) q) := by
  subst e hn
  refine ⟨by show 2 + k * 5 + q < 322; omega, by unfold lvcell; split <;> rfl, ?_⟩
  rw [rt_f most u lv (by omega), if_neg (by omega), if_neg (by omega), show (2 + k * 5 + q - 2) / 5 = k from by omega, show (2 + k * 5 + q - 2) % 5 = q from by omega]
def setP (lv : Nat → RLv) (n : Nat) (x : RLv) (m : Nat) : RLv := if m = n then x else lv m
theorem wr_lv {most : Int} {u : Option Sl} {lv : Nat → RLv} {p n : Nat} (k : Nat) (x : RLv) (hn : n = 5) (hk : k < 64) (e : p = 2 + k * 5) : Writes (rtC most u lv) p n (lvV x) (rtC most u (setP lv k x)) := by
  subst e hn
  refine ⟨rfl, by show 2 + k * 5 + 5 ≤ 322; omega, rfl, fun j hj => ?_⟩
  have hj : j < 322 := hj
  rw [rt_f most u _ hj, rt_f most u _ hj]
  by_cases hc : 2 + k * 5 ≤ j ∧ j < 2 + k * 5 + 5
  · rw [if_pos hc, if_neg (by omega), if_neg (by omega)]
    unfold setP
    rw [if_pos (by omega)]
    obtain ⟨q, hq, rfl⟩ : ∃ q, q < 5 ∧ j = 2 + k * 5 + q := ⟨j - (2 + k * 5), by omega, by omega⟩
    rw [show (2 + k * 5 + q - 2) % 5 = q from by omega, show 2 + k * 5 + q - (2 + k * 5) = q from by omega]
    match q, hq with
    | 0, _ => rfl
    | 1, _ => rfl
    | 2, _ => rfl
    | 3, _ => rfl
    | 4, _ => rfl
  · rw [if_neg hc]
    split
    · rfl
    · split
      · rfl
      · unfold setP
        rw [if_neg (by omega)]
theorem wr_left {most : Int} {u : Option Sl} {lv : Nat → RLv} {p n : Nat} (k : Nat) (b : Bool) (hn : n = 1) (hk : k < 64) (e : p = 2 + k * 5 + 1) : Writes (rtC most u lv) p n (.bool b) (rtC most u (setP lv k { lv k with left := b })) := by
  subst e hn
  refine ⟨rfl, by show 2 + k * 5 + 1 + 1 ≤ 322; omega, rfl, fun j hj => ?_⟩
  have hj : j < 322 := hj
  rw [rt_f most u _ hj, rt_f most u _ hj]
  by_cases hc : 2 + k * 5 + 1 ≤ j ∧ j < 2 + k * 5 + 1 + 1
  · obtain rfl : j = 2 + k * 5 + 1 := by omega
    rw [if_pos hc, if_neg (by omega), if_neg (by omega)]
    unfold setP
    rw [if_pos (by omega), show (2 + k * 5 + 1 - 2) % 5 = 1 from by omega]
    rfl
  · rw [if_neg hc]
    split
    · rfl
    · split
      · rfl
      · unfold setP
        by_cases hk2 : (j - 2) / 5 = k
        · rw [if_pos hk2, hk2]
          have : (j - 2) % 5 ≠ 1 := by omega
          generalize (j - 2) % 5 = q at this
          unfold lvcell
          split <;> first | rfl | omega
        · rw [if_neg hk2]
abbrev enCs (e : Ent) : List Value := [.int .i64 e.node, .int .i64 e.boot, .int .i64 e.heard, .bool e.has, .int .i64 e.x, .int .i64 e.y, .int .i64 e.a, .int .i64 e.b, .int .i64 e.d, .int .i64 e.when_]
def RowE (R : List Rw) (u : Option Sl) (L : List Ent) : Prop := (u = none ∧ L = []) ∨ ∃ r ∈ R, u = some r.sl ∧ r.k = 10 ∧ r.n = L.length ∧ r.xs = L.flatMap enCs ∧ r.n ≤ r.c
def RowI (R : List Rw) (u : Option Sl) (l : List Int) : Prop := (u = none ∧ l = []) ∨ ∃ r ∈ R, u = some r.sl ∧ r.k = 1 ∧ r.n = l.length ∧ r.xs = l.map (Value.int .i64)
theorem RowE.more {R R' : List Rw} {u : Option Sl} {L : List Ent} (h : RowE R u L) (hR : ∀ r ∈ R, r ∈ R') : RowE R' u L := h.imp id fun ⟨r, h1, h2⟩ => ⟨r, hR r h1, h2⟩
theorem RowI.more {R R' : List Rw} {u : Option Sl} {l : List Int} (h : RowI R u l) (hR : ∀ r ∈ R, r ∈ R') : RowI R' u l := h.imp id fun ⟨r, h1, h2⟩ => ⟨r, hR r h1, h2⟩
theorem RowE.len {R : List Rw} {u : Option Sl} {L : List Ent} (h : RowE R u L) : uN u = L.length := by
  rcases h with ⟨rfl, rfl⟩ | ⟨r, _, rfl, _, h, _⟩
  · rfl
  · exact h
theorem RowI.len {R : List Rw} {u : Option Sl} {l : List Int} (h : RowI R u l) : uN u = l.length := by
  rcases h with ⟨rfl, rfl⟩ | ⟨r, _, rfl, _, h, _⟩
  · rfl
  · exact h
theorem flat_len (L : List Ent) : (L.flatMap enCs).length = L.length * 10 := by
  induction L with
  | nil => rfl
  | cons a r ih =>
    rw [List.flatMap_cons, List.length_append, ih]
    show 10 + r.length * 10 = (r.length + 1) * 10
    omega
theorem flat_at : ∀ {L : List Ent} {i : Nat} {e : Ent}, L[i]? = some e → ∀ j v, (enCs e)[j]? = some v → (L.flatMap enCs)[i * 10 + j]? = some v
  | [], i, e, h, _, _, _ => by simp at h
  | a :: r, 0, e, h, j, v, hv => by
    obtain rfl : a = e := by simpa using h
    have hj : j < (enCs a).length := (List.getElem?_eq_some_iff.1 hv).1
    rw [List.flatMap_cons, Nat.zero_mul, Nat.zero_add, List.getElem?_append_left hj]; exact hv
  | a :: r, i + 1, e, h, j, v, hv => by
    have h : r[i]? = some e := by simpa using h
    rw [List.flatMap_cons, List.getElem?_append_right (by show 10 ≤ _; omega), show (i + 1) * 10 + j - (enCs a).length = i * 10 + j from by show (i + 1) * 10 + j - 10 = _; omega]
    exact flat_at h j v hv
theorem flat_drop (L : List Ent) (p : Nat) : (L.flatMap enCs).drop (p * 10) = (L.drop p).flatMap enCs := by
  induction L generalizing p with
  | nil => simp
  | cons a r ih =>
    cases p with
    | zero => simp
    | succ p =>
      rw [List.flatMap_cons, List.drop_succ_cons, ← ih p, show (p + 1) * 10 = (enCs a).length + p * 10 from by show _ = 10 + p * 10; omega, List.drop_append, List.drop_eq_nil_of_le (Nat.le_add_right _ _), List.nil_append, Nat.add_sub_cancel_left]
theorem flat_take (L : List Ent) (p : Nat) : (L.flatMap enCs).take (p * 10) = (L.take p).flatMap enCs := by
  induction L generalizing p with
  | nil => simp
  | cons a r ih =>
    cases p with
    | zero => simp
    | succ p =>
      rw [List.flatMap_cons, List.take_succ_cons, List.flatMap_cons, ← ih p, show (p + 1) * 10 = (enCs a).length + p * 10 from by show _ = 10 + p * 10; omega, List.take_length_add_append]
def rAt (L : List Ent) (n : Int) : Int := match L.findIdx? (fun e => decide (e.node = n)) with
  | some j => (j : Nat)
  | none => -1
theorem rAt_cases (L : List Ent) (n : Int) : (∃ (j : Nat) (e : Ent), L[j]? = some e ∧ rAt L n = (j : Nat) ∧ findE L n = some e) ∨ (rAt L n = -1 ∧ findE L n = none) := by
  induction L with
  | nil => exact .inr ⟨rfl, rfl⟩
  | cons a r ih =>
    by_cases ha : a.node = n
    · refine .inl ⟨0, a, rfl, ?_, ?_⟩
      · unfold rAt; simp [List.findIdx?_cons, ha]
      · unfold findE; simp [List.find?_cons, ha]
    · have h1 : findE (a :: r) n = findE r n := by unfold findE; simp [List.find?_cons, ha]
      have h2 : ∀ o, r.findIdx? (fun e => decide (e.node = n)) = o → (a :: r).findIdx? (fun e => decide (e.node = n)) = o.map (· + 1) := fun o ho => by rw [List.findIdx?_cons, if_neg (by simp [ha]), ho]
      rcases ih with ⟨j, e, g1, g2, g3⟩ | ⟨g1, g2⟩
      · refine .inl ⟨j + 1, e, by simpa using g1, ?_, h1.trans g3⟩
        unfold rAt at g2 ⊢
        cases ho : r.findIdx? (fun e => decide (e.node = n)) with
        | none => rw [ho] at g2; simp only at g2; omega
        | some q =>
          rw [ho] at g2; simp only at g2
          rw [h2 _ ho]
          show ((q + 1 : Nat) : Int) = ((j + 1 : Nat) : Int)
          omega
      · refine .inr ⟨?_, h1.trans g2⟩
        unfold rAt at g1 ⊢
        cases ho : r.findIdx? (fun e => decide (e.node = n)) with
        | none => rw [h2 _ ho]; rfl
        | some q => rw [ho] at g1; simp only at g1; omega
theorem rAt_here {L : List Ent} {n : Int} {k : Nat} {e : Ent} (hk : L[k]? = some e) (he : e.node = n) (hb : ∀ (q : Nat) (x : Ent), q < k → L[q]? = some x → x.node ≠ n) : rAt L n = (k : Nat) := by
  have : L.findIdx? (fun e => decide (e.node = n)) = some k := by
    have hkl := (List.getElem?_eq_some_iff.1 hk)
    have hkl1 := hkl.1
    rw [List.findIdx?_eq_some_iff_getElem]
    refine ⟨hkl.1, decide_eq_true (by rw [hkl.2]; exact he), fun q hq => ?_⟩
    have hql : q < L.length := by omega
    simpa using hb q L[q] hq (List.getElem?_eq_getElem hql)
  unfold rAt; rw [this]
theorem rAt_none {L : List Ent} {n : Int} (hb : ∀ (q : Nat) (x : Ent), L[q]? = some x → x.node ≠ n) : rAt L n = -1 := by
  have : L.findIdx? (fun e => decide (e.node = n)) = none := by
    rw [List.findIdx?_eq_none_iff]
    intro x hx
    obtain ⟨q, hq⟩ := List.getElem?_of_mem hx
    simpa using hb q x hq
  unfold rAt; rw [this]
theorem cRAt0 [ZW] (most : Int) (u : Option Sl) (lv : Nat → RLv) (R : List Rw) (L : List Ent) (hE : RowE R u L) (hl : L.length ≤ 1000) (n : Int)  (i g : Nat) (h : List (Option Chunk)) (hi : h[i]? = some (some (rtC most u lv))) (hg : h[g]? = some (some (rvC R))) (hig : i ≠ g) : CallOK Tryz.prog 34 [.pointer (some ⟨i, 0, some 0⟩), .int .i64 n] h (.int .i64 (rAt L n)) [(i, rtC most u lv), (g, rvC R)] [] := by
  refine call_res (G := tys) (fun _ : Unit => True) (fun _ => _) [⟨i, rtC most u lv, rtC most u lv, rtC most u lv⟩, ⟨g, rvC R, rvC R, rvC R⟩] [] [.pointer (some ⟨0, 0, some 0⟩), .int .i64 n] tysOK mixed Tryz.func34 (by rfl) (Tryz.call34) ⟨hi, hg, trivial⟩ ⟨⟨fun h => ⟨rfl, Nat.le_refl _⟩, Nat.le_refl _, rt_re⟩, ⟨fun h => ⟨rfl, Nat.le_refl _⟩, Nat.le_refl _, rv_re⟩, trivial⟩ (by simp [Apart, hig]) ⟨.inl rfl, .inr ⟨rfl, rfl⟩, trivial⟩ trivial ⟨.ptr rfl, .plain rfl, trivial⟩ Opens.same ?_
  rintro ⟨⟩ -
  repeat' (refine N.go ?_; first | with_reducible (first | refine N.obl (by decide) ?_ | refine N.eq ?_ | refine N.obl rfl ?_ | refine N.obl ⟨by kernel_rfl, by kernel_rfl⟩ ?_ | refine N.alt ?_ | refine N.forkT ?_ | refine N.forkF ?_) | refine N.op (ok_lenU rfl rfl ⟨_, rfl, _, Tryz.underlying46⟩) ?_ | refine N.forkYes (by rw [decide_eq_true_eq]; omega) ?_ | refine N.forkNo (by rw [decide_eq_false_iff_not]; omega) ?_ | refine N.forkNo (by decide) ?_ | refine N.forkYes (by decide) ?_ | fail)
  refine N.go ?_
  refine N.loopR (α := Nat) (fun k => k ≤ L.length ∧ ∀ (q : Nat) (x : Ent), q < k → L[q]? = some x → x.node ≠ n) (fun k => L.length - k) (fun k => [(12, .int .i64 (k : Nat))]) (fun k => []) 0 [(0, 0), (1, 1)] ⟨Nat.zero_le _, fun q x h => absurd h (Nat.not_lt_zero q)⟩ ?_ ?_
  · repeat' (refine N.go ?_; first | with_reducible (first | refine N.obl (by decide) ?_ | refine N.eq ?_ | refine N.obl rfl ?_ | refine N.obl ⟨by kernel_rfl, by kernel_rfl⟩ ?_ | refine N.alt ?_ | refine N.forkT ?_ | refine N.forkF ?_) | exact N.true | refine N.obl (.plain (by rfl)) ?_ | refine N.obl (re_eqn (int_eqn (by rw [i64s ((k : Int) + 1) (by omega) (by omega)]; rfl)) rfl) ?_ | refine N.obl (.one (.ptr rfl)) ?_ | refine N.obl rt_ren ?_ | refine N.obl rv_ren ?_ | refine N.obl (ChunkReLe.same (agg_plain (by rfl) (by rfl))) ?_ | refine N.obl (.one .quo) ?_ | refine N.obl (.one (.any (fun _ _ => rfl) fun _ _ => rfl)) ?_ | fail)
  intro k ⟨hk, hb⟩
  have hlen := hE.len
  by_cases hkl : k < L.length
  · obtain ⟨e, he⟩ : ∃ e, L[k]? = some e := ⟨_, List.getElem?_eq_getElem hkl⟩
    have hlt : ((k : Nat) : Int) < ((uN u : Nat) : Int) := by rw [hlen]; omega
    rcases hE with ⟨_, h0⟩ | ⟨r, hr, rfl, hrk, hrn, hx, hrc⟩
    · rw [h0] at hkl; exact absurd hkl (Nat.not_lt_zero k)
    have hlen : r.n = L.length := hlen
    repeat' (refine N.go ?_; first | with_reducible (first | refine N.obl (by decide) ?_ | refine N.eq ?_ | refine N.obl rfl ?_ | refine N.obl ⟨by kernel_rfl, by kernel_rfl⟩ ?_ | refine N.alt ?_ | refine N.forkT ?_ | refine N.forkF ?_) | refine N.forkYes (decide_eq_true hlt) ?_ | refine N.op (ok_idxR (sz := 10) (g := r.o + k * 10) tysOK rfl rfl (fun ρ => by rw [uV_den]; rfl) rfl (by exact rfl) (by omega) (by show ((k : Nat) : Int) < ((r.n : Nat) : Int); omega) (by show r.o + ((k : Nat) : Int).toNat * 10 = _; rw [Int.toNat_natCast])) ?_ | refine N.op (ok_loadVA (i := 1) r (enCs e) (k * 10) tysOK rfl rfl rfl (by rfl) hr (by exact ⟨rfl, rfl⟩) rfl rfl (fun j v hv => by rw [hx]; exact flat_at he j v hv)) ?_ | fail)
    by_cases hn : e.node = n
    · repeat' (refine N.go ?_; first | with_reducible (first | refine N.obl (by decide) ?_ | refine N.eq ?_ | refine N.obl rfl ?_ | refine N.obl ⟨by kernel_rfl, by kernel_rfl⟩ ?_ | refine N.alt ?_ | refine N.forkT ?_ | refine N.forkF ?_) | refine N.forkYes (decide_eq_true hn) ?_ | refine N.endSame ?_ | refine N.obl (re_eqn (int_eqn (rAt_here he hn hb)) rfl) ?_ | refine N.obl (.plain rfl) ?_ | refine N.obl ⟨⟨_, rfl, fun h => h, Nat.le_refl _, rt_re⟩, ⟨_, rfl, fun h => h, Nat.le_refl _, rv_re⟩, trivial⟩ ?_ | refine N.obl trivial ?_ | refine N.obl ⟨⟨.inl rfl, .inr ⟨_, rfl, rfl⟩, trivial⟩, trivial⟩ ?_ | exact N.true | fail)
    · repeat' (refine N.go ?_; first | with_reducible (first | refine N.obl (by decide) ?_ | refine N.eq ?_ | refine N.obl rfl ?_ | refine N.obl ⟨by kernel_rfl, by kernel_rfl⟩ ?_ | refine N.alt ?_ | refine N.forkT ?_ | refine N.forkF ?_) | refine N.forkNo (decide_eq_false hn) ?_ | fail)
      refine N.go ?_
      refine N.nextR (α := Nat) (k + 1) [(0, 0), (1, 1)] ⟨⟨hkl, fun q x hq hx => ?_⟩, by show L.length - (k + 1) < L.length - k; omega⟩ ?_
      · by_cases hqk : q = k
        · subst hqk; rw [he] at hx; obtain rfl := Option.some.inj hx; exact hn
        · exact hb q x (by omega) hx
      repeat' (refine N.go ?_; first | with_reducible (first | refine N.obl (by decide) ?_ | refine N.eq ?_ | refine N.obl rfl ?_ | refine N.obl ⟨by kernel_rfl, by kernel_rfl⟩ ?_ | refine N.alt ?_ | refine N.forkT ?_ | refine N.forkF ?_) | exact N.true | refine N.obl (.plain (by rfl)) ?_ | refine N.obl (re_eqn (int_eqn (by rw [i64s ((k : Int) + 1) (by omega) (by omega)]; rfl)) rfl) ?_ | refine N.obl (.one (.ptr rfl)) ?_ | refine N.obl rt_ren ?_ | refine N.obl rv_ren ?_ | refine N.obl (ChunkReLe.same (agg_plain (by rfl) (by rfl))) ?_ | refine N.obl (.one .quo) ?_ | refine N.obl (.one (.any (fun _ _ => rfl) fun _ _ => rfl)) ?_ | fail)
  · have hnl : ¬ ((k : Nat) : Int) < ((uN u : Nat) : Int) := by rw [hlen]; omega
    have hna : rAt L n = -1 := rAt_none fun q x hx => hb q x (by have := (List.getElem?_eq_some_iff.1 hx).1; omega) hx
    repeat' (refine N.go ?_; first | with_reducible (first | refine N.obl (by decide) ?_ | refine N.eq ?_ | refine N.obl rfl ?_ | refine N.obl ⟨by kernel_rfl, by kernel_rfl⟩ ?_ | refine N.alt ?_ | refine N.forkT ?_ | refine N.forkF ?_) | refine N.forkNo (decide_eq_false hnl) ?_ | refine N.endSame ?_ | refine N.obl (re_eqn (int_eqn hna) rfl) ?_ | refine N.obl (.plain rfl) ?_ | refine N.obl ⟨⟨_, rfl, fun h => h, Nat.le_refl _, rt_re⟩, ⟨_, rfl, fun h => h, Nat.le_refl _, rv_re⟩, trivial⟩ ?_ | refine N.obl trivial ?_ | refine N.obl ⟨⟨.inl rfl, .inr ⟨_, rfl, rfl⟩, trivial⟩, trivial⟩ ?_ | exact N.true | fail)
theorem cRAt [ZW] (most : Int) (u : Option Sl) (lv : Nat → RLv) (R : List Rw) (L : List Ent) (hE : RowE R u L) (hl : L.length ≤ 1000) (n a : Int) (ha : rAt L n = a) (i g : Nat) (h : List (Option Chunk)) (hi : h[i]? = some (some (rtC most u lv))) (hg : h[g]? = some (some (rvC R))) (hig : i ≠ g) : CallOK Tryz.prog 34 [.pointer (some ⟨i, 0, some 0⟩), .int .i64 n] h (.int .i64 a) [(i, rtC most u lv), (g, rvC R)] [] := by
  subst ha; exact cRAt0 most u lv R L hE hl n i g h hi hg hig
theorem cRGetY [ZW] (most : Int) (u : Option Sl) (lv : Nat → RLv) (R : List Rw) (L : List Ent) (hE : RowE R u L) (hl : L.length ≤ 1000) (n : Int) (e : Ent) (hfe : findE L n = some e) (i g : Nat) (h : List (Option Chunk)) (hi : h[i]? = some (some (rtC most u lv))) (hg : h[g]? = some (some (rvC R))) (hig : i ≠ g) : CallOK Tryz.prog 15 [.pointer (some ⟨i, 0, some 0⟩), .int .i64 n] h (.tuple ⟨[entV e, .bool true]⟩) [(i, rtC most u lv), (g, rvC R)] [] := by
  refine call_res (G := tys) (fun _ : Unit => True) (fun _ => _) [⟨i, rtC most u lv, rtC most u lv, rtC most u lv⟩, ⟨g, rvC R, rvC R, rvC R⟩] [] [.pointer (some ⟨0, 0, some 0⟩), .int .i64 n] tysOK mixed Tryz.func15 (by rfl) (Tryz.call15) ⟨hi, hg, trivial⟩ ⟨⟨fun h => ⟨rfl, Nat.le_refl _⟩, Nat.le_refl _, rt_re⟩, ⟨fun h => ⟨rfl, Nat.le_refl _⟩, Nat.le_refl _, rv_re⟩, trivial⟩ (by simp [Apart, hig]) ⟨.inl rfl, .inr ⟨rfl, rfl⟩, trivial⟩ trivial ⟨.ptr rfl, .plain rfl, trivial⟩ Opens.same ?_
  rintro ⟨⟩ -
  rcases rAt_cases L n with ⟨k, e', he, ha, hf⟩ | ⟨_, hf⟩
  rotate_left
  · rw [hfe] at hf; cases hf
  rw [hfe] at hf
  obtain rfl := Option.some.inj hf
  obtain ⟨a, ha⟩ : ∃ a, rAt L n = a := ⟨_, rfl⟩
  have ha2 : a = (k : Nat) := by omega
  have hkl := (List.getElem?_eq_some_iff.1 he).1
  have hE' := hE
  rcases hE' with ⟨_, h0⟩ | ⟨r, hr, hu, hrk, hrn, hx, hrc⟩
  · rw [h0] at hkl; exact absurd hkl (Nat.not_lt_zero k)
  repeat' (refine N.go ?_; first | with_reducible (first | refine N.obl (by decide) ?_ | refine N.eq ?_ | refine N.obl rfl ?_ | refine N.obl ⟨by kernel_rfl, by kernel_rfl⟩ ?_ | refine N.alt ?_ | refine N.forkT ?_ | refine N.forkF ?_) | refine N.call (cRAt most u lv R L hE hl n a ha 0 1 _ (by rfl) (by rfl) (by decide)) ?_ | refine N.forkYes (decide_eq_true (by show a ≥ 0; omega)) ?_ | refine N.forkNo (decide_eq_false (by show ¬ a ≥ 0; omega)) ?_ | fail)
  subst ha2
  subst hu
  repeat' (refine N.go ?_; first | with_reducible (first | refine N.obl (by decide) ?_ | refine N.eq ?_ | refine N.obl rfl ?_ | refine N.obl ⟨by kernel_rfl, by kernel_rfl⟩ ?_ | refine N.alt ?_ | refine N.forkT ?_ | refine N.forkF ?_) | refine N.op (ok_idxR (sz := 10) (g := r.o + k * 10) tysOK rfl rfl (fun ρ => by rw [uV_den]; rfl) rfl (by exact rfl) (by omega) (by show ((k : Nat) : Int) < ((r.n : Nat) : Int); omega) (by show r.o + ((k : Nat) : Int).toNat * 10 = _; rw [Int.toNat_natCast])) ?_ | refine N.op (ok_loadVA (i := 1) r (enCs e) (k * 10) tysOK rfl rfl rfl (by rfl) hr (by exact ⟨rfl, rfl⟩) rfl rfl (fun j v hv => by rw [hx]; exact flat_at he j v hv)) ?_ | fail)
  repeat' (refine N.go ?_; first | with_reducible (first | refine N.obl (by decide) ?_ | refine N.eq ?_ | refine N.obl rfl ?_ | refine N.obl ⟨by kernel_rfl, by kernel_rfl⟩ ?_ | refine N.alt ?_ | refine N.forkT ?_ | refine N.forkF ?_) | refine N.endSame ?_ | refine N.obl (.plain rfl) ?_ | refine N.obl ⟨⟨_, rfl, fun h => h, Nat.le_refl _, rt_re⟩, ⟨_, rfl, fun h => h, Nat.le_refl _, rv_re⟩, trivial⟩ ?_ | refine N.obl trivial ?_ | refine N.obl ⟨⟨.inl rfl, .inr ⟨_, rfl, rfl⟩, trivial⟩, trivial⟩ ?_ | exact N.true | fail)
theorem cRGetN [ZW] (most : Int) (u : Option Sl) (lv : Nat → RLv) (R : List Rw) (L : List Ent) (hE : RowE R u L) (hl : L.length ≤ 1000) (n : Int) (hfe : findE L n = none) (i g : Nat) (h : List (Option Chunk)) (hi : h[i]? = some (some (rtC most u lv))) (hg : h[g]? = some (some (rvC R))) (hig : i ≠ g) : CallOK Tryz.prog 15 [.pointer (some ⟨i, 0, some 0⟩), .int .i64 n] h (.tuple ⟨[entV Ent.zero, .bool false]⟩) [(i, rtC most u lv), (g, rvC R)] [] := by
  refine call_res (G := tys) (fun _ : Unit => True) (fun _ => _) [⟨i, rtC most u lv, rtC most u lv, rtC most u lv⟩, ⟨g, rvC R, rvC R, rvC R⟩] [] [.pointer (some ⟨0, 0, some 0⟩), .int .i64 n] tysOK mixed Tryz.func15 (by rfl) (Tryz.call15) ⟨hi, hg, trivial⟩ ⟨⟨fun h => ⟨rfl, Nat.le_refl _⟩, Nat.le_refl _, rt_re⟩, ⟨fun h => ⟨rfl, Nat.le_refl _⟩, Nat.le_refl _, rv_re⟩, trivial⟩ (by simp [Apart, hig]) ⟨.inl rfl, .inr ⟨rfl, rfl⟩, trivial⟩ trivial ⟨.ptr rfl, .plain rfl, trivial⟩ Opens.same ?_
  rintro ⟨⟩ -
  obtain ⟨a, ha⟩ : ∃ a, rAt L n = a := ⟨_, rfl⟩
  have ha2 : a = -1 := by
    rcases rAt_cases L n with ⟨k, e', he, h1, hf⟩ | ⟨h1, _⟩
    · rw [hfe] at hf; cases hf
    · omega
  repeat' (refine N.go ?_; first | with_reducible (first | refine N.obl (by decide) ?_ | refine N.eq ?_ | refine N.obl rfl ?_ | refine N.obl ⟨by kernel_rfl, by kernel_rfl⟩ ?_ | refine N.alt ?_ | refine N.forkT ?_ | refine N.forkF ?_) | refine N.call (cRAt most u lv R L hE hl n a ha 0 1 _ (by rfl) (by rfl) (by decide)) ?_ | refine N.forkYes (decide_eq_true (by show a ≥ 0; omega)) ?_ | refine N.forkNo (decide_eq_false (by show ¬ a ≥ 0; omega)) ?_ | fail)
  repeat' (refine N.go ?_; first | with_reducible (first | refine N.obl (by decide) ?_ | refine N.eq ?_ | refine N.obl rfl ?_ | refine N.obl ⟨by kernel_rfl, by kernel_rfl⟩ ?_ | refine N.alt ?_ | refine N.forkT ?_ | refine N.forkF ?_) | refine N.endSame ?_ | refine N.obl (.plain rfl) ?_ | refine N.obl ⟨⟨_, rfl, fun h => h, Nat.le_refl _, rt_re⟩, ⟨_, rfl, fun h => h, Nat.le_refl _, rv_re⟩, trivial⟩ ?_ | refine N.obl trivial ?_ | refine N.obl ⟨⟨.inl rfl, .inr ⟨_, rfl, rfl⟩, trivial⟩, trivial⟩ ?_ | exact N.true | fail)
structure OE (oe : Option Rw) (M : List Ent) : Prop where
  n : rowN oe = M.length
  xs : rowXs oe = M.flatMap enCs
  ty : ∀ r, oe = some r → r.e = 42 ∧ r.k = 10 ∧ r.w = true
  cap : ∀ r, oe = some r → r.n ≤ r.c
theorem OE.nil : OE none [] := ⟨rfl, rfl, (fun r h => by cases h), fun r h => by cases h⟩
theorem OE.row {oe : Option Rw} {M : List Ent} (h : OE oe M) (R : List Rw) : RowE (rowL oe R) (rowO oe) M := by
  cases oe with
  | none => exact .inl ⟨rfl, List.length_eq_zero_iff.1 h.n.symm⟩
  | some r => exact .inr ⟨r, rowL_in r R, rfl, (h.ty r rfl).2.1, h.n, h.xs, h.cap r rfl⟩
theorem OE.grew {oe oe' : Option Rw} {M M2 : List Ent} (h : OE oe M) (hg : Grew oe oe' 42 10 M2.length (M2.flatMap enCs)) : OE oe' (M ++ M2) :=
  ⟨by rw [hg.n, h.n, List.length_append], by rw [hg.xs, h.xs, List.flatMap_append], hg.ty, hg.cap⟩
theorem ent_info : ∃ ei z, Tryz.prog.info? 42 = some ei ∧ ei.size = 10 ∧ ei.bytes ≤ 1000 ∧ ei.zero = some z ∧ z.cells.size = 10 := by
  obtain ⟨ei, d, h1, h2, h3⟩ := lookT_out tysOK (t := 42) (K := fun ei _ => ei.size = 10 ∧ ei.bytes ≤ 1000 ∧ ∃ z, ei.zero = some z ∧ z.cells.size = 10) ⟨rfl, by decide, _, rfl, rfl⟩
  obtain ⟨h3, h4, z, h5, h6⟩ := h3
  exact ⟨ei, z, h1, h3, h4, h5, h6⟩
theorem ents_one (M : List Ent) : ∀ u ∈ M.flatMap enCs, u.oneCell' = true := fun u hu => by
  obtain ⟨e, _, he⟩ := List.mem_flatMap.1 hu
  simp only [enCs, List.mem_cons, List.not_mem_nil, or_false] at he
  rcases he with rfl | rfl | rfl | rfl | rfl | rfl | rfl | rfl | rfl | rfl <;> rfl
section
variable {o : Oper} {st : St}
theorem appE [ZW] {x y : Operand} {p : Value} {own : Bool} {n : Nat} {ps : List (Nat × Nat × Value)} {K : Value → List (Nat × Chunk) → Prop} (oe : Option Rw) (R : List Rw) (M M2 : List Ent) (i : Nat) (hs : List Nat) (hoe : OE oe M)
    (ho : o.op = .call ⟨.builtin .append, #[x, y], #[46, 46]⟩) (hx : EvTo x st p) (hp : ∀ ρ, den ρ p = uR (rowO oe)) (hi : st.h[i]? = some (some (@Chunk.mk (rvX (rowL oe R)) own n ps)))
    (hsrc : SrcN y st hs M2.length 10 (M2.flatMap enCs)) (hl : M.length + M2.length ≤ 100000) (hK : ∀ oe', OE oe' (M ++ M2) → K (uV (rowO oe')) [(i, @Chunk.mk (rvX (rowL oe' R)) own n ps)]) : N (EffAll Tryz.prog o st K) := by
  obtain ⟨ei, z, h1, h2, h3, h4, h5⟩ := ent_info
  have hb : (rowN oe + M2.length) * ei.bytes ≤ 100000 * 1000 := Nat.mul_le_mul (by rw [hoe.n]; exact hl) h3
  exact app_now (e := 42) (ei := ei) (z := z) oe R i M2.length (M2.flatMap enCs) ho hx hp Tryz.underlying46 h1 h4 (by rw [h5, h2]) (by rw [h2]; decide) hi (fun r hr => by rw [h2]; exact hoe.ty r hr) hs (by rw [h2]; exact hsrc) (ents_one M2) (by rw [hoe.n]; omega) (by omega) fun oe' hg => hK oe' (hoe.grew (by rw [h2] at hg; exact hg))
theorem appEM [ZW] {x y : Operand} {p : Value} {own : Bool} {n : Nat} {ps : List (Nat × Nat × Value)} {C : List Nat → Prop} {K : List Nat → Value → List (Nat × Chunk) → Prop} (oe : Option Rw) (R : List Rw) (M M2 : List Ent) (i : Nat) (hs : List Nat) (hoe : OE oe M)
    (ho : o.op = .call ⟨.builtin .append, #[x, y], #[46, 46]⟩) (hx : EvTo x st p) (hp : ∀ ρ, den ρ p = uR (rowO oe)) (hi : st.h[i]? = some (some (@Chunk.mk (rvX (rowL oe R)) own n ps))) (hsi : i ∈ hs)
    (hsrc : SrcN y st hs M2.length 10 (M2.flatMap enCs)) (hl : M.length + M2.length ≤ 100000) (hC : C hs) (hK : ∀ oe', OE oe' (M ++ M2) → K hs (uV (rowO oe')) [(i, @Chunk.mk (rvX (rowL oe' R)) own n ps)]) : N (MultiN Tryz.prog o st C K) := by
  obtain ⟨ei, z, h1, h2, h3, h4, h5⟩ := ent_info
  have hb : (rowN oe + M2.length) * ei.bytes ≤ 100000 * 1000 := Nat.mul_le_mul (by rw [hoe.n]; exact hl) h3
  exact app_multi (e := 42) (ei := ei) (z := z) oe R i M2.length (M2.flatMap enCs) hs ho hx hp Tryz.underlying46 h1 h4 (by rw [h5, h2]) (by rw [h2]; decide) hi (fun r hr => by rw [h2]; exact hoe.ty r hr) hsi (by rw [h2]; exact hsrc) (ents_one M2) (by rw [hoe.n]; omega) (by omega) hC fun oe' hg => hK oe' (hoe.grew (by rw [h2] at hg; exact hg))
end
theorem drop_next {L : List Ent} {k : Nat} {e : Ent} (n : Int) (he : L[k]? = some e) : dropE (L.take (k + 1)) n = if e.node = n then dropE (L.take k) n else dropE (L.take k) n ++ [e] := by
  have hk := List.getElem?_eq_some_iff.1 he
  rw [List.take_add_one, he]
  unfold dropE
  rw [List.filter_append]
  by_cases hn : e.node = n
  · rw [if_pos hn]; simp [hn]
  · rw [if_neg hn]; simp [hn]
theorem cRDrop [ZW] (most : Int) (u : Option Sl) (lv : Nat → RLv) (R : List Rw) (L : List Ent) (hE : RowE R u L) (hl : L.length ≤ 1000) (n : Int)  (i g : Nat) (h : List (Option Chunk)) (hi : h[i]? = some (some (rtC most u lv))) (hg : h[g]? = some (some (rvC R))) (hig : i ≠ g) : CallAll Tryz.prog 30 [.pointer (some ⟨i, 0, some 0⟩), .int .i64 n] h (fun v ms => ∃ κ : Option Rw, (OE κ (dropE L n)) ∧ v = .tuple #[] ∧ ms = [(i, rtC most (rowO κ) lv), (g, rvC (rowL κ R))]) := by
  refine CallAll.to (call_resall (G := tys) (h := h) (vs := [.pointer (some ⟨i, 0, some 0⟩), .int .i64 n]) (fun _ : Unit => True) (fun _ => _) (α := Option Rw) (fun κ => OE κ (dropE L n)) (fun κ => .tuple #[]) [⟨i, rtC most u lv, rtC most u lv, rtC most u lv⟩, ⟨g, rvC R, rvC R, rvC R⟩] (fun κ => [rtC most (rowO κ) lv, rvC (rowL κ R)]) (fun κ => []) [.pointer (some ⟨0, 0, some 0⟩), .int .i64 n] tysOK mixed Tryz.func30 (by rfl) (Tryz.call30) ⟨hi, hg, trivial⟩ ⟨⟨fun h => ⟨rfl, Nat.le_refl _⟩, Nat.le_refl _, rt_re⟩, ⟨fun h => ⟨rfl, Nat.le_refl _⟩, Nat.le_refl _, rv_re⟩, trivial⟩ (fun κ _ => ⟨⟨fun h => ⟨rfl, Nat.le_refl _⟩, Nat.le_refl _, rt_re⟩, ⟨fun h => ⟨rfl, Nat.le_refl _⟩, Nat.le_refl _, rv_re⟩, trivial⟩) (by simp [Apart, hig]) ⟨.inl rfl, .inr ⟨rfl, rfl⟩, trivial⟩ (fun κ _ => trivial) ⟨.ptr rfl, .plain rfl, trivial⟩ Opens.same ?_) ?_
  rotate_left
  · rintro v ms ⟨κ, hκ, rfl, rfl⟩
    exact ⟨κ, hκ, rfl, rfl⟩
  rintro ⟨⟩ -
  repeat' (refine N.go ?_; first | with_reducible (first | refine N.obl (by decide) ?_ | refine N.eq ?_ | refine N.obl rfl ?_ | refine N.obl ⟨by kernel_rfl, by kernel_rfl⟩ ?_ | refine N.alt ?_ | refine N.forkT ?_ | refine N.forkF ?_) | refine N.op (ok_lenU rfl rfl ⟨_, rfl, _, Tryz.underlying46⟩) ?_ | refine N.forkYes (by rw [decide_eq_true_eq]; omega) ?_ | refine N.forkNo (by rw [decide_eq_false_iff_not]; omega) ?_ | refine N.forkNo (by decide) ?_ | refine N.forkYes (by decide) ?_ | fail)
  refine N.go ?_
  refine N.loopR (α := Nat × Option Rw) (fun q => q.1 ≤ L.length ∧ OE q.2 (dropE (L.take q.1) n)) (fun q => L.length - q.1) (fun q => [(12, .int .i64 (q.1 : Nat)), (4, uV (rowO q.2))]) (fun q => [(1, rvC (rowL q.2 R))]) (0, none) [(0, 0), (1, 1)] ⟨Nat.zero_le _, OE.nil⟩ ?_ ?_
  · repeat' (refine N.go ?_; first | with_reducible (first | refine N.obl (by decide) ?_ | refine N.eq ?_ | refine N.obl rfl ?_ | refine N.obl ⟨by kernel_rfl, by kernel_rfl⟩ ?_ | refine N.alt ?_ | refine N.forkT ?_ | refine N.forkF ?_) | exact N.true | refine N.obl (.plain (by rfl)) ?_ | refine N.obl (re_eqn (int_eqn (by rw [i64s ((k : Int) + 1) (by omega) (by omega)]; rfl)) rfl) ?_ | refine N.obl (.one (.ptr rfl)) ?_ | refine N.obl rt_ren ?_ | refine N.obl rv_ren ?_ | refine N.obl (ChunkReLe.same (agg_plain (by rfl) (by rfl))) ?_ | refine N.obl (.one .quo) ?_ | refine N.obl (.one (.any (fun _ _ => rfl) fun _ _ => rfl)) ?_ | fail)
  rintro ⟨k, oe⟩ ⟨hk, hoe⟩
  have hk : k ≤ L.length := hk
  have hoe : OE oe (dropE (L.take k) n) := hoe
  have hlen := hE.len
  by_cases hkl : k < L.length
  · obtain ⟨e, he⟩ : ∃ e, L[k]? = some e := ⟨_, List.getElem?_eq_getElem hkl⟩
    have hlt : ((k : Nat) : Int) < ((uN u : Nat) : Int) := by rw [hlen]; omega
    rcases hE with ⟨_, h0⟩ | ⟨r, hr0, rfl, hrk, hrn, hx, hrc⟩
    · rw [h0] at hkl; exact absurd hkl (Nat.not_lt_zero k)
    have hr := rowL_sub oe R r hr0
    have hlen : r.n = L.length := hlen
    repeat' (refine N.go ?_; first | with_reducible (first | refine N.obl (by decide) ?_ | refine N.eq ?_ | refine N.obl rfl ?_ | refine N.obl ⟨by kernel_rfl, by kernel_rfl⟩ ?_ | refine N.alt ?_ | refine N.forkT ?_ | refine N.forkF ?_) | refine N.forkYes (decide_eq_true hlt) ?_ | refine N.op (ok_idxR (sz := 10) (g := r.o + k * 10) tysOK rfl rfl (fun ρ => by rw [uV_den]; rfl) rfl (by exact rfl) (by omega) (by show ((k : Nat) : Int) < ((r.n : Nat) : Int); omega) (by show r.o + ((k : Nat) : Int).toNat * 10 = _; rw [Int.toNat_natCast])) ?_ | refine N.op (ok_loadVA (i := 1) r (enCs e) (k * 10) tysOK rfl rfl rfl (by rfl) hr (by exact ⟨rfl, rfl⟩) rfl rfl (fun j v hv => by rw [hx]; exact flat_at he j v hv)) ?_ | fail)
    refine N.go ?_
    have hd := drop_next n he
    by_cases hn : e.node = n
    · rw [if_pos hn] at hd
      refine N.forkNo (by rw [hn]; simp) ?_
      repeat' (refine N.go ?_; first | with_reducible (first | refine N.obl (by decide) ?_ | refine N.eq ?_ | refine N.obl rfl ?_ | refine N.obl ⟨by kernel_rfl, by kernel_rfl⟩ ?_ | refine N.alt ?_ | refine N.forkT ?_ | refine N.forkF ?_) | fail)
      refine N.go ?_
      refine N.nextR (α := Nat × Option Rw) (k + 1, oe) [(0, 0), (1, 1)] ⟨⟨hkl, by show OE oe (dropE (L.take (k + 1)) n); rw [hd]; exact hoe⟩, by show L.length - (k + 1) < L.length - k; omega⟩ ?_
      repeat' (refine N.go ?_; first | with_reducible (first | refine N.obl (by decide) ?_ | refine N.eq ?_ | refine N.obl rfl ?_ | refine N.obl ⟨by kernel_rfl, by kernel_rfl⟩ ?_ | refine N.alt ?_ | refine N.forkT ?_ | refine N.forkF ?_) | exact N.true | refine N.obl (.plain (by rfl)) ?_ | refine N.obl (re_eqn (int_eqn (by rw [i64s ((k : Int) + 1) (by omega) (by omega)]; rfl)) rfl) ?_ | refine N.obl (.one (.ptr rfl)) ?_ | refine N.obl rt_ren ?_ | refine N.obl rv_ren ?_ | refine N.obl (ChunkReLe.same (agg_plain (by rfl) (by rfl))) ?_ | refine N.obl (.one .quo) ?_ | refine N.obl (.one (.any (fun _ _ => rfl) fun _ _ => rfl)) ?_ | fail)
    · rw [if_neg hn] at hd
      refine N.forkYes (by simpa using hn) ?_
      repeat' (refine N.go ?_; first | with_reducible (first | refine N.obl (by decide) ?_ | refine N.eq ?_ | refine N.obl rfl ?_ | refine N.obl ⟨by kernel_rfl, by kernel_rfl⟩ ?_ | refine N.alt ?_ | refine N.forkT ?_ | refine N.forkF ?_) | fail)
      refine N.go ?_
      refine appE oe R (dropE (L.take k) n) [e] 1 [_] hoe rfl rfl (fun ρ => uV_den _ ρ) (by rfl) (src_chunk [_] (List.mem_singleton.2 rfl) rfl (by rfl) (rd_all (by rfl) (by rfl)) rfl) ?_ fun oe' hoe' => ?_
      · have := List.length_filter_le (fun e : Ent => decide (e.node ≠ n)) (L.take k)
        have h2 : (L.take k).length ≤ L.length := by rw [List.length_take]; omega
        show (dropE (L.take k) n).length + 1 ≤ 100000
        unfold dropE
        omega
      repeat' (refine N.go ?_; first | with_reducible (first | refine N.obl (by decide) ?_ | refine N.eq ?_ | refine N.obl rfl ?_ | refine N.obl ⟨by kernel_rfl, by kernel_rfl⟩ ?_ | refine N.alt ?_ | refine N.forkT ?_ | refine N.forkF ?_) | fail)
      refine N.go ?_
      refine N.nextR (α := Nat × Option Rw) (k + 1, oe') [(0, 0), (1, 1)] ⟨⟨hkl, by show OE oe' (dropE (L.take (k + 1)) n); rw [hd]; exact hoe'⟩, by show L.length - (k + 1) < L.length - k; omega⟩ ?_
      repeat' (refine N.go ?_; first | with_reducible (first | refine N.obl (by decide) ?_ | refine N.eq ?_ | refine N.obl rfl ?_ | refine N.obl ⟨by kernel_rfl, by kernel_rfl⟩ ?_ | refine N.alt ?_ | refine N.forkT ?_ | refine N.forkF ?_) | exact N.true | refine N.obl (.plain (by rfl)) ?_ | refine N.obl (re_eqn (int_eqn (by rw [i64s ((k : Int) + 1) (by omega) (by omega)]; rfl)) rfl) ?_ | refine N.obl (.one (.ptr rfl)) ?_ | refine N.obl rt_ren ?_ | refine N.obl rv_ren ?_ | refine N.obl (ChunkReLe.same (agg_plain (by rfl) (by rfl))) ?_ | refine N.obl (.one .quo) ?_ | refine N.obl (.one (.any (fun _ _ => rfl) fun _ _ => rfl)) ?_ | fail)
  · have hnl : ¬ ((k : Nat) : Int) < ((uN u : Nat) : Int) := by rw [hlen]; omega
    have hLk : L.take k = L := List.take_of_length_le (by omega)
    rw [hLk] at hoe
    repeat' (refine N.go ?_; first | with_reducible (first | refine N.obl (by decide) ?_ | refine N.eq ?_ | refine N.obl rfl ?_ | refine N.obl ⟨by kernel_rfl, by kernel_rfl⟩ ?_ | refine N.alt ?_ | refine N.forkT ?_ | refine N.forkF ?_) | refine N.forkNo (decide_eq_false hnl) ?_ | refine N.endSame ?_ | refine N.some oe ⟨hoe, ?_⟩ | refine N.obl (.plain rfl) ?_ | refine N.obl ⟨⟨_, rfl, fun h => h, Nat.le_refl _, rt_re⟩, ⟨_, rfl, fun h => h, Nat.le_refl _, rv_re⟩, trivial⟩ ?_ | refine N.obl trivial ?_ | refine N.obl ⟨⟨.inl rfl, .inr ⟨_, rfl, rfl⟩, trivial⟩, trivial⟩ ?_ | exact N.true | fail)
def RtOut [ZW] (most : Int) (lv : Nat → RLv) (R : List Rw) (L' : List Ent) (i g : Nat) (v : Value) (ms : List (Nat × Chunk)) : Prop :=
  ∃ u' R', RowE R' u' L' ∧ (∀ r ∈ R, r ∈ R') ∧ v = .tuple #[] ∧ ms = [(i, rtC most u' lv), (g, rvC R')]
theorem cRDropO [ZW] (most : Int) (u : Option Sl) (lv : Nat → RLv) (R : List Rw) (L : List Ent) (hE : RowE R u L) (hl : L.length ≤ 1000) (n : Int) (i g : Nat) (h : List (Option Chunk)) (hi : h[i]? = some (some (rtC most u lv))) (hg : h[g]? = some (some (rvC R))) (hig : i ≠ g) : CallAll Tryz.prog 30 [.pointer (some ⟨i, 0, some 0⟩), .int .i64 n] h (RtOut most lv R (dropE L n) i g) :=
  CallAll.to (cRDrop most u lv R L hE hl n i g h hi hg hig) fun v ms ⟨κ, hκ, hv, hms⟩ => ⟨_, _, hκ.row R, rowL_sub κ R, hv, hms⟩
def zcell : Nat → Value
  | 0 => .bool false
  | 1 => .bool false
  | 2 => .int .i64 0
  | 3 => .slice none 0 0
  | _ => .int .i64 0
def zL (m : Int) : List Value := .int .i64 m :: .slice none 0 0 :: (List.range 320).map fun k => zcell (k % 5)
theorem zL_at {ix : List (Nat × Nat)} {m : Int} : ∀ j, j < 322 → Re1 ix ((rtC m none (fun _ => ⟨false, false, 0, none, 0⟩)).f j) (Chunk.f (⟨true, 322, [(0, 322, .agg ⟨zL m⟩)]⟩ : Chunk) j) := fun j hj => by
  have e0 : Chunk.f (⟨true, 322, [(0, 322, .agg ⟨zL m⟩)]⟩ : Chunk) j = cellIn (.agg ⟨zL m⟩) j := by
    show cellOf [(0, 322, _)] j = _
    rw [cellOf_cons, if_pos (by omega), Nat.sub_zero]
  rw [rt_f m none _ hj, e0]
  match j, hj with
  | 0, _ => exact .plain rfl
  | 1, _ => exact .any fun _ _ => rfl
  | j + 2, hj =>
    rw [if_neg (by omega), if_neg (by omega)]
    have e : cellIn (.agg ⟨zL m⟩) (j + 2) = zcell (j % 5) := by
      show (zL m).getD (j + 2) undef = _
      unfold zL
      rw [List.getD_cons_succ, List.getD_cons_succ, List.getD_eq_getElem?_getD, List.getElem?_map, List.getElem?_range (by omega)]
      rfl
    rw [e, show j + 2 - 2 = j from rfl]
    have : j % 5 < 5 := Nat.mod_lt _ (by decide)
    generalize j % 5 = q at this
    match q, this with
    | 0, _ => exact .plain rfl
    | 1, _ => exact .plain rfl
    | 2, _ => exact .plain rfl
    | 3, _ => exact .any fun _ _ => rfl
    | 4, _ => exact .plain rfl
theorem cRNew (m : Int) (K : Nat) (h : List (Option Chunk)) (hK : h[K]? = some none) : CallOK Tryz.prog 5 [.int .i64 m] h (.pointer (some ⟨K, 0, some 0⟩)) [(K, rtC (max 1 (min m 64)) none (fun _ => ⟨false, false, 0, none, 0⟩))] [] := by
  refine call_res (G := tys) (fun _ : Unit => True) (fun _ => _) [] [⟨K, 8, rtC (max 1 (min m 64)) none (fun _ => ⟨false, false, 0, none, 0⟩)⟩] [.int .i64 m] tysOK mixed Tryz.func5 (by rfl) (Tryz.call5) trivial trivial (by simp [Apart]) trivial ⟨⟨hK, rfl, .inl (by show 0 < 322; decide), by simp⟩, trivial⟩ ⟨.plain rfl, trivial⟩ Opens.same ?_
  rintro ⟨⟩ -
  repeat' (refine N.go ?_; first | with_reducible (first | refine N.obl (by decide) ?_ | refine N.eq ?_ | refine N.obl rfl ?_ | refine N.obl ⟨by kernel_rfl, by kernel_rfl⟩ ?_ | refine N.alt ?_ | refine N.forkT ?_ | refine N.forkF ?_) | refine N.min2 ?_ | refine N.max2 ?_ | refine N.endSame ?_ | refine N.obl (.one (.ptr rfl)) ?_ | refine N.obl trivial ?_ | fail)
  refine N.go ?_
  refine N.obl ⟨⟨Nat.zero_le _, _, rfl, id, Nat.le_refl _, zL_at (m := max 1 (min m 64))⟩, trivial⟩ ?_
  refine N.go ?_
  refine N.obl ⟨trivial, .inl rfl, trivial⟩ ?_
  exact N.true
end Go.Proofs.YtimccfnlcnlffaaGreat


namespace Go.Proofs.YtimccfnlcnlffaaGreat
open Go Go.RowKit Sx
section
variable {o : Oper} {st : St}
theorem ok_sliceE {x : Operand} {lo hi : Option Operand} {vl vh : Option Value} {b f l c p q : Nat} (f2 : Nat) (ho : o.op = .slice 46 x lo hi none) (hx : EvTo x st (uV (some ⟨b, f, l, c, none⟩))) (hl : OptTo st lo vl) (hh : OptTo st hi vh)
    (hq : Bnd vh l c q) (hp : Bnd vl 0 q p) (hf : f2 = f + (if c = p then 0 else p * 10)) : OKs Tryz.prog o st (uV (some ⟨b, f2, q - p, c - p, none⟩)) [] [] := by
  obtain ⟨ei, z, h1, h2, _⟩ := ent_info
  have := ok_sliceU (P := Tryz.prog) ho hx hl hh Tryz.underlying46 h1 hq hp
  rw [h2] at this
  subst hf
  exact this
theorem ok_sliceEN {x : Operand} {lo hi : Option Operand} {vl vh : Option Value} (ho : o.op = .slice 46 x lo hi none) (hx : EvTo x st (uV none)) (hl : OptTo st lo vl) (hh : OptTo st hi vh)
    (hq : Bnd vh 0 0 0) (hp : Bnd vl 0 0 0) : OKs Tryz.prog o st (uV none) [] [] := by
  obtain ⟨ei, z, h1, h2, _⟩ := ent_info
  exact ok_sliceN (P := Tryz.prog) ho hx hl hh Tryz.underlying46 h1 hq hp
theorem src_take [ZW] {y : Operand} {i : Nat} {R : List Rw} {r : Rw} {L : List Ent} {k f m c : Nat} (hs : List Nat) (his : i ∈ hs) (hy : EvTo y st (uV (some ⟨r.b, f, m, c, none⟩))) (hi : st.h[i]? = some (some (rvC R))) (hr : r ∈ R) (hx : r.xs = L.flatMap enCs) (hf : f = r.o) (hm : m = k) (hk : k ≤ L.length) :
    SrcN y st hs (L.take k).length 10 ((L.take k).flatMap enCs) := by
  have hlen : (L.take k).length = m := by rw [List.length_take]; omega
  have := src_row (p := 0) (m := m) (k := 10) hs his (by rw [hf]; rfl) hy hi hr (by rw [hx, flat_len]; omega)
  rw [List.drop_zero, hx, hm, flat_take] at this
  rw [hlen, hm]; exact this
theorem src_drop [ZW] {y : Operand} {i : Nat} {R : List Rw} {r : Rw} {L : List Ent} {k f m c : Nat} (hs : List Nat) (his : i ∈ hs) (hy : EvTo y st (uV (some ⟨r.b, f, m, c, none⟩))) (hi : st.h[i]? = some (some (rvC R))) (hr : r ∈ R) (hx : r.xs = L.flatMap enCs) (hf : f = r.o + k * 10 ∨ L.length ≤ k) (hm : m = L.length - k) :
    SrcN y st hs (L.drop k).length 10 ((L.drop k).flatMap enCs) := by
  have hlen : (L.drop k).length = m := by rw [List.length_drop]; omega
  rcases Nat.lt_or_ge k L.length with hkl | hkl
  · have hf : f = r.o + k * 10 := by omega
    have := src_row (p := k * 10) (m := m) (k := 10) hs his hf hy hi hr (by rw [hx, flat_len]; omega)
    rw [hx, flat_drop, List.take_of_length_le (by rw [flat_len, hlen]; exact Nat.le_refl _)] at this
    rw [hlen]; exact this
  · have h0 : L.drop k = [] := List.drop_eq_nil_of_le hkl
    have hm0 : m = 0 := by omega
    subst hm0
    rw [h0]
    intro st₂ ha hh X ρ a w Rl
    refine .inr ⟨⟨r.b, f, none⟩, c, ?_, rfl, fun j u h => by simp at h⟩
    rw [← ((ha _ hy).den Rl).self, uV_den]; rfl
end
theorem cut_at {L : List Ent} {n : Int} {k : Nat} (hk : k ≤ L.length) (hb : ∀ (q : Nat) (x : Ent), q < k → L[q]? = some x → x.node < n) (he : ∀ x, L[k]? = some x → ¬ x.node < n) : L.takeWhile (fun e => decide (e.node < n)) = L.take k ∧ L.dropWhile (fun e => decide (e.node < n)) = L.drop k := by
  induction L generalizing k with
  | nil =>
    have : k = 0 := by simpa using hk
    subst this; exact ⟨rfl, rfl⟩
  | cons a r ih =>
    cases k with
    | zero =>
      have := he a rfl
      rw [List.takeWhile_cons, List.dropWhile_cons, if_neg (by simpa using this), if_neg (by simpa using this)]
      exact ⟨rfl, rfl⟩
    | succ k =>
      have ha := hb 0 a (by omega) rfl
      have := ih (k := k) (by simpa using hk) (fun q x hq hx => hb (q + 1) x (by omega) (by simpa using hx)) (fun x hx => he x (by simpa using hx))
      rw [List.takeWhile_cons, List.dropWhile_cons, if_pos (by simpa using ha), if_pos (by simpa using ha), this.1, this.2]
      exact ⟨rfl, rfl⟩
theorem cRSet [ZW] (most : Int) (u : Option Sl) (lv : Nat → RLv) (R : List Rw) (L : List Ent) (hE : RowE R u L) (hl : L.length ≤ 1000) (e : Ent)  (i g : Nat) (h : List (Option Chunk)) (hi : h[i]? = some (some (rtC most u lv))) (hg : h[g]? = some (some (rvC R))) (hig : i ≠ g) : CallAll Tryz.prog 31 [.pointer (some ⟨i, 0, some 0⟩), entV e] h (fun v ms => ∃ κ : Option Rw × List Rw, (OE κ.1 (setE L e) ∧ ∀ r ∈ R, r ∈ κ.2) ∧ v = .tuple #[] ∧ ms = [(i, rtC most (rowO κ.1) lv), (g, rvC (rowL κ.1 κ.2))]) := by
  refine CallAll.to (call_resall (G := tys) (h := h) (vs := [.pointer (some ⟨i, 0, some 0⟩), entV e]) (fun _ : Unit => True) (fun _ => _) (α := Option Rw × List Rw) (fun κ => OE κ.1 (setE L e) ∧ ∀ r ∈ R, r ∈ κ.2) (fun κ => .tuple #[]) [⟨i, rtC most u lv, rtC most u lv, rtC most u lv⟩, ⟨g, rvC R, rvC R, rvC R⟩] (fun κ => [rtC most (rowO κ.1) lv, rvC (rowL κ.1 κ.2)]) (fun κ => []) [.pointer (some ⟨0, 0, some 0⟩), entV e] tysOK mixed Tryz.func31 (by rfl) (Tryz.call31) ⟨hi, hg, trivial⟩ ⟨⟨fun h => ⟨rfl, Nat.le_refl _⟩, Nat.le_refl _, rt_re⟩, ⟨fun h => ⟨rfl, Nat.le_refl _⟩, Nat.le_refl _, rv_re⟩, trivial⟩ (fun κ _ => ⟨⟨fun h => ⟨rfl, Nat.le_refl _⟩, Nat.le_refl _, rt_re⟩, ⟨fun h => ⟨rfl, Nat.le_refl _⟩, Nat.le_refl _, rv_re⟩, trivial⟩) (by simp [Apart, hig]) ⟨.inl rfl, .inr ⟨rfl, rfl⟩, trivial⟩ (fun κ _ => trivial) ⟨.ptr rfl, .plain rfl, trivial⟩ Opens.same ?_) ?_
  rotate_left
  · rintro v ms ⟨κ, hκ, rfl, rfl⟩
    exact ⟨κ, hκ, rfl, rfl⟩
  rintro ⟨⟩ -
  repeat' (refine N.go ?_; first | with_reducible (first | refine N.obl (by decide) ?_ | refine N.eq ?_ | refine N.obl rfl ?_ | refine N.obl ⟨by kernel_rfl, by kernel_rfl⟩ ?_ | refine N.alt ?_ | refine N.forkT ?_ | refine N.forkF ?_) | fail)
  refine N.go ?_
  refine N.callAll (cRDropO most u lv R L hE hl e.node 0 1 _ (by rfl) (by rfl) (by decide)) fun v ms hR => ?_
  obtain ⟨u1, R1, hE1, hR1, rfl, rfl⟩ := hR
  have hl1 : (dropE L e.node).length ≤ 1000 := Nat.le_trans (List.length_filter_le _ _) hl
  generalize hL1 : dropE L e.node = L1 at hE1 hl1
  repeat' (refine N.go ?_; first | with_reducible (first | refine N.obl (by decide) ?_ | refine N.eq ?_ | refine N.obl rfl ?_ | refine N.obl ⟨by kernel_rfl, by kernel_rfl⟩ ?_ | refine N.alt ?_ | refine N.forkT ?_ | refine N.forkF ?_) | fail)
  refine N.go ?_
  refine N.loopR (α := Nat) (fun k => k ≤ L1.length ∧ ∀ (q : Nat) (x : Ent), q < k → L1[q]? = some x → x.node < e.node) (fun k => L1.length - k) (fun k => [(4, .int .i64 (k : Nat))]) (fun k => []) 0 [(0, 0), (1, 1), (2, 2)] ⟨Nat.zero_le _, fun q x h => absurd h (Nat.not_lt_zero q)⟩ ?_ ?_
  · repeat' (refine N.go ?_; first | with_reducible (first | refine N.obl (by decide) ?_ | refine N.eq ?_ | refine N.obl rfl ?_ | refine N.obl ⟨by kernel_rfl, by kernel_rfl⟩ ?_ | refine N.alt ?_ | refine N.forkT ?_ | refine N.forkF ?_) | exact N.true | refine N.obl (.plain (by rfl)) ?_ | refine N.obl (re_eqn (int_eqn (by rw [i64s ((k : Int) + 1) (by omega) (by omega)]; rfl)) rfl) ?_ | refine N.obl (.one (.ptr rfl)) ?_ | refine N.obl rt_ren ?_ | refine N.obl rv_ren ?_ | refine N.obl (ChunkReLe.same (agg_plain (by rfl) (by rfl))) ?_ | refine N.obl (.one .quo) ?_ | refine N.obl (.one (.any (fun _ _ => rfl) fun _ _ => rfl)) ?_ | fail)
  rintro k ⟨hk, hb⟩
  have hlen := hE1.len
  have hE1' := hE1
  by_cases hkl : k < L1.length
  · obtain ⟨y, he⟩ : ∃ y, L1[k]? = some y := ⟨_, List.getElem?_eq_getElem hkl⟩
    have hlt : ((k : Nat) : Int) < ((uN u1 : Nat) : Int) := by rw [hlen]; omega
    rcases hE1' with ⟨_, h0⟩ | ⟨r, hr, hu, hrk, hrn, hx, hrc⟩
    · rw [h0] at hkl; exact absurd hkl (Nat.not_lt_zero k)
    have hlen : r.n = L1.length := by rw [hu] at hlen; exact hlen
    subst hu
    by_cases hn : y.node < e.node
    · repeat' (refine N.go ?_; first | with_reducible (first | refine N.obl (by decide) ?_ | refine N.eq ?_ | refine N.obl rfl ?_ | refine N.obl ⟨by kernel_rfl, by kernel_rfl⟩ ?_ | refine N.alt ?_ | refine N.forkT ?_ | refine N.forkF ?_) | refine N.op (ok_lenU rfl rfl ⟨_, rfl, _, Tryz.underlying46⟩) ?_ | refine N.forkYes (decide_eq_true hlt) ?_ | refine N.op (ok_idxR (sz := 10) (g := r.o + k * 10) tysOK rfl rfl (fun ρ => by rw [uV_den]; rfl) rfl (by exact rfl) (by omega) (by show ((k : Nat) : Int) < ((r.n : Nat) : Int); omega) (by show r.o + ((k : Nat) : Int).toNat * 10 = _; rw [Int.toNat_natCast])) ?_ | refine N.op (ok_fieldR (g := r.o + k * 10) 0 tysOK rfl rfl (by exact ⟨rfl, rfl⟩) rfl) ?_ | refine N.op (ok_loadV (i := 1) r (v := .int .i64 y.node) (k * 10) tysOK rfl rfl rfl (by rfl) hr (by exact rfl) rfl (by rw [hx]; exact flat_at he 0 _ rfl)) ?_ | refine N.forkYes (decide_eq_true hn) ?_ | fail)
      refine N.go ?_
      refine N.nextR (α := Nat) (k + 1) [(0, 0), (1, 1), (2, 2)] ⟨⟨hkl, fun q x hq hx2 => ?_⟩, by show L1.length - (k + 1) < L1.length - k; omega⟩ ?_
      · by_cases hqk : q = k
        · subst hqk; rw [he] at hx2; obtain rfl := Option.some.inj hx2; exact hn
        · exact hb q x (by omega) hx2
      repeat' (refine N.go ?_; first | with_reducible (first | refine N.obl (by decide) ?_ | refine N.eq ?_ | refine N.obl rfl ?_ | refine N.obl ⟨by kernel_rfl, by kernel_rfl⟩ ?_ | refine N.alt ?_ | refine N.forkT ?_ | refine N.forkF ?_) | exact N.true | refine N.obl (.plain (by rfl)) ?_ | refine N.obl (re_eqn (int_eqn (by rw [i64s ((k : Int) + 1) (by omega) (by omega)]; rfl)) rfl) ?_ | refine N.obl (.one (.ptr rfl)) ?_ | refine N.obl rt_ren ?_ | refine N.obl rv_ren ?_ | refine N.obl (ChunkReLe.same (agg_plain (by rfl) (by rfl))) ?_ | refine N.obl (.one .quo) ?_ | refine N.obl (.one (.any (fun _ _ => rfl) fun _ _ => rfl)) ?_ | fail)
    · repeat' (refine N.go ?_; first | with_reducible (first | refine N.obl (by decide) ?_ | refine N.eq ?_ | refine N.obl rfl ?_ | refine N.obl ⟨by kernel_rfl, by kernel_rfl⟩ ?_ | refine N.alt ?_ | refine N.forkT ?_ | refine N.forkF ?_) | refine N.op (ok_lenU rfl rfl ⟨_, rfl, _, Tryz.underlying46⟩) ?_ | refine N.forkYes (decide_eq_true hlt) ?_ | refine N.op (ok_idxR (sz := 10) (g := r.o + k * 10) tysOK rfl rfl (fun ρ => by rw [uV_den]; rfl) rfl (by exact rfl) (by omega) (by show ((k : Nat) : Int) < ((r.n : Nat) : Int); omega) (by show r.o + ((k : Nat) : Int).toNat * 10 = _; rw [Int.toNat_natCast])) ?_ | refine N.op (ok_fieldR (g := r.o + k * 10) 0 tysOK rfl rfl (by exact ⟨rfl, rfl⟩) rfl) ?_ | refine N.op (ok_loadV (i := 1) r (v := .int .i64 y.node) (k * 10) tysOK rfl rfl rfl (by rfl) hr (by exact rfl) rfl (by rw [hx]; exact flat_at he 0 _ rfl)) ?_ | refine N.forkNo (decide_eq_false hn) ?_ | fail)
      have hcut := cut_at (n := e.node) hk hb fun x hx2 => by rw [he] at hx2; obtain rfl := Option.some.inj hx2; exact hn
      have hf3 : (r.o + (if r.c = k then 0 else k * 10)) = r.o + k * 10 ∨ L1.length ≤ k := by
        by_cases hck : r.c = k
        · exact .inr (by omega)
        · rw [if_neg hck]; exact .inl rfl
      refine N.go ?_
      refine N.plan [0, 1, 2, 3, 4, 5, 6, 8, 9, 11, 12, 13, 14, 15, 16] [(7, []), (10, []), (17, [18, 19, 20])] (by kernel_rfl) ?_
      repeat' (refine N.go ?_; first | with_reducible (first | refine N.obl (by decide) ?_ | refine N.eq ?_ | refine N.obl rfl ?_ | refine N.obl ⟨by kernel_rfl, by kernel_rfl⟩ ?_ | refine N.alt ?_ | refine N.forkT ?_ | refine N.forkF ?_) | refine N.op (ok_sliceE (p := 0) (q := k) r.o rfl rfl rfl ⟨_, _, rfl, rfl⟩ ⟨rfl, by show k ≤ r.c; omega⟩ rfl (by split <;> simp)) ?_ | refine N.op (ok_sliceE (p := k) (q := r.n) (r.o + (if r.c = k then 0 else k * 10)) rfl rfl ⟨_, _, rfl, rfl⟩ rfl rfl ⟨rfl, by show k ≤ r.n; omega⟩ rfl) ?_ | fail)
      refine N.go ?_
      refine appEM none R1 [] (L1.take k) 1 [1] OE.nil rfl ⟨rfl, rfl⟩ (fun _ => rfl) (by rfl) (by simp) (src_take (i := 1) [1] (by simp) rfl (by rfl) hr hx rfl (by omega) hk) (by show 0 + _ ≤ _; rw [List.length_take]; omega) (by show midB _ _ _ _ = Bool.true; kernel_rfl) fun oe1 ho1 => ?_
      repeat' (refine N.go ?_; first | with_reducible (first | refine N.obl (by decide) ?_ | refine N.eq ?_ | refine N.obl rfl ?_ | refine N.obl ⟨by kernel_rfl, by kernel_rfl⟩ ?_ | refine N.alt ?_ | refine N.forkT ?_ | refine N.forkF ?_) | fail)
      refine N.go ?_
      refine appEM oe1 R1 ([] ++ L1.take k) [e] 1 [1, _] ho1 rfl rfl (fun ρ => uV_den _ ρ) (by rfl) (List.mem_cons_self ..) (src_chunk [1, _] (List.mem_cons_of_mem _ (List.mem_singleton.2 rfl)) rfl (by rfl) (rd_all (by rfl) (by rfl)) rfl) (by rw [List.nil_append, List.length_take]; show _ + 1 ≤ _; omega) (by show midB _ _ _ _ = Bool.true; kernel_rfl) fun oe2 ho2 => ?_
      repeat' (refine N.go ?_; first | with_reducible (first | refine N.obl (by decide) ?_ | refine N.eq ?_ | refine N.obl rfl ?_ | refine N.obl ⟨by kernel_rfl, by kernel_rfl⟩ ?_ | refine N.alt ?_ | refine N.forkT ?_ | refine N.forkF ?_) | fail)
      refine N.go ?_
      refine appEM oe2 R1 ([] ++ L1.take k ++ [e]) (L1.drop k) 1 [1] ho2 rfl rfl (fun ρ => uV_den _ ρ) (by rfl) (by simp) (src_drop (i := 1) [1] (by simp) rfl (by rfl) (rowL_sub oe2 R1 r hr) hx hf3 (by omega)) (by rw [List.length_append, List.nil_append, List.length_take, List.length_drop]; show _ + 1 + _ ≤ _; omega) (by show midB _ _ _ _ = Bool.true; kernel_rfl) fun oe3 ho3 => ?_
      repeat' (refine N.go ?_; first | with_reducible (first | refine N.obl (by decide) ?_ | refine N.eq ?_ | refine N.obl rfl ?_ | refine N.obl ⟨by kernel_rfl, by kernel_rfl⟩ ?_ | refine N.alt ?_ | refine N.forkT ?_ | refine N.forkF ?_) | refine N.obl (by show endB _ _ = Bool.true; kernel_rfl) ?_ | fail)
      refine N.go ?_
      refine N.endSame ?_
      refine N.some (oe3, R1) ⟨⟨by
        have : setE L e = [] ++ L1.take k ++ [e] ++ L1.drop k := by unfold setE; rw [hL1, hcut.1, hcut.2]; simp
        rw [this]; exact ho3, hR1⟩, ?_⟩
      repeat' (refine N.go ?_; first | with_reducible (first | refine N.obl (by decide) ?_ | refine N.eq ?_ | refine N.obl rfl ?_ | refine N.obl ⟨by kernel_rfl, by kernel_rfl⟩ ?_ | refine N.alt ?_ | refine N.forkT ?_ | refine N.forkF ?_) | refine N.obl (.plain rfl) ?_ | refine N.obl ⟨⟨_, rfl, fun h => h, Nat.le_refl _, rt_re⟩, ⟨_, rfl, fun h => h, Nat.le_refl _, rv_re⟩, trivial⟩ ?_ | refine N.obl trivial ?_ | refine N.obl ⟨⟨.inl rfl, .inr ⟨_, rfl, rfl⟩, trivial⟩, trivial⟩ ?_ | exact N.true | fail)
  · have hnl : ¬ ((k : Nat) : Int) < ((uN u1 : Nat) : Int) := by rw [hlen]; omega
    repeat' (refine N.go ?_; first | with_reducible (first | refine N.obl (by decide) ?_ | refine N.eq ?_ | refine N.obl rfl ?_ | refine N.obl ⟨by kernel_rfl, by kernel_rfl⟩ ?_ | refine N.alt ?_ | refine N.forkT ?_ | refine N.forkF ?_) | refine N.op (ok_lenU rfl rfl ⟨_, rfl, _, Tryz.underlying46⟩) ?_ | refine N.forkNo (decide_eq_false hnl) ?_ | fail)
    have hcut := cut_at (n := e.node) hk hb fun x hx2 => by have := (List.getElem?_eq_some_iff.1 hx2).1; omega
    rcases hE1' with ⟨hu, h0⟩ | ⟨r, hr, hu, hrk, hrn, hx, hrc⟩
    · subst hu
      have hk0 : L1.take k = [] := by rw [h0]; simp
      have hk1 : L1.drop k = [] := by rw [h0]; simp
      have hkz : k = 0 := by rw [h0] at hk; simpa using hk
      refine N.go ?_
      refine N.plan [0, 1, 2, 3, 4, 5, 6, 8, 9, 11, 12, 13, 14, 15, 16] [(7, []), (10, []), (17, [18, 19, 20])] (by kernel_rfl) ?_
      repeat' (refine N.go ?_; first | with_reducible (first | refine N.obl (by decide) ?_ | refine N.eq ?_ | refine N.obl rfl ?_ | refine N.obl ⟨by kernel_rfl, by kernel_rfl⟩ ?_ | refine N.alt ?_ | refine N.forkT ?_ | refine N.forkF ?_) | refine N.op (ok_sliceEN rfl rfl rfl ⟨_, _, rfl, rfl⟩ ⟨by omega, Nat.le_refl _⟩ rfl) ?_ | refine N.op (ok_sliceEN rfl rfl ⟨_, _, rfl, rfl⟩ rfl rfl ⟨by omega, Nat.le_refl _⟩) ?_ | fail)
      refine N.go ?_
      refine appEM none R1 [] (L1.take k) 1 [1] OE.nil rfl ⟨rfl, rfl⟩ (fun _ => rfl) (by rfl) (by simp) (by rw [hk0]; exact src_none [1] rfl) (by show 0 + _ ≤ _; rw [List.length_take]; omega) (by show midB _ _ _ _ = Bool.true; kernel_rfl) fun oe1 ho1 => ?_
      repeat' (refine N.go ?_; first | with_reducible (first | refine N.obl (by decide) ?_ | refine N.eq ?_ | refine N.obl rfl ?_ | refine N.obl ⟨by kernel_rfl, by kernel_rfl⟩ ?_ | refine N.alt ?_ | refine N.forkT ?_ | refine N.forkF ?_) | fail)
      refine N.go ?_
      refine appEM oe1 R1 ([] ++ L1.take k) [e] 1 [1, _] ho1 rfl rfl (fun ρ => uV_den _ ρ) (by rfl) (List.mem_cons_self ..) (src_chunk [1, _] (List.mem_cons_of_mem _ (List.mem_singleton.2 rfl)) rfl (by rfl) (rd_all (by rfl) (by rfl)) rfl) (by rw [List.nil_append, List.length_take]; show _ + 1 ≤ _; omega) (by show midB _ _ _ _ = Bool.true; kernel_rfl) fun oe2 ho2 => ?_
      repeat' (refine N.go ?_; first | with_reducible (first | refine N.obl (by decide) ?_ | refine N.eq ?_ | refine N.obl rfl ?_ | refine N.obl ⟨by kernel_rfl, by kernel_rfl⟩ ?_ | refine N.alt ?_ | refine N.forkT ?_ | refine N.forkF ?_) | fail)
      refine N.go ?_
      refine appEM oe2 R1 ([] ++ L1.take k ++ [e]) (L1.drop k) 1 [1] ho2 rfl rfl (fun ρ => uV_den _ ρ) (by rfl) (by simp) (by rw [hk1]; exact src_none [1] rfl) (by rw [List.length_append, List.nil_append, List.length_take, List.length_drop]; show _ + 1 + _ ≤ _; omega) (by show midB _ _ _ _ = Bool.true; kernel_rfl) fun oe3 ho3 => ?_
      repeat' (refine N.go ?_; first | with_reducible (first | refine N.obl (by decide) ?_ | refine N.eq ?_ | refine N.obl rfl ?_ | refine N.obl ⟨by kernel_rfl, by kernel_rfl⟩ ?_ | refine N.alt ?_ | refine N.forkT ?_ | refine N.forkF ?_) | refine N.obl (by show endB _ _ = Bool.true; kernel_rfl) ?_ | fail)
      refine N.go ?_
      refine N.endSame ?_
      refine N.some (oe3, R1) ⟨⟨by
        have : setE L e = [] ++ L1.take k ++ [e] ++ L1.drop k := by unfold setE; rw [hL1, hcut.1, hcut.2]; simp
        rw [this]; exact ho3, hR1⟩, ?_⟩
      repeat' (refine N.go ?_; first | with_reducible (first | refine N.obl (by decide) ?_ | refine N.eq ?_ | refine N.obl rfl ?_ | refine N.obl ⟨by kernel_rfl, by kernel_rfl⟩ ?_ | refine N.alt ?_ | refine N.forkT ?_ | refine N.forkF ?_) | refine N.obl (.plain rfl) ?_ | refine N.obl ⟨⟨_, rfl, fun h => h, Nat.le_refl _, rt_re⟩, ⟨_, rfl, fun h => h, Nat.le_refl _, rv_re⟩, trivial⟩ ?_ | refine N.obl trivial ?_ | refine N.obl ⟨⟨.inl rfl, .inr ⟨_, rfl, rfl⟩, trivial⟩, trivial⟩ ?_ | exact N.true | fail)
    · subst hu
      have hlen : r.n = L1.length := hlen
      have hf3 : (r.o + (if r.c = k then 0 else k * 10)) = r.o + k * 10 ∨ L1.length ≤ k := by
        by_cases hck : r.c = k
        · exact .inr (by omega)
        · rw [if_neg hck]; exact .inl rfl
      refine N.go ?_
      refine N.plan [0, 1, 2, 3, 4, 5, 6, 8, 9, 11, 12, 13, 14, 15, 16] [(7, []), (10, []), (17, [18, 19, 20])] (by kernel_rfl) ?_
      repeat' (refine N.go ?_; first | with_reducible (first | refine N.obl (by decide) ?_ | refine N.eq ?_ | refine N.obl rfl ?_ | refine N.obl ⟨by kernel_rfl, by kernel_rfl⟩ ?_ | refine N.alt ?_ | refine N.forkT ?_ | refine N.forkF ?_) | refine N.op (ok_sliceE (p := 0) (q := k) r.o rfl rfl rfl ⟨_, _, rfl, rfl⟩ ⟨rfl, by show k ≤ r.c; omega⟩ rfl (by split <;> simp)) ?_ | refine N.op (ok_sliceE (p := k) (q := r.n) (r.o + (if r.c = k then 0 else k * 10)) rfl rfl ⟨_, _, rfl, rfl⟩ rfl rfl ⟨rfl, by show k ≤ r.n; omega⟩ rfl) ?_ | fail)
      refine N.go ?_
      refine appEM none R1 [] (L1.take k) 1 [1] OE.nil rfl ⟨rfl, rfl⟩ (fun _ => rfl) (by rfl) (by simp) (src_take (i := 1) [1] (by simp) rfl (by rfl) hr hx rfl (by omega) hk) (by show 0 + _ ≤ _; rw [List.length_take]; omega) (by show midB _ _ _ _ = Bool.true; kernel_rfl) fun oe1 ho1 => ?_
      repeat' (refine N.go ?_; first | with_reducible (first | refine N.obl (by decide) ?_ | refine N.eq ?_ | refine N.obl rfl ?_ | refine N.obl ⟨by kernel_rfl, by kernel_rfl⟩ ?_ | refine N.alt ?_ | refine N.forkT ?_ | refine N.forkF ?_) | fail)
      refine N.go ?_
      refine appEM oe1 R1 ([] ++ L1.take k) [e] 1 [1, _] ho1 rfl rfl (fun ρ => uV_den _ ρ) (by rfl) (List.mem_cons_self ..) (src_chunk [1, _] (List.mem_cons_of_mem _ (List.mem_singleton.2 rfl)) rfl (by rfl) (rd_all (by rfl) (by rfl)) rfl) (by rw [List.nil_append, List.length_take]; show _ + 1 ≤ _; omega) (by show midB _ _ _ _ = Bool.true; kernel_rfl) fun oe2 ho2 => ?_
      repeat' (refine N.go ?_; first | with_reducible (first | refine N.obl (by decide) ?_ | refine N.eq ?_ | refine N.obl rfl ?_ | refine N.obl ⟨by kernel_rfl, by kernel_rfl⟩ ?_ | refine N.alt ?_ | refine N.forkT ?_ | refine N.forkF ?_) | fail)
      refine N.go ?_
      refine appEM oe2 R1 ([] ++ L1.take k ++ [e]) (L1.drop k) 1 [1] ho2 rfl rfl (fun ρ => uV_den _ ρ) (by rfl) (by simp) (src_drop (i := 1) [1] (by simp) rfl (by rfl) (rowL_sub oe2 R1 r hr) hx hf3 (by omega)) (by rw [List.length_append, List.nil_append, List.length_take, List.length_drop]; show _ + 1 + _ ≤ _; omega) (by show midB _ _ _ _ = Bool.true; kernel_rfl) fun oe3 ho3 => ?_
      repeat' (refine N.go ?_; first | with_reducible (first | refine N.obl (by decide) ?_ | refine N.eq ?_ | refine N.obl rfl ?_ | refine N.obl ⟨by kernel_rfl, by kernel_rfl⟩ ?_ | refine N.alt ?_ | refine N.forkT ?_ | refine N.forkF ?_) | refine N.obl (by show endB _ _ = Bool.true; kernel_rfl) ?_ | fail)
      refine N.go ?_
      refine N.endSame ?_
      refine N.some (oe3, R1) ⟨⟨by
        have : setE L e = [] ++ L1.take k ++ [e] ++ L1.drop k := by unfold setE; rw [hL1, hcut.1, hcut.2]; simp
        rw [this]; exact ho3, hR1⟩, ?_⟩
      repeat' (refine N.go ?_; first | with_reducible (first | refine N.obl (by decide) ?_ | refine N.eq ?_ | refine N.obl rfl ?_ | refine N.obl ⟨by kernel_rfl, by kernel_rfl⟩ ?_ | refine N.alt ?_ | refine N.forkT ?_ | refine N.forkF ?_) | refine N.obl (.plain rfl) ?_ | refine N.obl ⟨⟨_, rfl, fun h => h, Nat.le_refl _, rt_re⟩, ⟨_, rfl, fun h => h, Nat.le_refl _, rv_re⟩, trivial⟩ ?_ | refine N.obl trivial ?_ | refine N.obl ⟨⟨.inl rfl, .inr ⟨_, rfl, rfl⟩, trivial⟩, trivial⟩ ?_ | exact N.true | fail)
theorem cRSetO [ZW] (most : Int) (u : Option Sl) (lv : Nat → RLv) (R : List Rw) (L : List Ent) (hE : RowE R u L) (hl : L.length ≤ 1000) (e : Ent) (i g : Nat) (h : List (Option Chunk)) (hi : h[i]? = some (some (rtC most u lv))) (hg : h[g]? = some (some (rvC R))) (hig : i ≠ g) : CallAll Tryz.prog 31 [.pointer (some ⟨i, 0, some 0⟩), entV e] h (RtOut most lv R (setE L e) i g) :=
  CallAll.to (cRSet most u lv R L hE hl e i g h hi hg hig) fun v ms ⟨κ, hκ, hv, hms⟩ => ⟨_, _, hκ.1.row κ.2, fun r hr => rowL_sub κ.1 κ.2 r (hκ.2 r hr), hv, hms⟩
end Go.Proofs.YtimccfnlcnlffaaGreat


namespace Go.Proofs.YtimccfnlcnlffaaGreat
open Go Go.RowKit Sx
theorem rser_x (s : Int)  (w : World) : Calls Tryz.prog 26 #[.int .i64 s] w fun e w' => e = .returned (.bool (decide (serOK s))) ∧ Below w.heap.size w w' := by
  refine calls_pure (G := tys) w tysOK mixed Tryz.func26 (by rfl) (by first | rfl | (simp only [List.all_cons, List.all_nil, plain_wz, plain_lim, plain_wi]; rfl)) (by first | exact plain3_wz _ | exact plain3_wi _ _ _ | rfl | (simp only [plain3, List.all_cons, List.all_nil, plain_wz, plain_lim, plain_wi]; rfl)) ?_
  repeat' (refine N.go ?_; first | with_reducible (first | refine N.obl (by decide) ?_ | refine N.eq ?_ | refine N.obl rfl ?_ | refine N.obl ⟨by kernel_rfl, by kernel_rfl⟩ ?_ | refine N.alt ?_ | refine N.forkT ?_ | refine N.forkF ?_) | with_reducible refine N.fork (fun hb => ?_) (fun hb => ?_) | fail)
  all_goals
    refine boolD ?_
    simp only [decide_eq_true_eq, decide_eq_false_iff_not, Bool.false_eq_true, false_iff, true_iff, iff_true, iff_false, reduceCtorEq, not_true_eq_false, not_false_eq_true, ge_iff_le, gt_iff_lt] at *
    omega
theorem cRSer (s : Int) (h : List (Option Chunk)) : CallOK Tryz.prog 26 [.int .i64 s] h (.bool (decide (serOK s))) [] [] := call_pure rfl rfl (Tryz.call26 _) (rser_x s)
theorem rdiff_x (a b : Int)  (w : World) : Calls Tryz.prog 46 #[.int .i64 a, .int .i64 b] w fun e w' => e = .returned (.int .i64 (serD a b)) ∧ Below w.heap.size w w' := by
  refine calls_pure (G := tys) w tysOK mixed Tryz.func46 (by rfl) (by first | rfl | (simp only [List.all_cons, List.all_nil, plain_wz, plain_lim, plain_wi]; rfl)) (by first | exact plain3_wz _ | exact plain3_wi _ _ _ | rfl | (simp only [plain3, List.all_cons, List.all_nil, plain_wz, plain_lim, plain_wi]; rfl)) ?_
  repeat' (refine N.go ?_; first | with_reducible (first | refine N.obl (by decide) ?_ | refine N.eq ?_ | refine N.obl rfl ?_ | refine N.obl ⟨by kernel_rfl, by kernel_rfl⟩ ?_ | refine N.alt ?_ | refine N.forkT ?_ | refine N.forkF ?_) | refine N.call (cRSer _ _) ?_ | with_reducible refine N.fork (fun hb => ?_) (fun hb => ?_) | fail)
  all_goals
    refine congrArg _ ?_
    unfold serD
    simp only [Bool.not_eq_eq_eq_not, Bool.not_true, Bool.not_false, decide_eq_true_eq, decide_eq_false_iff_not] at *
    first
      | (rw [if_neg (by omega)]; first | done | fail)
      | (rw [if_pos (by omega)]
         have e1 := i64s (b - a) (by omega) (by omega)
         have e2 := i64s (b - a + 65536) (by omega) (by omega)
         have e3 : (b - a + 65536).tmod 65536 = (b - a) % 65536 := by rw [Int.tmod_eq_emod_of_nonneg (by omega)]; omega
         have e4 : (IntKind.i64.wrap (IntKind.i64.wrap (b - a) + 65536)).tmod 65536 = (b - a) % 65536 := by rw [e1, e2, e3]
         generalize (IntKind.i64.wrap (IntKind.i64.wrap (b - a) + 65536)).tmod 65536 = z at *
         subst e4
         split <;> first
           | omega
           | (rw [IntKind.wrap_i64]; omega))
theorem cRDiff (a b : Int) (h : List (Option Chunk)) : CallOK Tryz.prog 46 [.int .i64 a, .int .i64 b] h (.int .i64 (serD a b)) [] [] := call_pure rfl rfl (Tryz.call46 _) (rdiff_x a b)
theorem rless_x (a b : Int)  (w : World) : Calls Tryz.prog 28 #[.int .i64 a, .int .i64 b] w fun e w' => e = .returned (.bool (decide (lessP a b))) ∧ Below w.heap.size w w' := by
  refine calls_pure (G := tys) w tysOK mixed Tryz.func28 (by rfl) (by first | rfl | (simp only [List.all_cons, List.all_nil, plain_wz, plain_lim, plain_wi]; rfl)) (by first | exact plain3_wz _ | exact plain3_wi _ _ _ | rfl | (simp only [plain3, List.all_cons, List.all_nil, plain_wz, plain_lim, plain_wi]; rfl)) ?_
  repeat' (refine N.go ?_; first | with_reducible (first | refine N.obl (by decide) ?_ | refine N.eq ?_ | refine N.obl rfl ?_ | refine N.obl ⟨by kernel_rfl, by kernel_rfl⟩ ?_ | refine N.alt ?_ | refine N.forkT ?_ | refine N.forkF ?_) | refine N.call (cRDiff _ _ _) ?_ | with_reducible refine N.fork (fun hb => ?_) (fun hb => ?_) | fail)
  all_goals
    refine boolD ?_
    simp only [decide_eq_true_eq, decide_eq_false_iff_not, Bool.false_eq_true, false_iff, true_iff, iff_true, iff_false, reduceCtorEq, not_true_eq_false, not_false_eq_true, ge_iff_le, gt_iff_lt] at *
    try simp only [lessP] at *
    omega
theorem cRLess (a b : Int) (h : List (Option Chunk)) : CallOK Tryz.prog 28 [.int .i64 a, .int .i64 b] h (.bool (decide (lessP a b))) [] [] := call_pure rfl rfl (Tryz.call28 _) (rless_x a b)
abbrev fC (x : RLv) : Chunk := ⟨true, 5, [(0, 5, lvV x)]⟩
theorem lt5 {p : Nat → Prop} (h0 : p 0) (h1 : p 1) (h2 : p 2) (h3 : p 3) (h4 : p 4) : ∀ j, j < 5 → p j := fun j hj => by
  match j, hj with
  | 0, _ => exact h0
  | 1, _ => exact h1
  | 2, _ => exact h2
  | 3, _ => exact h3
  | 4, _ => exact h4
theorem f_re {ix : List (Nat × Nat)} {x : RLv} : ∀ j, j < 5 → Re1 ix ((fC x).f j) ((fC x).f j) := lt5 (.plain rfl) (.plain rfl) (.plain rfl) .quo (.plain rfl)
theorem f_ren {ix : List (Nat × Nat)} {x : RLv} : ChunkReLe ix (fC x) (fC x) := ⟨id, Nat.le_refl _, f_re⟩
theorem cWHas [ZW] (x : RLv) (R : List Rw) (l : List Int) (hI : RowI R x.wu l) (hl : l.length ≤ 1000) (q : Int) (i g : Nat) (h : List (Option Chunk)) (hi : h[i]? = some (some (fC x))) (hg : h[g]? = some (some (rvC R))) (hig : i ≠ g) :
    CallOK Tryz.prog 47 [.pointer (some ⟨i, 3, some 0⟩), .int .i64 q] h (.bool (decide (q ∈ l))) [(i, fC x), (g, rvC R)] [] := by
  refine call_res (G := tys) (fun _ : Unit => True) (fun _ => _) [⟨i, fC x, fC x, fC x⟩, ⟨g, rvC R, rvC R, rvC R⟩] [] [.pointer (some ⟨0, 3, some 0⟩), .int .i64 q] tysOK mixed Tryz.func47 (by rfl) (Tryz.call47) ⟨hi, hg, trivial⟩ ⟨⟨fun h => ⟨rfl, Nat.le_refl _⟩, Nat.le_refl _, f_re⟩, ⟨fun h => ⟨rfl, Nat.le_refl _⟩, Nat.le_refl _, rv_re⟩, trivial⟩ (by simp [Apart, hig]) ⟨.inl rfl, .inr ⟨rfl, rfl⟩, trivial⟩ trivial ⟨.ptr rfl, .plain rfl, trivial⟩ Opens.same ?_
  rintro ⟨⟩ -
  have hlen := hI.len
  repeat' (refine N.go ?_; first | with_reducible (first | refine N.obl (by decide) ?_ | refine N.eq ?_ | refine N.obl rfl ?_ | refine N.obl ⟨by kernel_rfl, by kernel_rfl⟩ ?_ | refine N.alt ?_ | refine N.forkT ?_ | refine N.forkF ?_) | refine N.op (ok_lenU rfl rfl ⟨_, rfl, _, Tryz.underlying39⟩) ?_ | fail)
  refine N.go ?_
  refine N.loopR (α := Nat) (fun k => k ≤ l.length ∧ ∀ (p : Nat) (s : Int), p < k → l[p]? = some s → s ≠ q) (fun k => l.length - k) (fun k => [(12, .int .i64 (k : Nat))]) (fun k => []) 0 [(0, 0), (1, 1)] ⟨Nat.zero_le _, fun p s h => absurd h (Nat.not_lt_zero p)⟩ ?_ ?_
  · repeat' (refine N.go ?_; first | with_reducible (first | refine N.obl (by decide) ?_ | refine N.eq ?_ | refine N.obl rfl ?_ | refine N.obl ⟨by kernel_rfl, by kernel_rfl⟩ ?_ | refine N.alt ?_ | refine N.forkT ?_ | refine N.forkF ?_) | exact N.true | refine N.obl (.plain (by rfl)) ?_ | refine N.obl (re_eqn (int_eqn (by rw [i64s ((k : Int) + 1) (by omega) (by omega)]; rfl)) rfl) ?_ | refine N.obl (.one (.ptr rfl)) ?_ | refine N.obl f_ren ?_ | refine N.obl rv_ren ?_ | refine N.obl (.one .quo) ?_ | fail)
  rintro k ⟨hk, hb⟩
  by_cases hkl : k < l.length
  · obtain ⟨s, he⟩ : ∃ s, l[k]? = some s := ⟨_, List.getElem?_eq_getElem hkl⟩
    have hlt : ((k : Nat) : Int) < ((uN x.wu : Nat) : Int) := by rw [hlen]; omega
    rcases hI with ⟨_, h0⟩ | ⟨r, hr, hu, hrk, hrn, hx⟩
    · rw [h0] at hkl; exact absurd hkl (Nat.not_lt_zero k)
    repeat' (refine N.go ?_; first | with_reducible (first | refine N.obl (by decide) ?_ | refine N.eq ?_ | refine N.obl rfl ?_ | refine N.obl ⟨by kernel_rfl, by kernel_rfl⟩ ?_ | refine N.alt ?_ | refine N.forkT ?_ | refine N.forkF ?_) | refine N.forkYes (decide_eq_true hlt) ?_ | refine N.op (ok_idxR (sz := 1) (g := r.o + k) tysOK rfl rfl (fun ρ => by rw [uV_den, hu]; rfl) rfl (by exact rfl) (by omega) (by show ((k : Nat) : Int) < ((r.n : Nat) : Int); omega) (by show r.o + ((k : Nat) : Int).toNat * 1 = _; rw [Int.toNat_natCast, Nat.mul_one])) ?_ | refine N.op (ok_loadV (i := 1) r (v := .int .i64 s) k tysOK rfl rfl rfl (by rfl) hr (by exact rfl) rfl (by rw [hx, List.getElem?_map, he]; rfl)) ?_ | fail)
    refine N.go ?_
    by_cases hn : s = q
    · have hm : q ∈ l := by rw [← hn]; exact List.mem_of_getElem? he
      refine N.forkYes (by simpa using hn) ?_
      rw [decide_eq_true hm]
      repeat' (refine N.go ?_; first | with_reducible (first | refine N.obl (by decide) ?_ | refine N.eq ?_ | refine N.obl rfl ?_ | refine N.obl ⟨by kernel_rfl, by kernel_rfl⟩ ?_ | refine N.alt ?_ | refine N.forkT ?_ | refine N.forkF ?_) | refine N.endSame ?_ | refine N.obl (.plain rfl) ?_ | refine N.obl ⟨⟨_, rfl, fun h => h, Nat.le_refl _, f_re⟩, ⟨_, rfl, fun h => h, Nat.le_refl _, rv_re⟩, trivial⟩ ?_ | refine N.obl trivial ?_ | refine N.obl ⟨⟨.inl rfl, .inr ⟨_, rfl, rfl⟩, trivial⟩, trivial⟩ ?_ | exact N.true | fail)
    · refine N.forkNo (by simpa using hn) ?_
      repeat' (refine N.go ?_; first | with_reducible (first | refine N.obl (by decide) ?_ | refine N.eq ?_ | refine N.obl rfl ?_ | refine N.obl ⟨by kernel_rfl, by kernel_rfl⟩ ?_ | refine N.alt ?_ | refine N.forkT ?_ | refine N.forkF ?_) | fail)
      refine N.go ?_
      refine N.nextR (α := Nat) (k + 1) [(0, 0), (1, 1)] ⟨⟨hkl, fun p z hp hz => ?_⟩, by show l.length - (k + 1) < l.length - k; omega⟩ ?_
      · by_cases hpk : p = k
        · subst hpk; rw [he] at hz; obtain rfl := Option.some.inj hz; exact hn
        · exact hb p z (by omega) hz
      repeat' (refine N.go ?_; first | with_reducible (first | refine N.obl (by decide) ?_ | refine N.eq ?_ | refine N.obl rfl ?_ | refine N.obl ⟨by kernel_rfl, by kernel_rfl⟩ ?_ | refine N.alt ?_ | refine N.forkT ?_ | refine N.forkF ?_) | exact N.true | refine N.obl (.plain (by rfl)) ?_ | refine N.obl (re_eqn (int_eqn (by rw [i64s ((k : Int) + 1) (by omega) (by omega)]; rfl)) rfl) ?_ | refine N.obl (.one (.ptr rfl)) ?_ | refine N.obl f_ren ?_ | refine N.obl rv_ren ?_ | refine N.obl (.one .quo) ?_ | fail)
  · have hnl : ¬ ((k : Nat) : Int) < ((uN x.wu : Nat) : Int) := by rw [hlen]; omega
    have hm : ¬ q ∈ l := fun hm => by
      obtain ⟨p, hp⟩ := List.getElem?_of_mem hm
      exact hb p q (by have := (List.getElem?_eq_some_iff.1 hp).1; omega) hp rfl
    rw [decide_eq_false hm]
    repeat' (refine N.go ?_; first | with_reducible (first | refine N.obl (by decide) ?_ | refine N.eq ?_ | refine N.obl rfl ?_ | refine N.obl ⟨by kernel_rfl, by kernel_rfl⟩ ?_ | refine N.alt ?_ | refine N.forkT ?_ | refine N.forkF ?_) | refine N.forkNo (decide_eq_false hnl) ?_ | refine N.endSame ?_ | refine N.obl (.plain rfl) ?_ | refine N.obl ⟨⟨_, rfl, fun h => h, Nat.le_refl _, f_re⟩, ⟨_, rfl, fun h => h, Nat.le_refl _, rv_re⟩, trivial⟩ ?_ | refine N.obl trivial ?_ | refine N.obl ⟨⟨.inl rfl, .inr ⟨_, rfl, rfl⟩, trivial⟩, trivial⟩ ?_ | exact N.true | fail)
structure OI (oe : Option Rw) (M : List Int) : Prop where
  n : rowN oe = M.length
  xs : rowXs oe = M.map (Value.int .i64)
  ty : ∀ r, oe = some r → r.e = 3 ∧ r.k = 1 ∧ r.w = true
theorem OI.nil : OI none [] := ⟨rfl, rfl, (fun r h => by cases h)⟩
theorem OI.row {oe : Option Rw} {M : List Int} (h : OI oe M) (R : List Rw) : RowI (rowL oe R) (rowO oe) M := by
  cases oe with
  | none => exact .inl ⟨rfl, List.length_eq_zero_iff.1 h.n.symm⟩
  | some r => exact .inr ⟨r, rowL_in r R, rfl, (h.ty r rfl).2.1, h.n, h.xs⟩
theorem OI.grew {oe oe' : Option Rw} {M M2 : List Int} (h : OI oe M) (hg : Grew oe oe' 3 1 M2.length (M2.map (Value.int .i64))) : OI oe' (M ++ M2) :=
  ⟨by rw [hg.n, h.n, List.length_append], by rw [hg.xs, h.xs, List.map_append], hg.ty⟩
theorem int_info : ∃ ei z, Tryz.prog.info? 3 = some ei ∧ ei.size = 1 ∧ ei.bytes ≤ 1000 ∧ ei.zero = some z ∧ z.cells.size = 1 := by
  obtain ⟨ei, d, h1, h2, h3⟩ := lookT_out tysOK (t := 3) (K := fun ei _ => ei.size = 1 ∧ ei.bytes ≤ 1000 ∧ ∃ z, ei.zero = some z ∧ z.cells.size = 1) ⟨rfl, by decide, _, rfl, rfl⟩
  obtain ⟨h3, h4, z, h5, h6⟩ := h3
  exact ⟨ei, z, h1, h3, h4, h5, h6⟩
theorem ints_one (M : List Int) : ∀ u ∈ M.map (Value.int .i64), u.oneCell' = true := fun u hu => by
  obtain ⟨e, _, rfl⟩ := List.mem_map.1 hu
  rfl
section
variable {o : Oper} {st : St}
theorem appI [ZW] {x y : Operand} {p : Value} {own : Bool} {n : Nat} {ps : List (Nat × Nat × Value)} {K : Value → List (Nat × Chunk) → Prop} (oe : Option Rw) (R : List Rw) (M M2 : List Int) (i : Nat) (hs : List Nat) (hoe : OI oe M)
    (ho : o.op = .call ⟨.builtin .append, #[x, y], #[39, 39]⟩) (hx : EvTo x st p) (hp : ∀ ρ, den ρ p = uR (rowO oe)) (hi : st.h[i]? = some (some (@Chunk.mk (rvX (rowL oe R)) own n ps)))
    (hsrc : SrcN y st hs M2.length 1 (M2.map (Value.int .i64))) (hl : M.length + M2.length ≤ 100000) (hK : ∀ oe', OI oe' (M ++ M2) → K (uV (rowO oe')) [(i, @Chunk.mk (rvX (rowL oe' R)) own n ps)]) : N (EffAll Tryz.prog o st K) := by
  obtain ⟨ei, z, h1, h2, h3, h4, h5⟩ := int_info
  have hb : (rowN oe + M2.length) * ei.bytes ≤ 100000 * 1000 := Nat.mul_le_mul (by rw [hoe.n]; exact hl) h3
  exact app_now (e := 3) (ei := ei) (z := z) oe R i M2.length (M2.map (Value.int .i64)) ho hx hp Tryz.underlying39 h1 h4 (by rw [h5, h2]) (by rw [h2]; decide) hi (fun r hr => by rw [h2]; exact hoe.ty r hr) hs (by rw [h2]; exact hsrc) (ints_one M2) (by rw [hoe.n]; omega) (by omega) fun oe' hg => hK oe' (hoe.grew (by rw [h2] at hg; exact hg))
theorem src_ints [ZW] {y : Operand} {i : Nat} {R : List Rw} {u : Option Sl} {l : List Int} (hs : List Nat) (his : i ∈ hs) (hy : EvTo y st (uV u)) (hi : st.h[i]? = some (some (rvC R))) (hI : RowI R u l) : SrcN y st hs l.length 1 (l.map (Value.int .i64)) := by
  rcases hI with ⟨rfl, rfl⟩ | ⟨r, hr, rfl, hk, hn, hx⟩
  · exact src_none hs hy
  · have := src_row (p := 0) (m := r.n) (k := 1) hs his (Nat.add_zero _).symm hy hi hr (by rw [hx, List.length_map, hn]; omega)
    rw [List.drop_zero, hx, List.take_of_length_le (by rw [List.length_map, hn]; omega), hn] at this
    exact this
end
theorem lit_ren1 {ix : List (Nat × Nat)} {n : Int} : ChunkReLe ix (rl [n] 1) ⟨true, 1, [(0, 1, .agg ⟨[.int .i64 n]⟩)]⟩ := ⟨id, Nat.le_refl _, fun j hj => by
  have hj : j < 1 := hj
  obtain rfl : j = 0 := by omega
  exact .plain rfl⟩
theorem cRWHear [ZW] (x : RLv) (R : List Rw) (l : List Int) (hI : RowI R x.wu l) (hl : l.length ≤ 1000) (q : Int) (hq : serOK q) (c : Chunk) (hc : c.own = true ∧ c.n = 5 ∧ c.x = Ext.none) (hcr : ∀ ix, ∀ j, j < 5 → Re1 ix (c.f j) ((fC x).f j)) (i g : Nat) (h : List (Option Chunk)) (hi : h[i]? = some (some c)) (hg : h[g]? = some (some (rvC R))) (hig : i ≠ g) :
    CallAll Tryz.prog 29 [.pointer (some ⟨i, 3, some 0⟩), .int .i64 q] h (fun v ms => ∃ κ : Option Sl × List Rw, (RowI κ.2 κ.1 (rwHear l x.last q).2.1 ∧ ∀ r ∈ R, r ∈ κ.2) ∧ v = .int .i64 (rwHear l x.last q).1 ∧ ms = [(i, fC { x with wu := κ.1, last := (rwHear l x.last q).2.2 }), (g, rvC κ.2)]) := by
  refine CallAll.to (call_resall (G := tys) (h := h) (vs := [.pointer (some ⟨i, 3, some 0⟩), .int .i64 q]) (fun _ : Unit => True) (fun _ => _) (α := Option Sl × List Rw) (fun κ => RowI κ.2 κ.1 (rwHear l x.last q).2.1 ∧ ∀ r ∈ R, r ∈ κ.2) (fun κ => .int .i64 (rwHear l x.last q).1) [⟨i, c, fC x, fC x⟩, ⟨g, rvC R, rvC R, rvC R⟩] (fun κ => [fC { x with wu := κ.1, last := (rwHear l x.last q).2.2 }, rvC κ.2]) (fun κ => []) [.pointer (some ⟨0, 3, some 0⟩), .int .i64 q] tysOK mixed Tryz.func29 (by rfl) (Tryz.call29) ⟨hi, hg, trivial⟩ ⟨⟨fun h => ⟨hc.1, Nat.le_of_eq hc.2.1.symm⟩, Nat.le_of_eq hc.2.1.symm, hcr _⟩, ⟨fun h => ⟨rfl, Nat.le_refl _⟩, Nat.le_refl _, rv_re⟩, trivial⟩ (fun κ _ => ⟨⟨fun h => ⟨hc.1, Nat.le_of_eq hc.2.1.symm⟩, Nat.le_of_eq hc.2.1.symm, hcr _⟩, ⟨fun h => ⟨rfl, Nat.le_refl _⟩, Nat.le_refl _, rv_re⟩, trivial⟩) (by simp [Apart, hig]) ⟨.inl rfl, .inr ⟨rfl, rfl⟩, trivial⟩ (fun κ _ => trivial) ⟨.ptr rfl, .plain rfl, trivial⟩ Opens.same ?_) ?_
  rotate_left
  · rintro v ms ⟨κ, hκ, rfl, rfl⟩
    exact ⟨κ, hκ, rfl, rfl⟩
  rintro ⟨⟩ -
  have hlen := hI.len
  by_cases h0 : l = []
  · have hr : rwHear l x.last q = (0, q :: l.filter (fun s => decide (1 ≤ serD s q ∧ serD s q ≤ 63)), q) := by unfold rwHear; rw [if_pos h0, h0]; rfl
    rw [hr]
    have hpos : ¬ ((uN x.wu : Nat) : Int) > 0 := by rw [hlen, h0]; simp
    repeat' (refine N.go ?_; first | with_reducible (first | refine N.obl (by decide) ?_ | refine N.eq ?_ | refine N.obl rfl ?_ | refine N.obl ⟨by kernel_rfl, by kernel_rfl⟩ ?_ | refine N.alt ?_ | refine N.forkT ?_ | refine N.forkF ?_) | refine N.call (cRSer q _) ?_ | refine N.forkNo (by rw [decide_eq_true hq]; rfl) ?_ | refine N.op (ok_lenU rfl rfl ⟨_, rfl, _, Tryz.underlying39⟩) ?_ | refine N.forkNo (decide_eq_false hpos) ?_ | fail)
    refine N.go ?_
    refine N_loopD 288230376151711744 ?_ ?_
    · repeat' (refine N.go ?_; first | with_reducible (first | refine N.obl (by decide) ?_ | refine N.eq ?_ | refine N.obl rfl ?_ | refine N.obl ⟨by kernel_rfl, by kernel_rfl⟩ ?_ | refine N.alt ?_ | refine N.forkT ?_ | refine N.forkF ?_) | exact N.true | refine N.obl (ChunkLe.refl _) ?_ | fail)
    refine N.go ?_
    refine N.loopR (α := Nat × Nat) (fun y => y.1 ≤ l.length ∧ (q :: (l.take y.1).filter (fun s => decide (1 ≤ serD s q ∧ serD s q ≤ 63))).length ≤ y.2) (fun y => l.length - y.1) (fun y => [(64, .int .i64 (y.1 : Nat)), (6, .slice (some ⟨2, 0, some 0⟩) (q :: (l.take y.1).filter (fun s => decide (1 ≤ serD s q ∧ serD s q ≤ 63))).length y.2)]) (fun y => [(2, rl (q :: (l.take y.1).filter (fun s => decide (1 ≤ serD s q ∧ serD s q ≤ 63))) y.2)]) (0, 1) [(0, 0), (1, 1), (2, 2)] ⟨Nat.zero_le _, Nat.le_refl _⟩ ?_ ?_
    · repeat' (refine N.go ?_; first | with_reducible (first | refine N.obl (by decide) ?_ | refine N.eq ?_ | refine N.obl rfl ?_ | refine N.obl ⟨by kernel_rfl, by kernel_rfl⟩ ?_ | refine N.alt ?_ | refine N.forkT ?_ | refine N.forkF ?_) | exact N.true | refine N.obl (.plain (by rfl)) ?_ | refine N.obl (re_eqn (int_eqn (by rw [i64s ((k : Int) + 1) (by omega) (by omega)]; rfl)) rfl) ?_ | refine N.obl (.one (.ptr rfl)) ?_ | refine N.obl (sl_ren rfl (by rfl)) ?_ | refine N.obl (lit_ren1) ?_ | refine N.obl ⟨id, Nat.le_refl _, lt5 (.plain rfl) (.plain rfl) (.plain rfl) .quo (.plain rfl)⟩ ?_ | refine N.obl rv_ren ?_ | refine N.obl (.one .quo) ?_ | fail)
    rintro ⟨k, cc⟩ ⟨hk, hcc⟩
    have hk : k ≤ l.length := hk
    have hcc : (q :: (l.take k).filter (fun s => decide (1 ≤ serD s q ∧ serD s q ≤ 63))).length ≤ cc := hcc
    have hfl : (q :: (l.take k).filter (fun s => decide (1 ≤ serD s q ∧ serD s q ≤ 63))).length ≤ 1001 := by
      have h1 := List.length_filter_le (fun s => decide (1 ≤ serD s q ∧ serD s q ≤ 63)) (l.take k)
      have h2 : (l.take k).length ≤ l.length := by rw [List.length_take]; omega
      show (List.filter _ (l.take k)).length + 1 ≤ 1001
      omega
    by_cases hkl : k < l.length
    · obtain ⟨s, he⟩ : ∃ s, l[k]? = some s := ⟨_, List.getElem?_eq_getElem hkl⟩
      have hlt : ((k : Nat) : Int) < ((uN x.wu : Nat) : Int) := by rw [hlen]; omega
      rcases hI with ⟨_, h0⟩ | ⟨r, hr, hu, hrk, hrn, hx⟩
      · rw [h0] at hkl; exact absurd hkl (Nat.not_lt_zero k)
      have hs0 : (l.take (k + 1)).filter (fun s => decide (1 ≤ serD s q ∧ serD s q ≤ 63)) = (l.take k).filter (fun s => decide (1 ≤ serD s q ∧ serD s q ≤ 63)) ++ (if 1 ≤ serD s q ∧ serD s q ≤ 63 then [s] else []) := by
        rw [List.take_add_one, he, List.filter_append]
        by_cases hp : 1 ≤ serD s q ∧ serD s q ≤ 63 <;> simp [hp]
      repeat' (refine N.go ?_; first | with_reducible (first | refine N.obl (by decide) ?_ | refine N.eq ?_ | refine N.obl rfl ?_ | refine N.obl ⟨by kernel_rfl, by kernel_rfl⟩ ?_ | refine N.alt ?_ | refine N.forkT ?_ | refine N.forkF ?_) | refine N.forkYes (decide_eq_true hlt) ?_ | refine N.op (ok_idxR (sz := 1) (g := r.o + k) tysOK rfl rfl (fun ρ => by rw [uV_den, hu]; rfl) rfl (by exact rfl) (by omega) (by show ((k : Nat) : Int) < ((r.n : Nat) : Int); omega) (by show r.o + ((k : Nat) : Int).toNat * 1 = _; rw [Int.toNat_natCast, Nat.mul_one])) ?_ | refine N.op (ok_loadV (i := 1) r (v := .int .i64 s) k tysOK rfl rfl rfl (by rfl) hr (by exact rfl) rfl (by rw [hx, List.getElem?_map, he]; rfl)) ?_ | refine N.call (cRDiff _ _ _) ?_ | fail)
      by_cases hp : 1 ≤ serD s q ∧ serD s q ≤ 63
      · have hs : (l.take (k + 1)).filter (fun s => decide (1 ≤ serD s q ∧ serD s q ≤ 63)) = (l.take k).filter (fun s => decide (1 ≤ serD s q ∧ serD s q ≤ 63)) ++ [s] := by rw [hs0, if_pos hp]
        repeat' (refine N.go ?_; first | with_reducible (first | refine N.obl (by decide) ?_ | refine N.eq ?_ | refine N.obl rfl ?_ | refine N.obl ⟨by kernel_rfl, by kernel_rfl⟩ ?_ | refine N.alt ?_ | refine N.forkT ?_ | refine N.forkF ?_) | refine N.forkYes (decide_eq_true (show serD s q ≥ 1 from hp.1)) ?_ | refine N.forkYes (decide_eq_true hp.2) ?_ | fail)
        refine N.go ?_
        refine App_mk (.agg #[.int .i64 s]) (rd_all (by rfl) (by rfl)) (by rfl) (by show (q :: (l.take k).filter (fun s => decide (1 ≤ serD s q ∧ serD s q ≤ 63))).length * 1 ≤ cc * 1; omega) (by show (q :: (l.take k).filter (fun s => decide (1 ≤ serD s q ∧ serD s q ≤ 63))).length + 1 ≤ _; omega) (by show ((q :: (l.take k).filter (fun s => decide (1 ≤ serD s q ∧ serD s q ≤ 63))).length + 1) * 8 ≤ _; omega) (riC true cc (setri (fun i => (q :: (l.take k).filter (fun s => decide (1 ≤ serD s q ∧ serD s q ≤ 63))).getD i 0) (q :: (l.take k).filter (fun s => decide (1 ≤ serD s q ∧ serD s q ≤ 63))).length s)) (fun h => wr_ri (by have h : (q :: (l.take k).filter (fun s => decide (1 ≤ serD s q ∧ serD s q ≤ 63))).length + 1 ≤ cc := h; show (q :: (l.take k).filter (fun s => decide (1 ≤ serD s q ∧ serD s q ≤ 63))).length < cc; omega) rfl) (fun hr2 => ?_) (fun hg2 cap hcap => ?_)
        · repeat' (refine N.go ?_; first | with_reducible (first | refine N.obl (by decide) ?_ | refine N.eq ?_ | refine N.obl rfl ?_ | refine N.obl ⟨by kernel_rfl, by kernel_rfl⟩ ?_ | refine N.alt ?_ | refine N.forkT ?_ | refine N.forkF ?_) | fail)
          refine N.go ?_
          refine N.nextR (α := Nat × Nat) (k + 1, cc) [(0, 0), (1, 1), (2, 2)] ⟨⟨hkl, by show (q :: (l.take (k + 1)).filter (fun s => decide (1 ≤ serD s q ∧ serD s q ≤ 63))).length ≤ cc; rw [hs, ← List.cons_append, List.length_append]; exact hr2⟩, by show l.length - (k + 1) < l.length - k; omega⟩ ?_
          repeat' (refine N.go ?_; first | with_reducible (first | refine N.obl (by decide) ?_ | refine N.eq ?_ | refine N.obl rfl ?_ | refine N.obl ⟨by kernel_rfl, by kernel_rfl⟩ ?_ | refine N.alt ?_ | refine N.forkT ?_ | refine N.forkF ?_) | exact N.true | refine N.obl (.plain (by rfl)) ?_ | refine N.obl (re_eqn (int_eqn (by rw [i64s ((k : Int) + 1) (by omega) (by omega)]; rfl)) rfl) ?_ | refine N.obl (.one (.ptr rfl)) ?_ | refine N.obl (sl_ren (by show (q :: (l.take (k + 1)).filter (fun s => decide (1 ≤ serD s q ∧ serD s q ≤ 63))).length = (q :: (l.take k).filter (fun s => decide (1 ≤ serD s q ∧ serD s q ≤ 63))).length + 1; rw [hs, ← List.cons_append, List.length_append]; rfl) (by rfl)) ?_ | refine N.obl (set_ren (by rw [hs]; rfl)) ?_ | refine N.obl ⟨id, Nat.le_refl _, lt5 (.plain rfl) (.plain rfl) (.plain rfl) .quo (.plain rfl)⟩ ?_ | refine N.obl rv_ren ?_ | refine N.obl (.one .quo) ?_ | fail)
        · repeat' (refine N.go ?_; first | with_reducible (first | refine N.obl (by decide) ?_ | refine N.eq ?_ | refine N.obl rfl ?_ | refine N.obl ⟨by kernel_rfl, by kernel_rfl⟩ ?_ | refine N.alt ?_ | refine N.forkT ?_ | refine N.forkF ?_) | fail)
          refine N.go ?_
          refine N.nextR (α := Nat × Nat) (k + 1, cap) [(0, 0), (1, 1), (4, 2)] ⟨⟨hkl, by show (q :: (l.take (k + 1)).filter (fun s => decide (1 ≤ serD s q ∧ serD s q ≤ 63))).length ≤ cap; rw [hs, ← List.cons_append, List.length_append]; exact hcap⟩, by show l.length - (k + 1) < l.length - k; omega⟩ ?_
          repeat' (refine N.go ?_; first | with_reducible (first | refine N.obl (by decide) ?_ | refine N.eq ?_ | refine N.obl rfl ?_ | refine N.obl ⟨by kernel_rfl, by kernel_rfl⟩ ?_ | refine N.alt ?_ | refine N.forkT ?_ | refine N.forkF ?_) | exact N.true | refine N.obl (.plain (by rfl)) ?_ | refine N.obl (re_eqn (int_eqn (by rw [i64s ((k : Int) + 1) (by omega) (by omega)]; rfl)) rfl) ?_ | refine N.obl (.one (.ptr rfl)) ?_ | refine N.obl (sl_ren (by show (q :: (l.take (k + 1)).filter (fun s => decide (1 ≤ serD s q ∧ serD s q ≤ 63))).length = (q :: (l.take k).filter (fun s => decide (1 ≤ serD s q ∧ serD s q ≤ 63))).length + 1; rw [hs, ← List.cons_append, List.length_append]; rfl) (by rfl)) ?_ | refine N.obl (grow_ren (by rw [hs]; rfl) hcap hcc) ?_ | refine N.obl ⟨id, Nat.le_refl _, lt5 (.plain rfl) (.plain rfl) (.plain rfl) .quo (.plain rfl)⟩ ?_ | refine N.obl rv_ren ?_ | refine N.obl (.one .quo) ?_ | fail)
      · have hs : (l.take (k + 1)).filter (fun s => decide (1 ≤ serD s q ∧ serD s q ≤ 63)) = (l.take k).filter (fun s => decide (1 ≤ serD s q ∧ serD s q ≤ 63)) := by rw [hs0, if_neg hp, List.append_nil]
        by_cases h6 : serD s q ≥ 1
        · repeat' (refine N.go ?_; first | with_reducible (first | refine N.obl (by decide) ?_ | refine N.eq ?_ | refine N.obl rfl ?_ | refine N.obl ⟨by kernel_rfl, by kernel_rfl⟩ ?_ | refine N.alt ?_ | refine N.forkT ?_ | refine N.forkF ?_) | refine N.forkYes (decide_eq_true h6) ?_ | refine N.forkNo (decide_eq_false (fun h7 => hp ⟨h6, h7⟩)) ?_ | fail)
          refine N.go ?_
          refine N.nextR (α := Nat × Nat) (k + 1, cc) [(0, 0), (1, 1), (2, 2)] ⟨⟨hkl, by show (q :: (l.take (k + 1)).filter (fun s => decide (1 ≤ serD s q ∧ serD s q ≤ 63))).length ≤ cc; rw [hs]; exact hcc⟩, by show l.length - (k + 1) < l.length - k; omega⟩ ?_
          repeat' (refine N.go ?_; first | with_reducible (first | refine N.obl (by decide) ?_ | refine N.eq ?_ | refine N.obl rfl ?_ | refine N.obl ⟨by kernel_rfl, by kernel_rfl⟩ ?_ | refine N.alt ?_ | refine N.forkT ?_ | refine N.forkF ?_) | exact N.true | refine N.obl (.plain (by rfl)) ?_ | refine N.obl (re_eqn (int_eqn (by rw [i64s ((k : Int) + 1) (by omega) (by omega)]; rfl)) rfl) ?_ | refine N.obl (.one (.ptr rfl)) ?_ | refine N.obl (sl_ren (by show (q :: (l.take (k + 1)).filter (fun s => decide (1 ≤ serD s q ∧ serD s q ≤ 63))).length = (q :: (l.take k).filter (fun s => decide (1 ≤ serD s q ∧ serD s q ≤ 63))).length; rw [hs]) (by rfl)) ?_ | refine N.obl (rl_ren (by rw [hs])) ?_ | refine N.obl ⟨id, Nat.le_refl _, lt5 (.plain rfl) (.plain rfl) (.plain rfl) .quo (.plain rfl)⟩ ?_ | refine N.obl rv_ren ?_ | refine N.obl (.one .quo) ?_ | fail)
        · repeat' (refine N.go ?_; first | with_reducible (first | refine N.obl (by decide) ?_ | refine N.eq ?_ | refine N.obl rfl ?_ | refine N.obl ⟨by kernel_rfl, by kernel_rfl⟩ ?_ | refine N.alt ?_ | refine N.forkT ?_ | refine N.forkF ?_) | refine N.forkNo (decide_eq_false h6) ?_ | fail)
          refine N.go ?_
          refine N.nextR (α := Nat × Nat) (k + 1, cc) [(0, 0), (1, 1), (2, 2)] ⟨⟨hkl, by show (q :: (l.take (k + 1)).filter (fun s => decide (1 ≤ serD s q ∧ serD s q ≤ 63))).length ≤ cc; rw [hs]; exact hcc⟩, by show l.length - (k + 1) < l.length - k; omega⟩ ?_
          repeat' (refine N.go ?_; first | with_reducible (first | refine N.obl (by decide) ?_ | refine N.eq ?_ | refine N.obl rfl ?_ | refine N.obl ⟨by kernel_rfl, by kernel_rfl⟩ ?_ | refine N.alt ?_ | refine N.forkT ?_ | refine N.forkF ?_) | exact N.true | refine N.obl (.plain (by rfl)) ?_ | refine N.obl (re_eqn (int_eqn (by rw [i64s ((k : Int) + 1) (by omega) (by omega)]; rfl)) rfl) ?_ | refine N.obl (.one (.ptr rfl)) ?_ | refine N.obl (sl_ren (by show (q :: (l.take (k + 1)).filter (fun s => decide (1 ≤ serD s q ∧ serD s q ≤ 63))).length = (q :: (l.take k).filter (fun s => decide (1 ≤ serD s q ∧ serD s q ≤ 63))).length; rw [hs]) (by rfl)) ?_ | refine N.obl (rl_ren (by rw [hs])) ?_ | refine N.obl ⟨id, Nat.le_refl _, lt5 (.plain rfl) (.plain rfl) (.plain rfl) .quo (.plain rfl)⟩ ?_ | refine N.obl rv_ren ?_ | refine N.obl (.one .quo) ?_ | fail)
    · have hnl : ¬ ((k : Nat) : Int) < ((uN x.wu : Nat) : Int) := by rw [hlen]; omega
      have hLk : l.take k = l := List.take_of_length_le (by omega)
      have hcc2 : (q :: l.filter (fun s => decide (1 ≤ serD s q ∧ serD s q ≤ 63))).length ≤ cc := by rw [hLk] at hcc; exact hcc
      repeat' (refine N.go ?_; first | with_reducible (first | refine N.obl (by decide) ?_ | refine N.eq ?_ | refine N.obl rfl ?_ | refine N.obl ⟨by kernel_rfl, by kernel_rfl⟩ ?_ | refine N.alt ?_ | refine N.forkT ?_ | refine N.forkF ?_) | refine N.forkNo (decide_eq_false hnl) ?_ | fail)
      refine N.go ?_
      refine rv_end (i := 1) (k := 2) 3 1 (q :: l.filter (fun s => decide (1 ≤ serD s q ∧ serD s q ≤ 63))).length cc ((q :: l.filter (fun s => decide (1 ≤ serD s q ∧ serD s q ≤ 63))).map (Value.int .i64)) (by rfl) (by rfl) rfl rfl (Nat.le_refl _) (by rw [List.length_map, Nat.mul_one]) hcc2 (by simp) (by rw [List.length_map]; show _ ≤ cc * 1; omega) (fun j u hu2 ρ => ?_) (fun b o => [some (fC { x with wu := some ⟨b, o, (q :: l.filter (fun s => decide (1 ≤ serD s q ∧ serD s q ≤ 63))).length, cc, none⟩, last := q }), some (rvC (⟨false, 3, 1, b, o, cc, (q :: l.filter (fun s => decide (1 ≤ serD s q ∧ serD s q ≤ 63))).length, (q :: l.filter (fun s => decide (1 ≤ serD s q ∧ serD s q ≤ 63))).map (Value.int .i64)⟩ :: R)), none]) (fun b o => rfl) (fun b o j d' hj hd => ?_) (fun b o j hj => ?_) (fun b o ρ ρ' _ _ => rfl) fun b o => ?_
      · have hjl : j < (q :: l.filter (fun s => decide (1 ≤ serD s q ∧ serD s q ≤ 63))).length := by have := (List.getElem?_eq_some_iff.1 hu2).1; rw [List.length_map] at this; exact this
        have e1 : (rl (q :: (l.take k).filter (fun s => decide (1 ≤ serD s q ∧ serD s q ≤ 63))) cc).f j = ricell ((q :: (l.take k).filter (fun s => decide (1 ≤ serD s q ∧ serD s q ≤ 63))).getD (j / 1) 0) (j % 1) := riC_f (by omega)
        rw [List.getElem?_map, List.getElem?_eq_getElem hjl] at hu2
        show den1 ρ ((rl (q :: (l.take k).filter (fun s => decide (1 ≤ serD s q ∧ serD s q ≤ 63))) cc).f j) = u
        rw [e1, hLk, Nat.div_one, List.getD_eq_getElem?_getD, List.getElem?_eq_getElem hjl]
        exact Option.some.inj hu2
      · match j, hj, hd with
        | 0, _, hd =>
          obtain rfl := Option.some.inj (Option.some.inj hd)
          refine ⟨by decide, _, rfl, rfl, rfl, rfl, lt5 (fun ρ ρ' _ _ => rfl) (fun ρ ρ' _ _ => rfl) (fun ρ ρ' _ _ => rfl) (fun ρ ρ' hρ _ => ?_) (fun ρ ρ' _ _ => rfl)⟩
          show Value.slice (some ⟨b, o, none⟩) (q :: l.filter (fun s => decide (1 ≤ serD s q ∧ serD s q ≤ 63))).length cc = .slice (some ⟨(ρ 2).1, (ρ 2).2 + 0, none⟩) (q :: (l.take k).filter (fun s => decide (1 ≤ serD s q ∧ serD s q ≤ 63))).length cc
          rw [hρ, hLk]; rfl
        | 2, _, hd => exact absurd hd (by simp)
        | j + 3, _, hd => exact absurd hd (by simp)
      · match j, hj with
        | 0, _ => exact ⟨_, rfl⟩
        | 1, _ => exact ⟨_, rfl⟩
      refine N.some (some ⟨b, o, (q :: l.filter (fun s => decide (1 ≤ serD s q ∧ serD s q ≤ 63))).length, cc, none⟩, ⟨false, 3, 1, b, o, cc, (q :: l.filter (fun s => decide (1 ≤ serD s q ∧ serD s q ≤ 63))).length, (q :: l.filter (fun s => decide (1 ≤ serD s q ∧ serD s q ≤ 63))).map (Value.int .i64)⟩ :: R) ⟨⟨.inr ⟨_, List.mem_cons_self .., rfl, rfl, rfl, rfl⟩, fun r hr => List.mem_cons_of_mem _ hr⟩, ?_⟩
      repeat' (refine N.go ?_; first | with_reducible (first | refine N.obl (by decide) ?_ | refine N.eq ?_ | refine N.obl rfl ?_ | refine N.obl ⟨by kernel_rfl, by kernel_rfl⟩ ?_ | refine N.alt ?_ | refine N.forkT ?_ | refine N.forkF ?_) | refine N.obl (.plain rfl) ?_ | refine N.obl ⟨⟨_, rfl, fun h => h, Nat.le_refl _, lt5 (.plain rfl) (.plain rfl) (.plain rfl) .quo (.plain rfl)⟩, ⟨_, rfl, fun h => h, Nat.le_refl _, rv_re⟩, trivial⟩ ?_ | refine N.obl trivial ?_ | refine N.obl ⟨⟨.inl rfl, .inr ⟨_, rfl, rfl⟩, trivial⟩, trivial⟩ ?_ | exact N.true | fail)
  have hpos : ((uN x.wu : Nat) : Int) > 0 := by rw [hlen]; have := List.length_pos_iff.2 h0; omega
  by_cases hold : serD x.last q = 0 ∨ serD x.last q = 32768 ∨ serD x.last q < -63 ∨ q ∈ l
  · have hr : rwHear l x.last q = (9, l, x.last) := by unfold rwHear; rw [if_neg h0, if_pos hold]
    rw [hr]
    by_cases h1 : serD x.last q = 0
    · repeat' (refine N.go ?_; first | with_reducible (first | refine N.obl (by decide) ?_ | refine N.eq ?_ | refine N.obl rfl ?_ | refine N.obl ⟨by kernel_rfl, by kernel_rfl⟩ ?_ | refine N.alt ?_ | refine N.forkT ?_ | refine N.forkF ?_) | refine N.call (cRSer q _) ?_ | refine N.forkNo (by rw [decide_eq_true hq]; rfl) ?_ | refine N.op (ok_lenU rfl rfl ⟨_, rfl, _, Tryz.underlying39⟩) ?_ | refine N.forkYes (decide_eq_true hpos) ?_ | refine N.call (cRDiff _ _ _) ?_ | refine N.call (cWHas x R l hI hl q 0 1 _ (by rfl) (by rfl) (by decide)) ?_ | refine N.forkYes (by simpa using h1) ?_ | refine N.endSame ?_ | refine N.some (x.wu, R) ⟨⟨hI, fun r hr => hr⟩, ?_⟩ | refine N.obl (.plain rfl) ?_ | refine N.obl ⟨⟨_, rfl, fun h => h, Nat.le_refl _, lt5 (.plain rfl) (.plain rfl) (.plain rfl) .quo (.plain rfl)⟩, ⟨_, rfl, fun h => h, Nat.le_refl _, rv_re⟩, trivial⟩ ?_ | refine N.obl trivial ?_ | refine N.obl ⟨⟨.inl rfl, .inr ⟨_, rfl, rfl⟩, trivial⟩, trivial⟩ ?_ | exact N.true | fail)
    by_cases h2 : serD x.last q = 32768
    · repeat' (refine N.go ?_; first | with_reducible (first | refine N.obl (by decide) ?_ | refine N.eq ?_ | refine N.obl rfl ?_ | refine N.obl ⟨by kernel_rfl, by kernel_rfl⟩ ?_ | refine N.alt ?_ | refine N.forkT ?_ | refine N.forkF ?_) | refine N.call (cRSer q _) ?_ | refine N.forkNo (by rw [decide_eq_true hq]; rfl) ?_ | refine N.op (ok_lenU rfl rfl ⟨_, rfl, _, Tryz.underlying39⟩) ?_ | refine N.forkYes (decide_eq_true hpos) ?_ | refine N.call (cRDiff _ _ _) ?_ | refine N.call (cWHas x R l hI hl q 0 1 _ (by rfl) (by rfl) (by decide)) ?_ | refine N.forkNo (by simpa using h1) ?_ | refine N.forkYes (by simpa using h2) ?_ | refine N.endSame ?_ | refine N.some (x.wu, R) ⟨⟨hI, fun r hr => hr⟩, ?_⟩ | refine N.obl (.plain rfl) ?_ | refine N.obl ⟨⟨_, rfl, fun h => h, Nat.le_refl _, lt5 (.plain rfl) (.plain rfl) (.plain rfl) .quo (.plain rfl)⟩, ⟨_, rfl, fun h => h, Nat.le_refl _, rv_re⟩, trivial⟩ ?_ | refine N.obl trivial ?_ | refine N.obl ⟨⟨.inl rfl, .inr ⟨_, rfl, rfl⟩, trivial⟩, trivial⟩ ?_ | exact N.true | fail)
    by_cases h3 : serD x.last q < -63
    · repeat' (refine N.go ?_; first | with_reducible (first | refine N.obl (by decide) ?_ | refine N.eq ?_ | refine N.obl rfl ?_ | refine N.obl ⟨by kernel_rfl, by kernel_rfl⟩ ?_ | refine N.alt ?_ | refine N.forkT ?_ | refine N.forkF ?_) | refine N.call (cRSer q _) ?_ | refine N.forkNo (by rw [decide_eq_true hq]; rfl) ?_ | refine N.op (ok_lenU rfl rfl ⟨_, rfl, _, Tryz.underlying39⟩) ?_ | refine N.forkYes (decide_eq_true hpos) ?_ | refine N.call (cRDiff _ _ _) ?_ | refine N.call (cWHas x R l hI hl q 0 1 _ (by rfl) (by rfl) (by decide)) ?_ | refine N.forkNo (by simpa using h1) ?_ | refine N.forkNo (by simpa using h2) ?_ | refine N.forkYes (decide_eq_true h3) ?_ | refine N.endSame ?_ | refine N.some (x.wu, R) ⟨⟨hI, fun r hr => hr⟩, ?_⟩ | refine N.obl (.plain rfl) ?_ | refine N.obl ⟨⟨_, rfl, fun h => h, Nat.le_refl _, lt5 (.plain rfl) (.plain rfl) (.plain rfl) .quo (.plain rfl)⟩, ⟨_, rfl, fun h => h, Nat.le_refl _, rv_re⟩, trivial⟩ ?_ | refine N.obl trivial ?_ | refine N.obl ⟨⟨.inl rfl, .inr ⟨_, rfl, rfl⟩, trivial⟩, trivial⟩ ?_ | exact N.true | fail)
    have h4 : q ∈ l := hold.elim (fun h => absurd h h1) fun h => h.elim (fun h => absurd h h2) fun h => h.elim (fun h => absurd h h3) id
    repeat' (refine N.go ?_; first | with_reducible (first | refine N.obl (by decide) ?_ | refine N.eq ?_ | refine N.obl rfl ?_ | refine N.obl ⟨by kernel_rfl, by kernel_rfl⟩ ?_ | refine N.alt ?_ | refine N.forkT ?_ | refine N.forkF ?_) | refine N.call (cRSer q _) ?_ | refine N.forkNo (by rw [decide_eq_true hq]; rfl) ?_ | refine N.op (ok_lenU rfl rfl ⟨_, rfl, _, Tryz.underlying39⟩) ?_ | refine N.forkYes (decide_eq_true hpos) ?_ | refine N.call (cRDiff _ _ _) ?_ | refine N.call (cWHas x R l hI hl q 0 1 _ (by rfl) (by rfl) (by decide)) ?_ | refine N.forkNo (by simpa using h1) ?_ | refine N.forkNo (by simpa using h2) ?_ | refine N.forkNo (decide_eq_false h3) ?_ | refine N.forkYes (decide_eq_true h4) ?_ | refine N.endSame ?_ | refine N.some (x.wu, R) ⟨⟨hI, fun r hr => hr⟩, ?_⟩ | refine N.obl (.plain rfl) ?_ | refine N.obl ⟨⟨_, rfl, fun h => h, Nat.le_refl _, lt5 (.plain rfl) (.plain rfl) (.plain rfl) .quo (.plain rfl)⟩, ⟨_, rfl, fun h => h, Nat.le_refl _, rv_re⟩, trivial⟩ ?_ | refine N.obl trivial ?_ | refine N.obl ⟨⟨.inl rfl, .inr ⟨_, rfl, rfl⟩, trivial⟩, trivial⟩ ?_ | exact N.true | fail)
  have h1 : ¬ serD x.last q = 0 := fun h => hold (.inl h)
  have h2 : ¬ serD x.last q = 32768 := fun h => hold (.inr (.inl h))
  have h3 : ¬ serD x.last q < -63 := fun h => hold (.inr (.inr (.inl h)))
  have h4 : ¬ q ∈ l := fun h => hold (.inr (.inr (.inr h)))
  by_cases h5 : serD x.last q < 0
  · have hr : rwHear l x.last q = (0, l ++ [q], x.last) := by unfold rwHear; rw [if_neg h0, if_neg hold, if_pos h5]
    rw [hr]
    repeat' (refine N.go ?_; first | with_reducible (first | refine N.obl (by decide) ?_ | refine N.eq ?_ | refine N.obl rfl ?_ | refine N.obl ⟨by kernel_rfl, by kernel_rfl⟩ ?_ | refine N.alt ?_ | refine N.forkT ?_ | refine N.forkF ?_) | refine N.call (cRSer q _) ?_ | refine N.forkNo (by rw [decide_eq_true hq]; rfl) ?_ | refine N.op (ok_lenU rfl rfl ⟨_, rfl, _, Tryz.underlying39⟩) ?_ | refine N.forkYes (decide_eq_true hpos) ?_ | refine N.call (cRDiff _ _ _) ?_ | refine N.call (cWHas x R l hI hl q 0 1 _ (by rfl) (by rfl) (by decide)) ?_ | refine N.forkNo (by simpa using h1) ?_ | refine N.forkNo (by simpa using h2) ?_ | refine N.forkNo (decide_eq_false h3) ?_ | refine N.forkNo (decide_eq_false h4) ?_ | refine N.forkYes (decide_eq_true h5) ?_ | fail)
    refine N.go ?_
    refine appI none R [] l 1 [1] OI.nil rfl ⟨rfl, rfl⟩ (fun _ => rfl) (by rfl) (src_ints (i := 1) [1] (by simp) rfl (by rfl) hI) (by show 0 + _ ≤ _; omega) fun oe1 ho1 => ?_
    repeat' (refine N.go ?_; first | with_reducible (first | refine N.obl (by decide) ?_ | refine N.eq ?_ | refine N.obl rfl ?_ | refine N.obl ⟨by kernel_rfl, by kernel_rfl⟩ ?_ | refine N.alt ?_ | refine N.forkT ?_ | refine N.forkF ?_) | fail)
    refine N.go ?_
    refine appI oe1 R ([] ++ l) [q] 1 [1, _] ho1 rfl rfl (fun ρ => uV_den _ ρ) (by rfl) (src_chunk [1, _] (List.mem_cons_of_mem _ (List.mem_singleton.2 rfl)) rfl (by rfl) (rd_all (by rfl) (by rfl)) rfl) (by rw [List.nil_append]; show _ + 1 ≤ _; omega) fun oe2 ho2 => ?_
    repeat' (refine N.go ?_; first | with_reducible (first | refine N.obl (by decide) ?_ | refine N.eq ?_ | refine N.obl rfl ?_ | refine N.obl ⟨by kernel_rfl, by kernel_rfl⟩ ?_ | refine N.alt ?_ | refine N.forkT ?_ | refine N.forkF ?_) | refine N.endSame ?_ | refine N.some (rowO oe2, rowL oe2 R) ⟨⟨ho2.row R, fun r hr => rowL_sub oe2 R r hr⟩, ?_⟩ | refine N.obl (.plain rfl) ?_ | refine N.obl ⟨⟨_, rfl, fun h => h, Nat.le_refl _, lt5 (.plain rfl) (.plain rfl) (.plain rfl) .quo (.plain rfl)⟩, ⟨_, rfl, fun h => h, Nat.le_refl _, rv_re⟩, trivial⟩ ?_ | refine N.obl trivial ?_ | refine N.obl ⟨⟨.inl rfl, .inr ⟨_, rfl, rfl⟩, trivial⟩, trivial⟩ ?_ | exact N.true | fail)
  · have hr : rwHear l x.last q = (0, q :: l.filter (fun s => decide (1 ≤ serD s q ∧ serD s q ≤ 63)), q) := by unfold rwHear; rw [if_neg h0, if_neg hold, if_neg h5]
    rw [hr]
    repeat' (refine N.go ?_; first | with_reducible (first | refine N.obl (by decide) ?_ | refine N.eq ?_ | refine N.obl rfl ?_ | refine N.obl ⟨by kernel_rfl, by kernel_rfl⟩ ?_ | refine N.alt ?_ | refine N.forkT ?_ | refine N.forkF ?_) | refine N.call (cRSer q _) ?_ | refine N.forkNo (by rw [decide_eq_true hq]; rfl) ?_ | refine N.op (ok_lenU rfl rfl ⟨_, rfl, _, Tryz.underlying39⟩) ?_ | refine N.forkYes (decide_eq_true hpos) ?_ | refine N.call (cRDiff _ _ _) ?_ | refine N.call (cWHas x R l hI hl q 0 1 _ (by rfl) (by rfl) (by decide)) ?_ | refine N.forkNo (by simpa using h1) ?_ | refine N.forkNo (by simpa using h2) ?_ | refine N.forkNo (decide_eq_false h3) ?_ | refine N.forkNo (decide_eq_false h4) ?_ | refine N.forkNo (decide_eq_false h5) ?_ | fail)
    refine N.go ?_
    refine N_loopD 288230376151711744 ?_ ?_
    · repeat' (refine N.go ?_; first | with_reducible (first | refine N.obl (by decide) ?_ | refine N.eq ?_ | refine N.obl rfl ?_ | refine N.obl ⟨by kernel_rfl, by kernel_rfl⟩ ?_ | refine N.alt ?_ | refine N.forkT ?_ | refine N.forkF ?_) | exact N.true | refine N.obl (ChunkLe.refl _) ?_ | fail)
    refine N.go ?_
    refine N.loopR (α := Nat × Nat) (fun y => y.1 ≤ l.length ∧ (q :: (l.take y.1).filter (fun s => decide (1 ≤ serD s q ∧ serD s q ≤ 63))).length ≤ y.2) (fun y => l.length - y.1) (fun y => [(64, .int .i64 (y.1 : Nat)), (6, .slice (some ⟨2, 0, some 0⟩) (q :: (l.take y.1).filter (fun s => decide (1 ≤ serD s q ∧ serD s q ≤ 63))).length y.2)]) (fun y => [(2, rl (q :: (l.take y.1).filter (fun s => decide (1 ≤ serD s q ∧ serD s q ≤ 63))) y.2)]) (0, 1) [(0, 0), (1, 1), (2, 2)] ⟨Nat.zero_le _, Nat.le_refl _⟩ ?_ ?_
    · repeat' (refine N.go ?_; first | with_reducible (first | refine N.obl (by decide) ?_ | refine N.eq ?_ | refine N.obl rfl ?_ | refine N.obl ⟨by kernel_rfl, by kernel_rfl⟩ ?_ | refine N.alt ?_ | refine N.forkT ?_ | refine N.forkF ?_) | exact N.true | refine N.obl (.plain (by rfl)) ?_ | refine N.obl (re_eqn (int_eqn (by rw [i64s ((k : Int) + 1) (by omega) (by omega)]; rfl)) rfl) ?_ | refine N.obl (.one (.ptr rfl)) ?_ | refine N.obl (sl_ren rfl (by rfl)) ?_ | refine N.obl (lit_ren1) ?_ | refine N.obl ⟨id, Nat.le_refl _, lt5 (.plain rfl) (.plain rfl) (.plain rfl) .quo (.plain rfl)⟩ ?_ | refine N.obl rv_ren ?_ | refine N.obl (.one .quo) ?_ | fail)
    rintro ⟨k, cc⟩ ⟨hk, hcc⟩
    have hk : k ≤ l.length := hk
    have hcc : (q :: (l.take k).filter (fun s => decide (1 ≤ serD s q ∧ serD s q ≤ 63))).length ≤ cc := hcc
    have hfl : (q :: (l.take k).filter (fun s => decide (1 ≤ serD s q ∧ serD s q ≤ 63))).length ≤ 1001 := by
      have h1 := List.length_filter_le (fun s => decide (1 ≤ serD s q ∧ serD s q ≤ 63)) (l.take k)
      have h2 : (l.take k).length ≤ l.length := by rw [List.length_take]; omega
      show (List.filter _ (l.take k)).length + 1 ≤ 1001
      omega
    by_cases hkl : k < l.length
    · obtain ⟨s, he⟩ : ∃ s, l[k]? = some s := ⟨_, List.getElem?_eq_getElem hkl⟩
      have hlt : ((k : Nat) : Int) < ((uN x.wu : Nat) : Int) := by rw [hlen]; omega
      rcases hI with ⟨_, h0⟩ | ⟨r, hr, hu, hrk, hrn, hx⟩
      · rw [h0] at hkl; exact absurd hkl (Nat.not_lt_zero k)
      have hs0 : (l.take (k + 1)).filter (fun s => decide (1 ≤ serD s q ∧ serD s q ≤ 63)) = (l.take k).filter (fun s => decide (1 ≤ serD s q ∧ serD s q ≤ 63)) ++ (if 1 ≤ serD s q ∧ serD s q ≤ 63 then [s] else []) := by
        rw [List.take_add_one, he, List.filter_append]
        by_cases hp : 1 ≤ serD s q ∧ serD s q ≤ 63 <;> simp [hp]
      repeat' (refine N.go ?_; first | with_reducible (first | refine N.obl (by decide) ?_ | refine N.eq ?_ | refine N.obl rfl ?_ | refine N.obl ⟨by kernel_rfl, by kernel_rfl⟩ ?_ | refine N.alt ?_ | refine N.forkT ?_ | refine N.forkF ?_) | refine N.forkYes (decide_eq_true hlt) ?_ | refine N.op (ok_idxR (sz := 1) (g := r.o + k) tysOK rfl rfl (fun ρ => by rw [uV_den, hu]; rfl) rfl (by exact rfl) (by omega) (by show ((k : Nat) : Int) < ((r.n : Nat) : Int); omega) (by show r.o + ((k : Nat) : Int).toNat * 1 = _; rw [Int.toNat_natCast, Nat.mul_one])) ?_ | refine N.op (ok_loadV (i := 1) r (v := .int .i64 s) k tysOK rfl rfl rfl (by rfl) hr (by exact rfl) rfl (by rw [hx, List.getElem?_map, he]; rfl)) ?_ | refine N.call (cRDiff _ _ _) ?_ | fail)
      by_cases hp : 1 ≤ serD s q ∧ serD s q ≤ 63
      · have hs : (l.take (k + 1)).filter (fun s => decide (1 ≤ serD s q ∧ serD s q ≤ 63)) = (l.take k).filter (fun s => decide (1 ≤ serD s q ∧ serD s q ≤ 63)) ++ [s] := by rw [hs0, if_pos hp]
        repeat' (refine N.go ?_; first | with_reducible (first | refine N.obl (by decide) ?_ | refine N.eq ?_ | refine N.obl rfl ?_ | refine N.obl ⟨by kernel_rfl, by kernel_rfl⟩ ?_ | refine N.alt ?_ | refine N.forkT ?_ | refine N.forkF ?_) | refine N.forkYes (decide_eq_true (show serD s q ≥ 1 from hp.1)) ?_ | refine N.forkYes (decide_eq_true hp.2) ?_ | fail)
        refine N.go ?_
        refine App_mk (.agg #[.int .i64 s]) (rd_all (by rfl) (by rfl)) (by rfl) (by show (q :: (l.take k).filter (fun s => decide (1 ≤ serD s q ∧ serD s q ≤ 63))).length * 1 ≤ cc * 1; omega) (by show (q :: (l.take k).filter (fun s => decide (1 ≤ serD s q ∧ serD s q ≤ 63))).length + 1 ≤ _; omega) (by show ((q :: (l.take k).filter (fun s => decide (1 ≤ serD s q ∧ serD s q ≤ 63))).length + 1) * 8 ≤ _; omega) (riC true cc (setri (fun i => (q :: (l.take k).filter (fun s => decide (1 ≤ serD s q ∧ serD s q ≤ 63))).getD i 0) (q :: (l.take k).filter (fun s => decide (1 ≤ serD s q ∧ serD s q ≤ 63))).length s)) (fun h => wr_ri (by have h : (q :: (l.take k).filter (fun s => decide (1 ≤ serD s q ∧ serD s q ≤ 63))).length + 1 ≤ cc := h; show (q :: (l.take k).filter (fun s => decide (1 ≤ serD s q ∧ serD s q ≤ 63))).length < cc; omega) rfl) (fun hr2 => ?_) (fun hg2 cap hcap => ?_)
        · repeat' (refine N.go ?_; first | with_reducible (first | refine N.obl (by decide) ?_ | refine N.eq ?_ | refine N.obl rfl ?_ | refine N.obl ⟨by kernel_rfl, by kernel_rfl⟩ ?_ | refine N.alt ?_ | refine N.forkT ?_ | refine N.forkF ?_) | fail)
          refine N.go ?_
          refine N.nextR (α := Nat × Nat) (k + 1, cc) [(0, 0), (1, 1), (2, 2)] ⟨⟨hkl, by show (q :: (l.take (k + 1)).filter (fun s => decide (1 ≤ serD s q ∧ serD s q ≤ 63))).length ≤ cc; rw [hs, ← List.cons_append, List.length_append]; exact hr2⟩, by show l.length - (k + 1) < l.length - k; omega⟩ ?_
          repeat' (refine N.go ?_; first | with_reducible (first | refine N.obl (by decide) ?_ | refine N.eq ?_ | refine N.obl rfl ?_ | refine N.obl ⟨by kernel_rfl, by kernel_rfl⟩ ?_ | refine N.alt ?_ | refine N.forkT ?_ | refine N.forkF ?_) | exact N.true | refine N.obl (.plain (by rfl)) ?_ | refine N.obl (re_eqn (int_eqn (by rw [i64s ((k : Int) + 1) (by omega) (by omega)]; rfl)) rfl) ?_ | refine N.obl (.one (.ptr rfl)) ?_ | refine N.obl (sl_ren (by show (q :: (l.take (k + 1)).filter (fun s => decide (1 ≤ serD s q ∧ serD s q ≤ 63))).length = (q :: (l.take k).filter (fun s => decide (1 ≤ serD s q ∧ serD s q ≤ 63))).length + 1; rw [hs, ← List.cons_append, List.length_append]; rfl) (by rfl)) ?_ | refine N.obl (set_ren (by rw [hs]; rfl)) ?_ | refine N.obl ⟨id, Nat.le_refl _, lt5 (.plain rfl) (.plain rfl) (.plain rfl) .quo (.plain rfl)⟩ ?_ | refine N.obl rv_ren ?_ | refine N.obl (.one .quo) ?_ | fail)
        · repeat' (refine N.go ?_; first | with_reducible (first | refine N.obl (by decide) ?_ | refine N.eq ?_ | refine N.obl rfl ?_ | refine N.obl ⟨by kernel_rfl, by kernel_rfl⟩ ?_ | refine N.alt ?_ | refine N.forkT ?_ | refine N.forkF ?_) | fail)
          refine N.go ?_
          refine N.nextR (α := Nat × Nat) (k + 1, cap) [(0, 0), (1, 1), (4, 2)] ⟨⟨hkl, by show (q :: (l.take (k + 1)).filter (fun s => decide (1 ≤ serD s q ∧ serD s q ≤ 63))).length ≤ cap; rw [hs, ← List.cons_append, List.length_append]; exact hcap⟩, by show l.length - (k + 1) < l.length - k; omega⟩ ?_
          repeat' (refine N.go ?_; first | with_reducible (first | refine N.obl (by decide) ?_ | refine N.eq ?_ | refine N.obl rfl ?_ | refine N.obl ⟨by kernel_rfl, by kernel_rfl⟩ ?_ | refine N.alt ?_ | refine N.forkT ?_ | refine N.forkF ?_) | exact N.true | refine N.obl (.plain (by rfl)) ?_ | refine N.obl (re_eqn (int_eqn (by rw [i64s ((k : Int) + 1) (by omega) (by omega)]; rfl)) rfl) ?_ | refine N.obl (.one (.ptr rfl)) ?_ | refine N.obl (sl_ren (by show (q :: (l.take (k + 1)).filter (fun s => decide (1 ≤ serD s q ∧ serD s q ≤ 63))).length = (q :: (l.take k).filter (fun s => decide (1 ≤ serD s q ∧ serD s q ≤ 63))).length + 1; rw [hs, ← List.cons_append, List.length_append]; rfl) (by rfl)) ?_ | refine N.obl (grow_ren (by rw [hs]; rfl) hcap hcc) ?_ | refine N.obl ⟨id, Nat.le_refl _, lt5 (.plain rfl) (.plain rfl) (.plain rfl) .quo (.plain rfl)⟩ ?_ | refine N.obl rv_ren ?_ | refine N.obl (.one .quo) ?_ | fail)
      · have hs : (l.take (k + 1)).filter (fun s => decide (1 ≤ serD s q ∧ serD s q ≤ 63)) = (l.take k).filter (fun s => decide (1 ≤ serD s q ∧ serD s q ≤ 63)) := by rw [hs0, if_neg hp, List.append_nil]
        by_cases h6 : serD s q ≥ 1
        · repeat' (refine N.go ?_; first | with_reducible (first | refine N.obl (by decide) ?_ | refine N.eq ?_ | refine N.obl rfl ?_ | refine N.obl ⟨by kernel_rfl, by kernel_rfl⟩ ?_ | refine N.alt ?_ | refine N.forkT ?_ | refine N.forkF ?_) | refine N.forkYes (decide_eq_true h6) ?_ | refine N.forkNo (decide_eq_false (fun h7 => hp ⟨h6, h7⟩)) ?_ | fail)
          refine N.go ?_
          refine N.nextR (α := Nat × Nat) (k + 1, cc) [(0, 0), (1, 1), (2, 2)] ⟨⟨hkl, by show (q :: (l.take (k + 1)).filter (fun s => decide (1 ≤ serD s q ∧ serD s q ≤ 63))).length ≤ cc; rw [hs]; exact hcc⟩, by show l.length - (k + 1) < l.length - k; omega⟩ ?_
          repeat' (refine N.go ?_; first | with_reducible (first | refine N.obl (by decide) ?_ | refine N.eq ?_ | refine N.obl rfl ?_ | refine N.obl ⟨by kernel_rfl, by kernel_rfl⟩ ?_ | refine N.alt ?_ | refine N.forkT ?_ | refine N.forkF ?_) | exact N.true | refine N.obl (.plain (by rfl)) ?_ | refine N.obl (re_eqn (int_eqn (by rw [i64s ((k : Int) + 1) (by omega) (by omega)]; rfl)) rfl) ?_ | refine N.obl (.one (.ptr rfl)) ?_ | refine N.obl (sl_ren (by show (q :: (l.take (k + 1)).filter (fun s => decide (1 ≤ serD s q ∧ serD s q ≤ 63))).length = (q :: (l.take k).filter (fun s => decide (1 ≤ serD s q ∧ serD s q ≤ 63))).length; rw [hs]) (by rfl)) ?_ | refine N.obl (rl_ren (by rw [hs])) ?_ | refine N.obl ⟨id, Nat.le_refl _, lt5 (.plain rfl) (.plain rfl) (.plain rfl) .quo (.plain rfl)⟩ ?_ | refine N.obl rv_ren ?_ | refine N.obl (.one .quo) ?_ | fail)
        · repeat' (refine N.go ?_; first | with_reducible (first | refine N.obl (by decide) ?_ | refine N.eq ?_ | refine N.obl rfl ?_ | refine N.obl ⟨by kernel_rfl, by kernel_rfl⟩ ?_ | refine N.alt ?_ | refine N.forkT ?_ | refine N.forkF ?_) | refine N.forkNo (decide_eq_false h6) ?_ | fail)
          refine N.go ?_
          refine N.nextR (α := Nat × Nat) (k + 1, cc) [(0, 0), (1, 1), (2, 2)] ⟨⟨hkl, by show (q :: (l.take (k + 1)).filter (fun s => decide (1 ≤ serD s q ∧ serD s q ≤ 63))).length ≤ cc; rw [hs]; exact hcc⟩, by show l.length - (k + 1) < l.length - k; omega⟩ ?_
          repeat' (refine N.go ?_; first | with_reducible (first | refine N.obl (by decide) ?_ | refine N.eq ?_ | refine N.obl rfl ?_ | refine N.obl ⟨by kernel_rfl, by kernel_rfl⟩ ?_ | refine N.alt ?_ | refine N.forkT ?_ | refine N.forkF ?_) | exact N.true | refine N.obl (.plain (by rfl)) ?_ | refine N.obl (re_eqn (int_eqn (by rw [i64s ((k : Int) + 1) (by omega) (by omega)]; rfl)) rfl) ?_ | refine N.obl (.one (.ptr rfl)) ?_ | refine N.obl (sl_ren (by show (q :: (l.take (k + 1)).filter (fun s => decide (1 ≤ serD s q ∧ serD s q ≤ 63))).length = (q :: (l.take k).filter (fun s => decide (1 ≤ serD s q ∧ serD s q ≤ 63))).length; rw [hs]) (by rfl)) ?_ | refine N.obl (rl_ren (by rw [hs])) ?_ | refine N.obl ⟨id, Nat.le_refl _, lt5 (.plain rfl) (.plain rfl) (.plain rfl) .quo (.plain rfl)⟩ ?_ | refine N.obl rv_ren ?_ | refine N.obl (.one .quo) ?_ | fail)
    · have hnl : ¬ ((k : Nat) : Int) < ((uN x.wu : Nat) : Int) := by rw [hlen]; omega
      have hLk : l.take k = l := List.take_of_length_le (by omega)
      have hcc2 : (q :: l.filter (fun s => decide (1 ≤ serD s q ∧ serD s q ≤ 63))).length ≤ cc := by rw [hLk] at hcc; exact hcc
      repeat' (refine N.go ?_; first | with_reducible (first | refine N.obl (by decide) ?_ | refine N.eq ?_ | refine N.obl rfl ?_ | refine N.obl ⟨by kernel_rfl, by kernel_rfl⟩ ?_ | refine N.alt ?_ | refine N.forkT ?_ | refine N.forkF ?_) | refine N.forkNo (decide_eq_false hnl) ?_ | fail)
      refine N.go ?_
      refine rv_end (i := 1) (k := 2) 3 1 (q :: l.filter (fun s => decide (1 ≤ serD s q ∧ serD s q ≤ 63))).length cc ((q :: l.filter (fun s => decide (1 ≤ serD s q ∧ serD s q ≤ 63))).map (Value.int .i64)) (by rfl) (by rfl) rfl rfl (Nat.le_refl _) (by rw [List.length_map, Nat.mul_one]) hcc2 (by simp) (by rw [List.length_map]; show _ ≤ cc * 1; omega) (fun j u hu2 ρ => ?_) (fun b o => [some (fC { x with wu := some ⟨b, o, (q :: l.filter (fun s => decide (1 ≤ serD s q ∧ serD s q ≤ 63))).length, cc, none⟩, last := q }), some (rvC (⟨false, 3, 1, b, o, cc, (q :: l.filter (fun s => decide (1 ≤ serD s q ∧ serD s q ≤ 63))).length, (q :: l.filter (fun s => decide (1 ≤ serD s q ∧ serD s q ≤ 63))).map (Value.int .i64)⟩ :: R)), none]) (fun b o => rfl) (fun b o j d' hj hd => ?_) (fun b o j hj => ?_) (fun b o ρ ρ' _ _ => rfl) fun b o => ?_
      · have hjl : j < (q :: l.filter (fun s => decide (1 ≤ serD s q ∧ serD s q ≤ 63))).length := by have := (List.getElem?_eq_some_iff.1 hu2).1; rw [List.length_map] at this; exact this
        have e1 : (rl (q :: (l.take k).filter (fun s => decide (1 ≤ serD s q ∧ serD s q ≤ 63))) cc).f j = ricell ((q :: (l.take k).filter (fun s => decide (1 ≤ serD s q ∧ serD s q ≤ 63))).getD (j / 1) 0) (j % 1) := riC_f (by omega)
        rw [List.getElem?_map, List.getElem?_eq_getElem hjl] at hu2
        show den1 ρ ((rl (q :: (l.take k).filter (fun s => decide (1 ≤ serD s q ∧ serD s q ≤ 63))) cc).f j) = u
        rw [e1, hLk, Nat.div_one, List.getD_eq_getElem?_getD, List.getElem?_eq_getElem hjl]
        exact Option.some.inj hu2
      · match j, hj, hd with
        | 0, _, hd =>
          obtain rfl := Option.some.inj (Option.some.inj hd)
          refine ⟨by decide, _, rfl, rfl, rfl, rfl, lt5 (fun ρ ρ' _ _ => rfl) (fun ρ ρ' _ _ => rfl) (fun ρ ρ' _ _ => rfl) (fun ρ ρ' hρ _ => ?_) (fun ρ ρ' _ _ => rfl)⟩
          show Value.slice (some ⟨b, o, none⟩) (q :: l.filter (fun s => decide (1 ≤ serD s q ∧ serD s q ≤ 63))).length cc = .slice (some ⟨(ρ 2).1, (ρ 2).2 + 0, none⟩) (q :: (l.take k).filter (fun s => decide (1 ≤ serD s q ∧ serD s q ≤ 63))).length cc
          rw [hρ, hLk]; rfl
        | 2, _, hd => exact absurd hd (by simp)
        | j + 3, _, hd => exact absurd hd (by simp)
      · match j, hj with
        | 0, _ => exact ⟨_, rfl⟩
        | 1, _ => exact ⟨_, rfl⟩
      refine N.some (some ⟨b, o, (q :: l.filter (fun s => decide (1 ≤ serD s q ∧ serD s q ≤ 63))).length, cc, none⟩, ⟨false, 3, 1, b, o, cc, (q :: l.filter (fun s => decide (1 ≤ serD s q ∧ serD s q ≤ 63))).length, (q :: l.filter (fun s => decide (1 ≤ serD s q ∧ serD s q ≤ 63))).map (Value.int .i64)⟩ :: R) ⟨⟨.inr ⟨_, List.mem_cons_self .., rfl, rfl, rfl, rfl⟩, fun r hr => List.mem_cons_of_mem _ hr⟩, ?_⟩
      repeat' (refine N.go ?_; first | with_reducible (first | refine N.obl (by decide) ?_ | refine N.eq ?_ | refine N.obl rfl ?_ | refine N.obl ⟨by kernel_rfl, by kernel_rfl⟩ ?_ | refine N.alt ?_ | refine N.forkT ?_ | refine N.forkF ?_) | refine N.obl (.plain rfl) ?_ | refine N.obl ⟨⟨_, rfl, fun h => h, Nat.le_refl _, lt5 (.plain rfl) (.plain rfl) (.plain rfl) .quo (.plain rfl)⟩, ⟨_, rfl, fun h => h, Nat.le_refl _, rv_re⟩, trivial⟩ ?_ | refine N.obl trivial ?_ | refine N.obl ⟨⟨.inl rfl, .inr ⟨_, rfl, rfl⟩, trivial⟩, trivial⟩ ?_ | exact N.true | fail)
end Go.Proofs.YtimccfnlcnlffaaGreat


namespace Go.Proofs.YtimccfnlcnlffaaGreat
open Go Go.RowKit Sx
def LvR (R : List Rw) (x : RLv) (f : RLf) : Prop := x.known = f.known ∧ x.left = f.left ∧ x.boot = f.boot ∧ x.last = f.last ∧ RowI R x.wu f.wl
structure RtS (R : List Rw) (u : Option Sl) (lv : Nat → RLv) (M : RTb) : Prop where
  e : RowE R u M.L
  lv : ∀ k, k < 64 → LvR R (lv k) (M.lv k)
theorem LvR.more {R R' : List Rw} {x : RLv} {f : RLf} (h : LvR R x f) (hR : ∀ r ∈ R, r ∈ R') : LvR R' x f := ⟨h.1, h.2.1, h.2.2.1, h.2.2.2.1, h.2.2.2.2.more hR⟩
theorem RtS.more {R R' : List Rw} {u : Option Sl} {lv : Nat → RLv} {M : RTb} (h : RtS R u lv M) (hR : ∀ r ∈ R, r ∈ R') : RtS R' u lv M := ⟨h.e.more hR, fun k hk => (h.lv k hk).more hR⟩
theorem RtS.set {R R' R2 : List Rw} {u u2 : Option Sl} {lv : Nat → RLv} {M : RTb} (h : RtS R u lv M) (hR : ∀ r ∈ R, r ∈ R') (hR2 : ∀ r ∈ R', r ∈ R2) {k : Nat} {x : RLv} {f : RLf} (hx : LvR R' x f) {L2 : List Ent} (hL : RowE R2 u2 L2) : RtS R2 u2 (setP lv k x) ⟨M.most, L2, setF M.lv k f⟩ :=
  ⟨hL, fun q hq => by
    show LvR R2 (setP lv k x q) (setF M.lv k f q)
    unfold setP setF
    by_cases e : q = k
    · rw [if_pos e, if_pos e]; exact hx.more hR2
    · rw [if_neg e, if_neg e]; exact ((h.lv q hq).more hR).more hR2⟩
instance (n boot seq now : Int) : Decidable (argsOK n boot seq now) := by unfold argsOK; infer_instance
theorem cRHearArg [ZW] (M : RTb) (u : Option Sl) (lv : Nat → RLv) (R : List Rw) (hS : RtS R u lv M) (hl : M.L.length ≤ 500) (n boot seq now : Int) (ha : ¬ argsOK n boot seq now) (i g : Nat) (h : List (Option Chunk)) (hi : h[i]? = some (some (rtC M.most u lv))) (hg : h[g]? = some (some (rvC R))) (hig : i ≠ g) : CallAll Tryz.prog 7 [.pointer (some ⟨i, 0, some 0⟩), .int .i64 n, .int .i64 boot, .int .i64 seq, .int .i64 now] h (fun v ms => ∃ κ : Option Sl × (Nat → RLv) × List Rw, RtS κ.2.2 κ.1 κ.2.1 M ∧ v = .int .i64 1 ∧ ms = [(i, rtC M.most κ.1 κ.2.1), (g, rvC κ.2.2)]) := by
  refine CallAll.to (call_resall (G := tys) (h := h) (vs := [.pointer (some ⟨i, 0, some 0⟩), .int .i64 n, .int .i64 boot, .int .i64 seq, .int .i64 now]) (fun _ : Unit => True) (fun _ => _) (α := Option Sl × (Nat → RLv) × List Rw) (fun κ => RtS κ.2.2 κ.1 κ.2.1 M) (fun κ => .int .i64 1) [⟨i, rtC M.most u lv, rtC M.most u lv, rtC M.most u lv⟩, ⟨g, rvC R, rvC R, rvC R⟩] (fun κ => [rtC M.most κ.1 κ.2.1, rvC κ.2.2]) (fun κ => []) [.pointer (some ⟨0, 0, some 0⟩), .int .i64 n, .int .i64 boot, .int .i64 seq, .int .i64 now] tysOK mixed Tryz.func7 (by rfl) (Tryz.call7) ⟨hi, hg, trivial⟩ ⟨⟨fun h => ⟨rfl, Nat.le_refl _⟩, Nat.le_refl _, rt_re⟩, ⟨fun h => ⟨rfl, Nat.le_refl _⟩, Nat.le_refl _, rv_re⟩, trivial⟩ (fun κ _ => ⟨⟨fun h => ⟨rfl, Nat.le_refl _⟩, Nat.le_refl _, rt_re⟩, ⟨fun h => ⟨rfl, Nat.le_refl _⟩, Nat.le_refl _, rv_re⟩, trivial⟩) (by simp [Apart, hig]) ⟨.inl rfl, .inr ⟨rfl, rfl⟩, trivial⟩ (fun κ _ => trivial) ⟨.ptr rfl, .plain rfl, .plain rfl, .plain rfl, .plain rfl, trivial⟩ Opens.same ?_) ?_
  rotate_left
  · rintro v ms ⟨κ, hκ, rfl, rfl⟩
    exact ⟨κ, hκ, rfl, rfl⟩
  rintro ⟨⟩ -
  by_cases hn1 : n < 0
  · repeat' (refine N.go ?_; first | with_reducible (first | refine N.obl (by decide) ?_ | refine N.eq ?_ | refine N.obl rfl ?_ | refine N.obl ⟨by kernel_rfl, by kernel_rfl⟩ ?_ | refine N.alt ?_ | refine N.forkT ?_ | refine N.forkF ?_) | refine N.call (cRSer _ _) ?_ | refine N.call (cRTime _ _) ?_ | refine N.forkYes (decide_eq_true hn1) ?_ | refine N.endSame ?_ | refine N.some (u, lv, R) ⟨hS, ?_⟩ | refine N.obl (.plain rfl) ?_ | refine N.obl ⟨⟨_, rfl, fun h => h, Nat.le_refl _, rt_re⟩, ⟨_, rfl, fun h => h, Nat.le_refl _, rv_re⟩, trivial⟩ ?_ | refine N.obl trivial ?_ | refine N.obl ⟨⟨.inl rfl, .inr ⟨_, rfl, rfl⟩, trivial⟩, trivial⟩ ?_ | exact N.true | fail)
  by_cases hn2 : n > 63
  · repeat' (refine N.go ?_; first | with_reducible (first | refine N.obl (by decide) ?_ | refine N.eq ?_ | refine N.obl rfl ?_ | refine N.obl ⟨by kernel_rfl, by kernel_rfl⟩ ?_ | refine N.alt ?_ | refine N.forkT ?_ | refine N.forkF ?_) | refine N.call (cRSer _ _) ?_ | refine N.call (cRTime _ _) ?_ | refine N.forkNo (decide_eq_false hn1) ?_ | refine N.forkYes (decide_eq_true hn2) ?_ | refine N.endSame ?_ | refine N.some (u, lv, R) ⟨hS, ?_⟩ | refine N.obl (.plain rfl) ?_ | refine N.obl ⟨⟨_, rfl, fun h => h, Nat.le_refl _, rt_re⟩, ⟨_, rfl, fun h => h, Nat.le_refl _, rv_re⟩, trivial⟩ ?_ | refine N.obl trivial ?_ | refine N.obl ⟨⟨.inl rfl, .inr ⟨_, rfl, rfl⟩, trivial⟩, trivial⟩ ?_ | exact N.true | fail)
  by_cases hb : serOK boot
  rotate_left
  · repeat' (refine N.go ?_; first | with_reducible (first | refine N.obl (by decide) ?_ | refine N.eq ?_ | refine N.obl rfl ?_ | refine N.obl ⟨by kernel_rfl, by kernel_rfl⟩ ?_ | refine N.alt ?_ | refine N.forkT ?_ | refine N.forkF ?_) | refine N.call (cRSer _ _) ?_ | refine N.call (cRTime _ _) ?_ | refine N.forkNo (decide_eq_false hn1) ?_ | refine N.forkNo (decide_eq_false hn2) ?_ | refine N.forkYes (by rw [decide_eq_false hb]; rfl) ?_ | refine N.endSame ?_ | refine N.some (u, lv, R) ⟨hS, ?_⟩ | refine N.obl (.plain rfl) ?_ | refine N.obl ⟨⟨_, rfl, fun h => h, Nat.le_refl _, rt_re⟩, ⟨_, rfl, fun h => h, Nat.le_refl _, rv_re⟩, trivial⟩ ?_ | refine N.obl trivial ?_ | refine N.obl ⟨⟨.inl rfl, .inr ⟨_, rfl, rfl⟩, trivial⟩, trivial⟩ ?_ | exact N.true | fail)
  by_cases hs : serOK seq
  rotate_left
  · repeat' (refine N.go ?_; first | with_reducible (first | refine N.obl (by decide) ?_ | refine N.eq ?_ | refine N.obl rfl ?_ | refine N.obl ⟨by kernel_rfl, by kernel_rfl⟩ ?_ | refine N.alt ?_ | refine N.forkT ?_ | refine N.forkF ?_) | refine N.call (cRSer _ _) ?_ | refine N.call (cRTime _ _) ?_ | refine N.forkNo (decide_eq_false hn1) ?_ | refine N.forkNo (decide_eq_false hn2) ?_ | refine N.forkNo (by rw [decide_eq_true hb]; rfl) ?_ | refine N.forkYes (by rw [decide_eq_false hs]; rfl) ?_ | refine N.endSame ?_ | refine N.some (u, lv, R) ⟨hS, ?_⟩ | refine N.obl (.plain rfl) ?_ | refine N.obl ⟨⟨_, rfl, fun h => h, Nat.le_refl _, rt_re⟩, ⟨_, rfl, fun h => h, Nat.le_refl _, rv_re⟩, trivial⟩ ?_ | refine N.obl trivial ?_ | refine N.obl ⟨⟨.inl rfl, .inr ⟨_, rfl, rfl⟩, trivial⟩, trivial⟩ ?_ | exact N.true | fail)
  have ht : ¬ (0 ≤ now ∧ now ≤ 1000000) := fun ht => ha ⟨⟨by omega, by omega⟩, hb, hs, ht⟩
  repeat' (refine N.go ?_; first | with_reducible (first | refine N.obl (by decide) ?_ | refine N.eq ?_ | refine N.obl rfl ?_ | refine N.obl ⟨by kernel_rfl, by kernel_rfl⟩ ?_ | refine N.alt ?_ | refine N.forkT ?_ | refine N.forkF ?_) | refine N.call (cRSer _ _) ?_ | refine N.call (cRTime _ _) ?_ | refine N.forkNo (decide_eq_false hn1) ?_ | refine N.forkNo (decide_eq_false hn2) ?_ | refine N.forkNo (by rw [decide_eq_true hb]; rfl) ?_ | refine N.forkNo (by rw [decide_eq_true hs]; rfl) ?_ | refine N.forkYes (by rw [decide_eq_false ht]; rfl) ?_ | refine N.endSame ?_ | refine N.some (u, lv, R) ⟨hS, ?_⟩ | refine N.obl (.plain rfl) ?_ | refine N.obl ⟨⟨_, rfl, fun h => h, Nat.le_refl _, rt_re⟩, ⟨_, rfl, fun h => h, Nat.le_refl _, rv_re⟩, trivial⟩ ?_ | refine N.obl trivial ?_ | refine N.obl ⟨⟨.inl rfl, .inr ⟨_, rfl, rfl⟩, trivial⟩, trivial⟩ ?_ | exact N.true | fail)
theorem cRHearOld [ZW] (M : RTb) (u : Option Sl) (lv : Nat → RLv) (R : List Rw) (hS : RtS R u lv M) (hl : M.L.length ≤ 500) (n boot seq now : Int) (ha : argsOK n boot seq now) (ho : oldP (M.lv n.toNat) boot) (i g : Nat) (h : List (Option Chunk)) (hi : h[i]? = some (some (rtC M.most u lv))) (hg : h[g]? = some (some (rvC R))) (hig : i ≠ g) : CallAll Tryz.prog 7 [.pointer (some ⟨i, 0, some 0⟩), .int .i64 n, .int .i64 boot, .int .i64 seq, .int .i64 now] h (fun v ms => ∃ κ : Option Sl × (Nat → RLv) × List Rw, RtS κ.2.2 κ.1 κ.2.1 M ∧ v = .int .i64 9 ∧ ms = [(i, rtC M.most κ.1 κ.2.1), (g, rvC κ.2.2)]) := by
  refine CallAll.to (call_resall (G := tys) (h := h) (vs := [.pointer (some ⟨i, 0, some 0⟩), .int .i64 n, .int .i64 boot, .int .i64 seq, .int .i64 now]) (fun _ : Unit => True) (fun _ => _) (α := Option Sl × (Nat → RLv) × List Rw) (fun κ => RtS κ.2.2 κ.1 κ.2.1 M) (fun κ => .int .i64 9) [⟨i, rtC M.most u lv, rtC M.most u lv, rtC M.most u lv⟩, ⟨g, rvC R, rvC R, rvC R⟩] (fun κ => [rtC M.most κ.1 κ.2.1, rvC κ.2.2]) (fun κ => []) [.pointer (some ⟨0, 0, some 0⟩), .int .i64 n, .int .i64 boot, .int .i64 seq, .int .i64 now] tysOK mixed Tryz.func7 (by rfl) (Tryz.call7) ⟨hi, hg, trivial⟩ ⟨⟨fun h => ⟨rfl, Nat.le_refl _⟩, Nat.le_refl _, rt_re⟩, ⟨fun h => ⟨rfl, Nat.le_refl _⟩, Nat.le_refl _, rv_re⟩, trivial⟩ (fun κ _ => ⟨⟨fun h => ⟨rfl, Nat.le_refl _⟩, Nat.le_refl _, rt_re⟩, ⟨fun h => ⟨rfl, Nat.le_refl _⟩, Nat.le_refl _, rv_re⟩, trivial⟩) (by simp [Apart, hig]) ⟨.inl rfl, .inr ⟨rfl, rfl⟩, trivial⟩ (fun κ _ => trivial) ⟨.ptr rfl, .plain rfl, .plain rfl, .plain rfl, .plain rfl, trivial⟩ Opens.same ?_) ?_
  rotate_left
  · rintro v ms ⟨κ, hκ, rfl, rfl⟩
    exact ⟨κ, hκ, rfl, rfl⟩
  rintro ⟨⟩ -
  obtain ⟨⟨hn0, hn64⟩, hb, hs, ht⟩ := ha
  obtain ⟨k, rfl⟩ : ∃ k : Nat, n = k := ⟨n.toNat, by omega⟩
  have hk : k < 64 := by omega
  have hn1 : ¬ ((k : Nat) : Int) < 0 := by omega
  have hn2 : ¬ ((k : Nat) : Int) > 63 := by omega
  have hE := hS.e
  obtain ⟨a1, a2, a3, a4, a5⟩ := hS.lv k hk
  obtain ⟨o1, o2⟩ := ho
  rw [Int.toNat_natCast] at o1 o2
  rw [← a1] at o1
  rw [← a3, ← a2] at o2
  rcases o2 with ⟨o2, o3⟩ | ⟨o2, o3⟩
  · repeat' (refine N.go ?_; first | with_reducible (first | refine N.obl (by decide) ?_ | refine N.eq ?_ | refine N.obl rfl ?_ | refine N.obl ⟨by kernel_rfl, by kernel_rfl⟩ ?_ | refine N.alt ?_ | refine N.forkT ?_ | refine N.forkF ?_) | refine N.call (cRSer _ _) ?_ | refine N.call (cRTime _ _) ?_ | refine N.call (cRLess _ _ _) ?_ | refine N.forkNo (decide_eq_false hn1) ?_ | refine N.forkNo (decide_eq_false hn2) ?_ | refine N.forkNo (by rw [decide_eq_true hb]; rfl) ?_ | refine N.forkNo (by rw [decide_eq_true hs]; rfl) ?_ | refine N.forkNo (by rw [decide_eq_true ht]; rfl) ?_ | refine N.idx k 1 rfl hk ?_ | refine N.load _ (rd_lv k rfl hk rfl) ?_ | refine N.forkYes o1 ?_ | refine N.forkYes (by simpa using o2) ?_ | refine N.forkYes (by rw [decide_eq_false o3]; rfl) ?_ | refine N.endSame ?_ | refine N.some (u, lv, R) ⟨hS, ?_⟩ | refine N.obl (.plain rfl) ?_ | refine N.obl ⟨⟨_, rfl, fun h => h, Nat.le_refl _, rt_re⟩, ⟨_, rfl, fun h => h, Nat.le_refl _, rv_re⟩, trivial⟩ ?_ | refine N.obl trivial ?_ | refine N.obl ⟨⟨.inl rfl, .inr ⟨_, rfl, rfl⟩, trivial⟩, trivial⟩ ?_ | exact N.true | fail)
  · repeat' (refine N.go ?_; first | with_reducible (first | refine N.obl (by decide) ?_ | refine N.eq ?_ | refine N.obl rfl ?_ | refine N.obl ⟨by kernel_rfl, by kernel_rfl⟩ ?_ | refine N.alt ?_ | refine N.forkT ?_ | refine N.forkF ?_) | refine N.call (cRSer _ _) ?_ | refine N.call (cRTime _ _) ?_ | refine N.call (cRLess _ _ _) ?_ | refine N.forkNo (decide_eq_false hn1) ?_ | refine N.forkNo (decide_eq_false hn2) ?_ | refine N.forkNo (by rw [decide_eq_true hb]; rfl) ?_ | refine N.forkNo (by rw [decide_eq_true hs]; rfl) ?_ | refine N.forkNo (by rw [decide_eq_true ht]; rfl) ?_ | refine N.idx k 1 rfl hk ?_ | refine N.load _ (rd_lv k rfl hk rfl) ?_ | refine N.forkYes o1 ?_ | refine N.forkNo (by simpa using o2) ?_ | refine N.forkYes (by simpa using o2) ?_ | refine N.forkYes o3 ?_ | refine N.endSame ?_ | refine N.some (u, lv, R) ⟨hS, ?_⟩ | refine N.obl (.plain rfl) ?_ | refine N.obl ⟨⟨_, rfl, fun h => h, Nat.le_refl _, rt_re⟩, ⟨_, rfl, fun h => h, Nat.le_refl _, rv_re⟩, trivial⟩ ?_ | refine N.obl trivial ?_ | refine N.obl ⟨⟨.inl rfl, .inr ⟨_, rfl, rfl⟩, trivial⟩, trivial⟩ ?_ | exact N.true | fail)
theorem ag_re {ix : List (Nat × Nat)} {a b : Bool} {c d : Int} {u : Option Sl} : Re2 ix (.agg ⟨[.bool a, .bool b, .int .i64 c, uV u, .int .i64 d]⟩) (.agg ⟨[.bool a, .bool b, .int .i64 c, uV u, .int .i64 d]⟩) := .agg ⟨.plain rfl, .plain rfl, .plain rfl, .quo, .plain rfl, trivial⟩
theorem lt10 {p : Nat → Prop} (h0 : p 0) (h1 : p 1) (h2 : p 2) (h3 : p 3) (h4 : p 4) (h5 : p 5) (h6 : p 6) (h7 : p 7) (h8 : p 8) (h9 : p 9) : ∀ j, j < 10 → p j := fun j hj => by
  match j, hj with
  | 0, _ => exact h0
  | 1, _ => exact h1
  | 2, _ => exact h2
  | 3, _ => exact h3
  | 4, _ => exact h4
  | 5, _ => exact h5
  | 6, _ => exact h6
  | 7, _ => exact h7
  | 8, _ => exact h8
  | 9, _ => exact h9
theorem e_ren {ix : List (Nat × Nat)} {n b w : Int} {e : Ent} : ChunkReLe ix ⟨true, 10, [(2, 1, .int .i64 w), (1, 1, .int .i64 b), (0, 1, .int .i64 n), (0, 10, entV e)]⟩ ⟨true, 10, [(2, 1, .int .i64 w), (1, 1, .int .i64 b), (0, 1, .int .i64 n), (0, 10, entV e)]⟩ :=
  ⟨id, Nat.le_refl _, lt10 (.plain rfl) (.plain rfl) (.plain rfl) (.plain rfl) (.plain rfl) (.plain rfl) (.plain rfl) (.plain rfl) (.plain rfl) (.plain rfl)⟩
theorem cRWHear2 [ZW] (x : RLv) (R : List Rw) (l : List Int) (hI : RowI R x.wu l) (hl : l.length ≤ 1000) (q : Int) (hq : serOK q) (e : Int) (wl : List Int) (la : Int) (hrw : rwHear l x.last q = (e, wl, la)) (c : Chunk) (hc : c.own = true ∧ c.n = 5 ∧ c.x = Ext.none) (hcr : ∀ ix, ∀ j, j < 5 → Re1 ix (c.f j) ((fC x).f j)) (i g : Nat) (h : List (Option Chunk)) (hi : h[i]? = some (some c)) (hg : h[g]? = some (some (rvC R))) (hig : i ≠ g) :
    CallAll Tryz.prog 29 [.pointer (some ⟨i, 3, some 0⟩), .int .i64 q] h (fun v ms => ∃ κ : Option Sl × List Rw, (RowI κ.2 κ.1 wl ∧ ∀ r ∈ R, r ∈ κ.2) ∧ v = .int .i64 e ∧ ms = [(i, fC ⟨x.known, x.left, x.boot, κ.1, la⟩), (g, rvC κ.2)]) := by
  have := cRWHear x R l hI hl q hq c hc hcr i g h hi hg hig
  rw [hrw] at this
  exact this
def oldK (L : List Ent) (e0 : Ent) (k : Nat) : Ent := match oldO (L.take k) with
  | some o => o
  | none => e0
theorem oldK_next {L : List Ent} {e0 : Ent} {k : Nat} {x : Ent} (h0 : L[0]? = some e0) (hx : L[k]? = some x) : oldK L e0 (k + 1) = if x.heard < (oldK L e0 k).heard then x else oldK L e0 k := by
  have hs : oldO (L.take (k + 1)) = oldF (oldO (L.take k)) x := by rw [List.take_add_one, hx]; exact oldO_snoc _ _
  unfold oldK
  rw [hs]
  cases ho : oldO (L.take k) with
  | some o => rfl
  | none =>
    have hk : k = 0 := by
      cases k with
      | zero => rfl
      | succ k =>
        have hl : k < L.length := by have := (List.getElem?_eq_some_iff.1 hx).1; omega
        rw [List.take_add_one, List.getElem?_eq_getElem hl] at ho
        rw [show L.take k ++ (some L[k]).toList = L.take k ++ [L[k]] from rfl, oldO_snoc] at ho
        unfold oldF at ho
        split at ho <;> cases ho
    subst hk
    rw [h0] at hx
    obtain rfl := Option.some.inj hx
    simp only [oldF]
    rw [if_neg (Int.lt_irrefl _)]
theorem oldK_all {L : List Ent} {e0 : Ent} (h0 : L[0]? = some e0) : oldK L e0 L.length = oldE L := by
  unfold oldK oldE
  rw [List.take_length]
  cases ho : oldO L with
  | some o => rfl
  | none =>
    exfalso
    cases hL : L.length with
    | zero => rw [List.length_eq_zero_iff.1 hL] at h0; simp at h0
    | succ n =>
      have hl : n < L.length := by omega
      have e1 : L = L.take n ++ [L[n]] := by
        have := List.take_add_one (l := L) (i := n)
        rw [List.getElem?_eq_getElem hl, List.take_of_length_le (by omega)] at this
        exact this
      rw [e1, oldO_snoc] at ho
      unfold oldF at ho
      split at ho <;> cases ho
theorem cRHearGo [ZW] (M : RTb) (u : Option Sl) (lv : Nat → RLv) (R : List Rw) (hS : RtS R u lv M) (hl : M.L.length ≤ 500) (n boot seq now : Int) (ha : argsOK n boot seq now) (ho : ¬ oldP (M.lv n.toNat) boot) (hwl : ∀ k, (M.lv k).wl.length ≤ 500) (hmost : 1 ≤ M.most) (i g : Nat) (h : List (Option Chunk)) (hi : h[i]? = some (some (rtC M.most u lv))) (hg : h[g]? = some (some (rvC R))) (hig : i ≠ g) : CallAll Tryz.prog 7 [.pointer (some ⟨i, 0, some 0⟩), .int .i64 n, .int .i64 boot, .int .i64 seq, .int .i64 now] h (fun v ms => ∃ κ : Option Sl × (Nat → RLv) × List Rw, RtS κ.2.2 κ.1 κ.2.1 (rhear M n boot seq now).2 ∧ v = .int .i64 (rhear M n boot seq now).1 ∧ ms = [(i, rtC M.most κ.1 κ.2.1), (g, rvC κ.2.2)]) := by
  refine CallAll.to (call_resall (G := tys) (h := h) (vs := [.pointer (some ⟨i, 0, some 0⟩), .int .i64 n, .int .i64 boot, .int .i64 seq, .int .i64 now]) (fun _ : Unit => True) (fun _ => _) (α := Option Sl × (Nat → RLv) × List Rw) (fun κ => RtS κ.2.2 κ.1 κ.2.1 (rhear M n boot seq now).2) (fun κ => .int .i64 (rhear M n boot seq now).1) [⟨i, rtC M.most u lv, rtC M.most u lv, rtC M.most u lv⟩, ⟨g, rvC R, rvC R, rvC R⟩] (fun κ => [rtC M.most κ.1 κ.2.1, rvC κ.2.2]) (fun κ => []) [.pointer (some ⟨0, 0, some 0⟩), .int .i64 n, .int .i64 boot, .int .i64 seq, .int .i64 now] tysOK mixed Tryz.func7 (by rfl) (Tryz.call7) ⟨hi, hg, trivial⟩ ⟨⟨fun h => ⟨rfl, Nat.le_refl _⟩, Nat.le_refl _, rt_re⟩, ⟨fun h => ⟨rfl, Nat.le_refl _⟩, Nat.le_refl _, rv_re⟩, trivial⟩ (fun κ _ => ⟨⟨fun h => ⟨rfl, Nat.le_refl _⟩, Nat.le_refl _, rt_re⟩, ⟨fun h => ⟨rfl, Nat.le_refl _⟩, Nat.le_refl _, rv_re⟩, trivial⟩) (by simp [Apart, hig]) ⟨.inl rfl, .inr ⟨rfl, rfl⟩, trivial⟩ (fun κ _ => trivial) ⟨.ptr rfl, .plain rfl, .plain rfl, .plain rfl, .plain rfl, trivial⟩ Opens.same ?_) ?_
  rotate_left
  · rintro v ms ⟨κ, hκ, rfl, rfl⟩
    exact ⟨κ, hκ, rfl, rfl⟩
  rintro ⟨⟩ -
  have hargs := ha
  obtain ⟨⟨hn0, hn64⟩, hb, hs, ht⟩ := ha
  obtain ⟨k, rfl⟩ : ∃ k : Nat, n = k := ⟨n.toNat, by omega⟩
  have hk : k < 64 := by omega
  have hn1 : ¬ ((k : Nat) : Int) < 0 := by omega
  have hn2 : ¬ ((k : Nat) : Int) > 63 := by omega
  have hE := hS.e
  obtain ⟨a1, a2, a3, a4, a5⟩ := hS.lv k hk
  rw [Int.toNat_natCast] at ho
  by_cases hkn : (lv k).known = true
  · by_cases hbt : (lv k).boot = boot
    · have hlf : (lv k).left = false := by
        cases hc : (lv k).left with
        | false => rfl
        | true => exact absurd ⟨a1.symm.trans hkn, .inr ⟨a3.symm.trans hbt, a2.symm.trans hc⟩⟩ ho
      repeat' (refine N.go ?_; first | with_reducible (first | refine N.obl (by decide) ?_ | refine N.eq ?_ | refine N.obl rfl ?_ | refine N.obl ⟨by kernel_rfl, by kernel_rfl⟩ ?_ | refine N.alt ?_ | refine N.forkT ?_ | refine N.forkF ?_) | refine N.call (cRSer _ _) ?_ | refine N.call (cRTime _ _) ?_ | refine N.call (cRLess _ _ _) ?_ | refine N.forkNo (decide_eq_false hn1) ?_ | refine N.forkNo (decide_eq_false hn2) ?_ | refine N.forkNo (by rw [decide_eq_true hb]; rfl) ?_ | refine N.forkNo (by rw [decide_eq_true hs]; rfl) ?_ | refine N.forkNo (by rw [decide_eq_true ht]; rfl) ?_ | refine N.idx k 1 rfl hk ?_ | refine N.load _ (rd_lv k rfl hk rfl) ?_ | refine N.forkYes hkn ?_ | refine N.forkNo (by rw [hbt]; exact bne_self_eq_false _) ?_ | refine N.forkYes (by rw [hbt]; exact beq_self_eq_true _) ?_ | refine N.forkNo hlf ?_ | refine N.forkNo (by rw [hkn]; rfl) ?_ | fail)
      refine N.go ?_
      obtain ⟨e, wl', la, hrw⟩ : ∃ e wl' la, rwHear (M.lv k).wl ((lv k)).last seq = (e, wl', la) := ⟨_, _, _, rfl⟩
      have herr := rwHear_err (M.lv k).wl ((lv k)).last seq
      have hlen0 : ((M.lv k).wl).length ≤ 1000 := Nat.le_trans (hwl k) (by decide)
      refine N.callAll (cRWHear2 (lv k) R (M.lv k).wl a5 hlen0 seq hs e wl' la hrw (fC (lv k)) ⟨rfl, rfl, rfl⟩ (fun ix => f_re) 2 1 _ (by rfl) (by rfl) (by decide)) fun v ms hRR => ?_
      obtain ⟨⟨wu', R'⟩, ⟨hI', hR'⟩, rfl, rfl⟩ := hRR
      have hrh : rhear M k boot seq now = if e = 0 then (0, ⟨M.most, setE (roomE M.most M.L k) (stampE (keepE (findE M.L k) boot) k boot now), setF M.lv k ⟨(M.lv k).known, (M.lv k).left, (M.lv k).boot, wl', la⟩⟩) else (9, M) := by
        unfold rhear
        rw [if_pos hargs, Int.toNat_natCast, if_neg ho]
        simp only [show freshF (M.lv k) boot = M.lv k from if_pos ⟨a1.symm.trans hkn, a3.symm.trans hbt⟩]
        rw [← a4, hrw]
      rw [hrw] at herr
      rcases herr with he0 | ⟨he9, hsame⟩
      rotate_left
      · have he9 : e = 9 := he9
        subst he9
        rw [hrh, if_neg (by decide)]
        repeat' (refine N.go ?_; first | with_reducible (first | refine N.obl (by decide) ?_ | refine N.eq ?_ | refine N.obl rfl ?_ | refine N.obl ⟨by kernel_rfl, by kernel_rfl⟩ ?_ | refine N.alt ?_ | refine N.forkT ?_ | refine N.forkF ?_) | refine N.forkNo (by decide) ?_ | refine N.forkYes (by decide) ?_ | refine N.endSame ?_ | refine N.some (u, lv, R') ⟨hS.more hR', ?_⟩ | refine N.obl (.plain rfl) ?_ | refine N.obl ⟨⟨_, rfl, fun h => h, Nat.le_refl _, rt_re⟩, ⟨_, rfl, fun h => h, Nat.le_refl _, rv_re⟩, trivial⟩ ?_ | refine N.obl trivial ?_ | refine N.obl ⟨⟨.inl rfl, .inr ⟨_, rfl, rfl⟩, trivial⟩, trivial⟩ ?_ | exact N.true | fail)
      have he0 : e = 0 := he0
      subst he0
      rw [hrh, if_pos rfl]
      have hx' : LvR R' ⟨(lv k).known, (lv k).left, (lv k).boot, wu', la⟩ ⟨(M.lv k).known, (M.lv k).left, (M.lv k).boot, wl', la⟩ := ⟨a1, a2, a3, rfl, hI'⟩
      have hE' : RowE R' u M.L := hE.more hR'
      have hl' : M.L.length ≤ 1000 := by omega
      have hlen := hE.len
      cases hfe : findE M.L k with
      | some e =>
        have hroom : roomE M.most M.L k = M.L := by unfold roomE; rw [hfe, if_neg (by simp)]
        rw [hroom]
        by_cases hbb : e.boot = boot
        · have hke : keepE (some e) boot = e := by simp [keepE, hbb]
          rw [hke]
          repeat' (refine N.go ?_; first | with_reducible (first | refine N.obl (by decide) ?_ | refine N.eq ?_ | refine N.obl rfl ?_ | refine N.obl ⟨by kernel_rfl, by kernel_rfl⟩ ?_ | refine N.alt ?_ | refine N.forkT ?_ | refine N.forkF ?_) | refine N.forkNo (by decide) ?_ | refine N.forkYes (by decide) ?_ | refine N.idx k 1 rfl hk ?_ | refine N.store _ (wr_lv k ⟨(lv k).known, (lv k).left, (lv k).boot, wu', la⟩ rfl hk rfl) ?_ | refine N.call (cRGetY M.most u (setP lv k ⟨(lv k).known, (lv k).left, (lv k).boot, wu', la⟩) R' M.L hE' hl' k e hfe 0 1 _ (by rfl) (by rfl) (by decide)) ?_ | refine N.forkNo (by rw [hbb]; exact bne_self_eq_false _) ?_ | fail)
          refine N.go ?_
          refine N.callAll (cRSetO M.most u (setP lv k ⟨(lv k).known, (lv k).left, (lv k).boot, wu', la⟩) R' M.L hE' hl' (stampE e k boot now) 0 1 _ (by rfl) (by rfl) (by decide)) fun v ms hR2 => ?_
          obtain ⟨u2, R2, hE2, hR2, rfl, rfl⟩ := hR2
          repeat' (refine N.go ?_; first | with_reducible (first | refine N.obl (by decide) ?_ | refine N.eq ?_ | refine N.obl rfl ?_ | refine N.obl ⟨by kernel_rfl, by kernel_rfl⟩ ?_ | refine N.alt ?_ | refine N.forkT ?_ | refine N.forkF ?_) | refine N.endSame ?_ | refine N.some (u2, (setP lv k ⟨(lv k).known, (lv k).left, (lv k).boot, wu', la⟩), R2) ⟨hS.set hR' hR2 hx' hE2, ?_⟩ | refine N.obl (.plain rfl) ?_ | refine N.obl ⟨⟨_, rfl, fun h => h, Nat.le_refl _, rt_re⟩, ⟨_, rfl, fun h => h, Nat.le_refl _, rv_re⟩, trivial⟩ ?_ | refine N.obl trivial ?_ | refine N.obl ⟨⟨.inl rfl, .inr ⟨_, rfl, rfl⟩, trivial⟩, trivial⟩ ?_ | exact N.true | fail)
        · have hke : keepE (some e) boot = Ent.zero := by simp [keepE, hbb]
          rw [hke]
          repeat' (refine N.go ?_; first | with_reducible (first | refine N.obl (by decide) ?_ | refine N.eq ?_ | refine N.obl rfl ?_ | refine N.obl ⟨by kernel_rfl, by kernel_rfl⟩ ?_ | refine N.alt ?_ | refine N.forkT ?_ | refine N.forkF ?_) | refine N.forkNo (by decide) ?_ | refine N.forkYes (by decide) ?_ | refine N.idx k 1 rfl hk ?_ | refine N.store _ (wr_lv k ⟨(lv k).known, (lv k).left, (lv k).boot, wu', la⟩ rfl hk rfl) ?_ | refine N.call (cRGetY M.most u (setP lv k ⟨(lv k).known, (lv k).left, (lv k).boot, wu', la⟩) R' M.L hE' hl' k e hfe 0 1 _ (by rfl) (by rfl) (by decide)) ?_ | refine N.forkYes (by simpa using hbb) ?_ | fail)
          refine N.go ?_
          refine N.callAll (cRSetO M.most u (setP lv k ⟨(lv k).known, (lv k).left, (lv k).boot, wu', la⟩) R' M.L hE' hl' (stampE Ent.zero k boot now) 0 1 _ (by rfl) (by rfl) (by decide)) fun v ms hR2 => ?_
          obtain ⟨u2, R2, hE2, hR2, rfl, rfl⟩ := hR2
          repeat' (refine N.go ?_; first | with_reducible (first | refine N.obl (by decide) ?_ | refine N.eq ?_ | refine N.obl rfl ?_ | refine N.obl ⟨by kernel_rfl, by kernel_rfl⟩ ?_ | refine N.alt ?_ | refine N.forkT ?_ | refine N.forkF ?_) | refine N.endSame ?_ | refine N.some (u2, (setP lv k ⟨(lv k).known, (lv k).left, (lv k).boot, wu', la⟩), R2) ⟨hS.set hR' hR2 hx' hE2, ?_⟩ | refine N.obl (.plain rfl) ?_ | refine N.obl ⟨⟨_, rfl, fun h => h, Nat.le_refl _, rt_re⟩, ⟨_, rfl, fun h => h, Nat.le_refl _, rv_re⟩, trivial⟩ ?_ | refine N.obl trivial ?_ | refine N.obl ⟨⟨.inl rfl, .inr ⟨_, rfl, rfl⟩, trivial⟩, trivial⟩ ?_ | exact N.true | fail)
      | none =>
        have hke : keepE none boot = Ent.zero := rfl
        rw [hke]
        by_cases hfull : M.most ≤ (M.L.length : Int)
        · have hne : 0 < M.L.length := by omega
          obtain ⟨e0, hz0⟩ : ∃ e0, M.L[0]? = some e0 := ⟨_, List.getElem?_eq_getElem hne⟩
          have hroom : roomE M.most M.L k = dropE M.L (oldE M.L).node := by unfold roomE; rw [hfe, if_pos ⟨rfl, hfull⟩]
          rw [hroom]
          have hE3 := hE'
          rcases hE3 with ⟨_, h0⟩ | ⟨r, hr, hu, hrk, hrn, hx, hrc⟩
          · rw [h0] at hne; exact absurd hne (Nat.not_lt_zero 0)
          subst hu
          have hlen2 : r.n = M.L.length := hrn
          repeat' (refine N.go ?_; first | with_reducible (first | refine N.obl (by decide) ?_ | refine N.eq ?_ | refine N.obl rfl ?_ | refine N.obl ⟨by kernel_rfl, by kernel_rfl⟩ ?_ | refine N.alt ?_ | refine N.forkT ?_ | refine N.forkF ?_) | refine N.forkNo (by decide) ?_ | refine N.forkYes (by decide) ?_ | refine N.idx k 1 rfl hk ?_ | refine N.store _ (wr_lv k ⟨(lv k).known, (lv k).left, (lv k).boot, wu', la⟩ rfl hk rfl) ?_ | refine N.call (cRGetN M.most (some r.sl) (setP lv k ⟨(lv k).known, (lv k).left, (lv k).boot, wu', la⟩) R' M.L hE' hl' k hfe 0 1 _ (by rfl) (by rfl) (by decide)) ?_ | refine N.op (ok_lenU rfl rfl ⟨_, rfl, _, Tryz.underlying46⟩) ?_ | refine N.forkYes (decide_eq_true (by show ((r.n : Nat) : Int) ≥ M.most; omega)) ?_ | refine N.op (ok_idxR (sz := 10) (g := r.o) tysOK rfl rfl (fun ρ => by rw [uV_den]; rfl) ⟨rfl, rfl⟩ (by exact rfl) (by decide) (by show (0 : Int) < ((r.n : Nat) : Int); omega) (by show r.o + (0 : Int).toNat * 10 = _; simp)) ?_ | refine N.op (ok_loadVA (i := 1) r (enCs e0) 0 tysOK rfl rfl rfl (by rfl) hr (by exact ⟨rfl, rfl⟩) rfl rfl (fun j v hv => by rw [hx]; simpa using flat_at hz0 j v hv)) ?_ | fail)
          refine N.go ?_
          have hE4 := hE'
          refine N.loopR (α := Nat) (fun y => y ≤ M.L.length) (fun y => M.L.length - y) (fun y => [(142, .int .i64 (y : Nat))]) (fun y => [(8, ⟨true, 10, [(0, 10, entV (oldK M.L e0 y))]⟩)]) 0 [(0, 0), (1, 1), (2, 2), (7, 7), (8, 8)] (Nat.zero_le _) ?_ ?_
          · repeat' (refine N.go ?_; first | with_reducible (first | refine N.obl (by decide) ?_ | refine N.eq ?_ | refine N.obl rfl ?_ | refine N.obl ⟨by kernel_rfl, by kernel_rfl⟩ ?_ | refine N.alt ?_ | refine N.forkT ?_ | refine N.forkF ?_) | exact N.true | refine N.obl (.plain (by rfl)) ?_ | refine N.obl (re_eqn (int_eqn (by rw [i64s ((y : Int) + 1) (by omega) (by omega)]; rfl)) rfl) ?_ | refine N.obl (.one (.ptr rfl)) ?_ | refine N.obl rt_ren ?_ | refine N.obl rv_ren ?_ | refine N.obl f_ren ?_ | refine N.obl (ChunkReLe.same (agg_plain (by rfl) (by rfl))) ?_ | refine N.obl e_ren ?_ | refine N.obl (.one .quo) ?_ | refine N.obl (.one ag_re) ?_ | fail)
          intro y hy
          by_cases hyl : y < M.L.length
          · obtain ⟨z, hz⟩ : ∃ z, M.L[y]? = some z := ⟨_, List.getElem?_eq_getElem hyl⟩
            have hlt : ((y : Nat) : Int) < ((r.n : Nat) : Int) := by omega
            have hnx := oldK_next hz0 hz
            repeat' (refine N.go ?_; first | with_reducible (first | refine N.obl (by decide) ?_ | refine N.eq ?_ | refine N.obl rfl ?_ | refine N.obl ⟨by kernel_rfl, by kernel_rfl⟩ ?_ | refine N.alt ?_ | refine N.forkT ?_ | refine N.forkF ?_) | refine N.forkYes (decide_eq_true hlt) ?_ | refine N.op (ok_idxR (sz := 10) (g := r.o + y * 10) tysOK rfl rfl (fun ρ => by rw [uV_den]; rfl) rfl (by exact rfl) (by omega) (by show ((y : Nat) : Int) < ((r.n : Nat) : Int); omega) (by show r.o + ((y : Nat) : Int).toNat * 10 = _; rw [Int.toNat_natCast])) ?_ | refine N.op (ok_loadVA (i := 1) r (enCs z) (y * 10) tysOK rfl rfl rfl (by rfl) hr (by exact ⟨rfl, rfl⟩) rfl rfl (fun j v hv => by rw [hx]; exact flat_at hz j v hv)) ?_ | fail)
            by_cases hc : z.heard < (oldK M.L e0 y).heard
            · rw [if_pos hc] at hnx
              repeat' (refine N.go ?_; first | with_reducible (first | refine N.obl (by decide) ?_ | refine N.eq ?_ | refine N.obl rfl ?_ | refine N.obl ⟨by kernel_rfl, by kernel_rfl⟩ ?_ | refine N.alt ?_ | refine N.forkT ?_ | refine N.forkF ?_) | refine N.forkYes (decide_eq_true hc) ?_ | fail)
              refine N.go ?_
              refine N.nextR (α := Nat) (y + 1) [(0, 0), (1, 1), (2, 2), (7, 7), (8, 8)] ⟨hyl, by show M.L.length - (y + 1) < M.L.length - y; omega⟩ ?_
              repeat' (refine N.go ?_; first | with_reducible (first | refine N.obl (by decide) ?_ | refine N.eq ?_ | refine N.obl rfl ?_ | refine N.obl ⟨by kernel_rfl, by kernel_rfl⟩ ?_ | refine N.alt ?_ | refine N.forkT ?_ | refine N.forkF ?_) | exact N.true | refine N.obl (.plain (by rfl)) ?_ | refine N.obl (re_eqn (int_eqn (by rw [i64s ((y : Int) + 1) (by omega) (by omega)]; rfl)) rfl) ?_ | refine N.obl (.one (.ptr rfl)) ?_ | refine N.obl rt_ren ?_ | refine N.obl rv_ren ?_ | refine N.obl f_ren ?_ | refine N.obl (by show ChunkReLe _ ⟨true, 10, [(0, 10, entV (oldK M.L e0 (y + 1)))]⟩ _; rw [hnx]; exact ChunkReLe.same (agg_plain (by rfl) (by rfl))) ?_ | refine N.obl (ChunkReLe.same (agg_plain (by rfl) (by rfl))) ?_ | refine N.obl e_ren ?_ | refine N.obl (.one .quo) ?_ | refine N.obl (.one ag_re) ?_ | fail)
            · rw [if_neg hc] at hnx
              repeat' (refine N.go ?_; first | with_reducible (first | refine N.obl (by decide) ?_ | refine N.eq ?_ | refine N.obl rfl ?_ | refine N.obl ⟨by kernel_rfl, by kernel_rfl⟩ ?_ | refine N.alt ?_ | refine N.forkT ?_ | refine N.forkF ?_) | refine N.forkNo (decide_eq_false hc) ?_ | fail)
              refine N.go ?_
              refine N.nextR (α := Nat) (y + 1) [(0, 0), (1, 1), (2, 2), (7, 7), (8, 8)] ⟨hyl, by show M.L.length - (y + 1) < M.L.length - y; omega⟩ ?_
              repeat' (refine N.go ?_; first | with_reducible (first | refine N.obl (by decide) ?_ | refine N.eq ?_ | refine N.obl rfl ?_ | refine N.obl ⟨by kernel_rfl, by kernel_rfl⟩ ?_ | refine N.alt ?_ | refine N.forkT ?_ | refine N.forkF ?_) | exact N.true | refine N.obl (.plain (by rfl)) ?_ | refine N.obl (re_eqn (int_eqn (by rw [i64s ((y : Int) + 1) (by omega) (by omega)]; rfl)) rfl) ?_ | refine N.obl (.one (.ptr rfl)) ?_ | refine N.obl rt_ren ?_ | refine N.obl rv_ren ?_ | refine N.obl f_ren ?_ | refine N.obl (by show ChunkReLe _ ⟨true, 10, [(0, 10, entV (oldK M.L e0 (y + 1)))]⟩ _; rw [hnx]; exact ChunkReLe.same (agg_plain (by rfl) (by rfl))) ?_ | refine N.obl (ChunkReLe.same (agg_plain (by rfl) (by rfl))) ?_ | refine N.obl e_ren ?_ | refine N.obl (.one .quo) ?_ | refine N.obl (.one ag_re) ?_ | fail)
          · have hyL : y = M.L.length := by omega
            subst hyL
            rw [oldK_all hz0]
            have hnl : ¬ ((M.L.length : Nat) : Int) < ((r.n : Nat) : Int) := by omega
            repeat' (refine N.go ?_; first | with_reducible (first | refine N.obl (by decide) ?_ | refine N.eq ?_ | refine N.obl rfl ?_ | refine N.obl ⟨by kernel_rfl, by kernel_rfl⟩ ?_ | refine N.alt ?_ | refine N.forkT ?_ | refine N.forkF ?_) | refine N.forkNo (decide_eq_false hnl) ?_ | fail)
            refine N.go ?_
            refine N.callAll (cRDropO M.most (some r.sl) (setP lv k ⟨(lv k).known, (lv k).left, (lv k).boot, wu', la⟩) R' M.L hE4 hl' (oldE M.L).node 0 1 _ (by rfl) (by rfl) (by decide)) fun v ms hR3 => ?_
            obtain ⟨u3, R3, hE3, hR3, rfl, rfl⟩ := hR3
            have hl3 : (dropE M.L (oldE M.L).node).length ≤ 1000 := Nat.le_trans (List.length_filter_le _ _) hl'
            repeat' (refine N.go ?_; first | with_reducible (first | refine N.obl (by decide) ?_ | refine N.eq ?_ | refine N.obl rfl ?_ | refine N.obl ⟨by kernel_rfl, by kernel_rfl⟩ ?_ | refine N.alt ?_ | refine N.forkT ?_ | refine N.forkF ?_) | fail)
            refine N.go ?_
            refine N.callAll (cRSetO M.most u3 (setP lv k ⟨(lv k).known, (lv k).left, (lv k).boot, wu', la⟩) R3 (dropE M.L (oldE M.L).node) hE3 hl3 (stampE Ent.zero k boot now) 0 1 _ (by rfl) (by rfl) (by decide)) fun v ms hR2 => ?_
            obtain ⟨u2, R2, hE2, hR2, rfl, rfl⟩ := hR2
            repeat' (refine N.go ?_; first | with_reducible (first | refine N.obl (by decide) ?_ | refine N.eq ?_ | refine N.obl rfl ?_ | refine N.obl ⟨by kernel_rfl, by kernel_rfl⟩ ?_ | refine N.alt ?_ | refine N.forkT ?_ | refine N.forkF ?_) | refine N.endSame ?_ | refine N.some (u2, (setP lv k ⟨(lv k).known, (lv k).left, (lv k).boot, wu', la⟩), R2) ⟨hS.set hR' (fun r hr => hR2 r (hR3 r hr)) hx' hE2, ?_⟩ | refine N.obl (.plain rfl) ?_ | refine N.obl ⟨⟨_, rfl, fun h => h, Nat.le_refl _, rt_re⟩, ⟨_, rfl, fun h => h, Nat.le_refl _, rv_re⟩, trivial⟩ ?_ | refine N.obl trivial ?_ | refine N.obl ⟨⟨.inl rfl, .inr ⟨_, rfl, rfl⟩, trivial⟩, trivial⟩ ?_ | exact N.true | fail)
        · have hroom : roomE M.most M.L k = M.L := by unfold roomE; rw [if_neg (fun h => hfull h.2)]
          rw [hroom]
          repeat' (refine N.go ?_; first | with_reducible (first | refine N.obl (by decide) ?_ | refine N.eq ?_ | refine N.obl rfl ?_ | refine N.obl ⟨by kernel_rfl, by kernel_rfl⟩ ?_ | refine N.alt ?_ | refine N.forkT ?_ | refine N.forkF ?_) | refine N.forkNo (by decide) ?_ | refine N.forkYes (by decide) ?_ | refine N.idx k 1 rfl hk ?_ | refine N.store _ (wr_lv k ⟨(lv k).known, (lv k).left, (lv k).boot, wu', la⟩ rfl hk rfl) ?_ | refine N.call (cRGetN M.most u (setP lv k ⟨(lv k).known, (lv k).left, (lv k).boot, wu', la⟩) R' M.L hE' hl' k hfe 0 1 _ (by rfl) (by rfl) (by decide)) ?_ | refine N.op (ok_lenU rfl rfl ⟨_, rfl, _, Tryz.underlying46⟩) ?_ | refine N.forkNo (decide_eq_false (by show ¬ ((uN u : Nat) : Int) ≥ M.most; rw [hlen]; omega)) ?_ | fail)
          refine N.go ?_
          refine N.callAll (cRSetO M.most u (setP lv k ⟨(lv k).known, (lv k).left, (lv k).boot, wu', la⟩) R' M.L hE' hl' (stampE Ent.zero k boot now) 0 1 _ (by rfl) (by rfl) (by decide)) fun v ms hR2 => ?_
          obtain ⟨u2, R2, hE2, hR2, rfl, rfl⟩ := hR2
          repeat' (refine N.go ?_; first | with_reducible (first | refine N.obl (by decide) ?_ | refine N.eq ?_ | refine N.obl rfl ?_ | refine N.obl ⟨by kernel_rfl, by kernel_rfl⟩ ?_ | refine N.alt ?_ | refine N.forkT ?_ | refine N.forkF ?_) | refine N.endSame ?_ | refine N.some (u2, (setP lv k ⟨(lv k).known, (lv k).left, (lv k).boot, wu', la⟩), R2) ⟨hS.set hR' hR2 hx' hE2, ?_⟩ | refine N.obl (.plain rfl) ?_ | refine N.obl ⟨⟨_, rfl, fun h => h, Nat.le_refl _, rt_re⟩, ⟨_, rfl, fun h => h, Nat.le_refl _, rv_re⟩, trivial⟩ ?_ | refine N.obl trivial ?_ | refine N.obl ⟨⟨.inl rfl, .inr ⟨_, rfl, rfl⟩, trivial⟩, trivial⟩ ?_ | exact N.true | fail)
    · have hls : lessP (lv k).boot boot := Classical.byContradiction fun hc => ho ⟨a1.symm.trans hkn, .inl ⟨fun e => hbt (a3.trans e), by rw [← a3]; exact hc⟩⟩
      repeat' (refine N.go ?_; first | with_reducible (first | refine N.obl (by decide) ?_ | refine N.eq ?_ | refine N.obl rfl ?_ | refine N.obl ⟨by kernel_rfl, by kernel_rfl⟩ ?_ | refine N.alt ?_ | refine N.forkT ?_ | refine N.forkF ?_) | refine N.call (cRSer _ _) ?_ | refine N.call (cRTime _ _) ?_ | refine N.call (cRLess _ _ _) ?_ | refine N.forkNo (decide_eq_false hn1) ?_ | refine N.forkNo (decide_eq_false hn2) ?_ | refine N.forkNo (by rw [decide_eq_true hb]; rfl) ?_ | refine N.forkNo (by rw [decide_eq_true hs]; rfl) ?_ | refine N.forkNo (by rw [decide_eq_true ht]; rfl) ?_ | refine N.idx k 1 rfl hk ?_ | refine N.load _ (rd_lv k rfl hk rfl) ?_ | refine N.forkYes hkn ?_ | refine N.forkYes (by simpa using hbt) ?_ | refine N.forkNo (by rw [decide_eq_true hls]; rfl) ?_ | refine N.forkNo (by simpa using hbt) ?_ | refine N.forkNo (by rw [hkn]; rfl) ?_ | fail)
      refine N.go ?_
      obtain ⟨e, wl', la, hrw⟩ : ∃ e wl' la, rwHear ([] : List Int) ((⟨true, false, boot, none, 0⟩ : RLv)).last seq = (e, wl', la) := ⟨_, _, _, rfl⟩
      have herr := rwHear_err ([] : List Int) ((⟨true, false, boot, none, 0⟩ : RLv)).last seq
      have hlen0 : (([] : List Int)).length ≤ 1000 := Nat.zero_le _
      refine N.callAll (cRWHear2 (⟨true, false, boot, none, 0⟩ : RLv) R ([] : List Int) (.inl ⟨rfl, rfl⟩) hlen0 seq hs e wl' la hrw (⟨true, 5, [(0, 5, .agg ⟨[.bool true, .bool false, .int .i64 boot, .slice none 0 0, .int .i64 0]⟩)]⟩ : Chunk) ⟨rfl, rfl, rfl⟩ (fun ix => lt5 (.plain rfl) (.plain rfl) (.plain rfl) (.any fun _ _ => rfl) (.plain rfl)) 2 1 _ (by rfl) (by rfl) (by decide)) fun v ms hRR => ?_
      obtain ⟨⟨wu', R'⟩, ⟨hI', hR'⟩, rfl, rfl⟩ := hRR
      have hrh : rhear M k boot seq now = if e = 0 then (0, ⟨M.most, setE (roomE M.most M.L k) (stampE (keepE (findE M.L k) boot) k boot now), setF M.lv k ⟨true, false, boot, wl', la⟩⟩) else (9, M) := by
        unfold rhear
        rw [if_pos hargs, Int.toNat_natCast, if_neg ho]
        simp only [show freshF (M.lv k) boot = ⟨true, false, boot, [], 0⟩ from if_neg (fun h => hbt (a3.trans h.2))]
        rw [show rwHear [] 0 seq = (e, wl', la) from hrw]
      rw [hrw] at herr
      rcases herr with he0 | ⟨he9, hsame⟩
      rotate_left
      · have he9 : e = 9 := he9
        subst he9
        rw [hrh, if_neg (by decide)]
        repeat' (refine N.go ?_; first | with_reducible (first | refine N.obl (by decide) ?_ | refine N.eq ?_ | refine N.obl rfl ?_ | refine N.obl ⟨by kernel_rfl, by kernel_rfl⟩ ?_ | refine N.alt ?_ | refine N.forkT ?_ | refine N.forkF ?_) | refine N.forkNo (by decide) ?_ | refine N.forkYes (by decide) ?_ | refine N.endSame ?_ | refine N.some (u, lv, R') ⟨hS.more hR', ?_⟩ | refine N.obl (.plain rfl) ?_ | refine N.obl ⟨⟨_, rfl, fun h => h, Nat.le_refl _, rt_re⟩, ⟨_, rfl, fun h => h, Nat.le_refl _, rv_re⟩, trivial⟩ ?_ | refine N.obl trivial ?_ | refine N.obl ⟨⟨.inl rfl, .inr ⟨_, rfl, rfl⟩, trivial⟩, trivial⟩ ?_ | exact N.true | fail)
      have he0 : e = 0 := he0
      subst he0
      rw [hrh, if_pos rfl]
      have hx' : LvR R' ⟨true, false, boot, wu', la⟩ ⟨true, false, boot, wl', la⟩ := ⟨rfl, rfl, rfl, rfl, hI'⟩
      have hE' : RowE R' u M.L := hE.more hR'
      have hl' : M.L.length ≤ 1000 := by omega
      have hlen := hE.len
      cases hfe : findE M.L k with
      | some e =>
        have hroom : roomE M.most M.L k = M.L := by unfold roomE; rw [hfe, if_neg (by simp)]
        rw [hroom]
        by_cases hbb : e.boot = boot
        · have hke : keepE (some e) boot = e := by simp [keepE, hbb]
          rw [hke]
          repeat' (refine N.go ?_; first | with_reducible (first | refine N.obl (by decide) ?_ | refine N.eq ?_ | refine N.obl rfl ?_ | refine N.obl ⟨by kernel_rfl, by kernel_rfl⟩ ?_ | refine N.alt ?_ | refine N.forkT ?_ | refine N.forkF ?_) | refine N.forkNo (by decide) ?_ | refine N.forkYes (by decide) ?_ | refine N.idx k 1 rfl hk ?_ | refine N.store _ (wr_lv k ⟨true, false, boot, wu', la⟩ rfl hk rfl) ?_ | refine N.call (cRGetY M.most u (setP lv k ⟨true, false, boot, wu', la⟩) R' M.L hE' hl' k e hfe 0 1 _ (by rfl) (by rfl) (by decide)) ?_ | refine N.forkNo (by rw [hbb]; exact bne_self_eq_false _) ?_ | fail)
          refine N.go ?_
          refine N.callAll (cRSetO M.most u (setP lv k ⟨true, false, boot, wu', la⟩) R' M.L hE' hl' (stampE e k boot now) 0 1 _ (by rfl) (by rfl) (by decide)) fun v ms hR2 => ?_
          obtain ⟨u2, R2, hE2, hR2, rfl, rfl⟩ := hR2
          repeat' (refine N.go ?_; first | with_reducible (first | refine N.obl (by decide) ?_ | refine N.eq ?_ | refine N.obl rfl ?_ | refine N.obl ⟨by kernel_rfl, by kernel_rfl⟩ ?_ | refine N.alt ?_ | refine N.forkT ?_ | refine N.forkF ?_) | refine N.endSame ?_ | refine N.some (u2, (setP lv k ⟨true, false, boot, wu', la⟩), R2) ⟨hS.set hR' hR2 hx' hE2, ?_⟩ | refine N.obl (.plain rfl) ?_ | refine N.obl ⟨⟨_, rfl, fun h => h, Nat.le_refl _, rt_re⟩, ⟨_, rfl, fun h => h, Nat.le_refl _, rv_re⟩, trivial⟩ ?_ | refine N.obl trivial ?_ | refine N.obl ⟨⟨.inl rfl, .inr ⟨_, rfl, rfl⟩, trivial⟩, trivial⟩ ?_ | exact N.true | fail)
        · have hke : keepE (some e) boot = Ent.zero := by simp [keepE, hbb]
          rw [hke]
          repeat' (refine N.go ?_; first | with_reducible (first | refine N.obl (by decide) ?_ | refine N.eq ?_ | refine N.obl rfl ?_ | refine N.obl ⟨by kernel_rfl, by kernel_rfl⟩ ?_ | refine N.alt ?_ | refine N.forkT ?_ | refine N.forkF ?_) | refine N.forkNo (by decide) ?_ | refine N.forkYes (by decide) ?_ | refine N.idx k 1 rfl hk ?_ | refine N.store _ (wr_lv k ⟨true, false, boot, wu', la⟩ rfl hk rfl) ?_ | refine N.call (cRGetY M.most u (setP lv k ⟨true, false, boot, wu', la⟩) R' M.L hE' hl' k e hfe 0 1 _ (by rfl) (by rfl) (by decide)) ?_ | refine N.forkYes (by simpa using hbb) ?_ | fail)
          refine N.go ?_
          refine N.callAll (cRSetO M.most u (setP lv k ⟨true, false, boot, wu', la⟩) R' M.L hE' hl' (stampE Ent.zero k boot now) 0 1 _ (by rfl) (by rfl) (by decide)) fun v ms hR2 => ?_
          obtain ⟨u2, R2, hE2, hR2, rfl, rfl⟩ := hR2
          repeat' (refine N.go ?_; first | with_reducible (first | refine N.obl (by decide) ?_ | refine N.eq ?_ | refine N.obl rfl ?_ | refine N.obl ⟨by kernel_rfl, by kernel_rfl⟩ ?_ | refine N.alt ?_ | refine N.forkT ?_ | refine N.forkF ?_) | refine N.endSame ?_ | refine N.some (u2, (setP lv k ⟨true, false, boot, wu', la⟩), R2) ⟨hS.set hR' hR2 hx' hE2, ?_⟩ | refine N.obl (.plain rfl) ?_ | refine N.obl ⟨⟨_, rfl, fun h => h, Nat.le_refl _, rt_re⟩, ⟨_, rfl, fun h => h, Nat.le_refl _, rv_re⟩, trivial⟩ ?_ | refine N.obl trivial ?_ | refine N.obl ⟨⟨.inl rfl, .inr ⟨_, rfl, rfl⟩, trivial⟩, trivial⟩ ?_ | exact N.true | fail)
      | none =>
        have hke : keepE none boot = Ent.zero := rfl
        rw [hke]
        by_cases hfull : M.most ≤ (M.L.length : Int)
        · have hne : 0 < M.L.length := by omega
          obtain ⟨e0, hz0⟩ : ∃ e0, M.L[0]? = some e0 := ⟨_, List.getElem?_eq_getElem hne⟩
          have hroom : roomE M.most M.L k = dropE M.L (oldE M.L).node := by unfold roomE; rw [hfe, if_pos ⟨rfl, hfull⟩]
          rw [hroom]
          have hE3 := hE'
          rcases hE3 with ⟨_, h0⟩ | ⟨r, hr, hu, hrk, hrn, hx, hrc⟩
          · rw [h0] at hne; exact absurd hne (Nat.not_lt_zero 0)
          subst hu
          have hlen2 : r.n = M.L.length := hrn
          repeat' (refine N.go ?_; first | with_reducible (first | refine N.obl (by decide) ?_ | refine N.eq ?_ | refine N.obl rfl ?_ | refine N.obl ⟨by kernel_rfl, by kernel_rfl⟩ ?_ | refine N.alt ?_ | refine N.forkT ?_ | refine N.forkF ?_) | refine N.forkNo (by decide) ?_ | refine N.forkYes (by decide) ?_ | refine N.idx k 1 rfl hk ?_ | refine N.store _ (wr_lv k ⟨true, false, boot, wu', la⟩ rfl hk rfl) ?_ | refine N.call (cRGetN M.most (some r.sl) (setP lv k ⟨true, false, boot, wu', la⟩) R' M.L hE' hl' k hfe 0 1 _ (by rfl) (by rfl) (by decide)) ?_ | refine N.op (ok_lenU rfl rfl ⟨_, rfl, _, Tryz.underlying46⟩) ?_ | refine N.forkYes (decide_eq_true (by show ((r.n : Nat) : Int) ≥ M.most; omega)) ?_ | refine N.op (ok_idxR (sz := 10) (g := r.o) tysOK rfl rfl (fun ρ => by rw [uV_den]; rfl) ⟨rfl, rfl⟩ (by exact rfl) (by decide) (by show (0 : Int) < ((r.n : Nat) : Int); omega) (by show r.o + (0 : Int).toNat * 10 = _; simp)) ?_ | refine N.op (ok_loadVA (i := 1) r (enCs e0) 0 tysOK rfl rfl rfl (by rfl) hr (by exact ⟨rfl, rfl⟩) rfl rfl (fun j v hv => by rw [hx]; simpa using flat_at hz0 j v hv)) ?_ | fail)
          refine N.go ?_
          have hE4 := hE'
          refine N.loopR (α := Nat) (fun y => y ≤ M.L.length) (fun y => M.L.length - y) (fun y => [(142, .int .i64 (y : Nat))]) (fun y => [(8, ⟨true, 10, [(0, 10, entV (oldK M.L e0 y))]⟩)]) 0 [(0, 0), (1, 1), (2, 2), (7, 7), (8, 8)] (Nat.zero_le _) ?_ ?_
          · repeat' (refine N.go ?_; first | with_reducible (first | refine N.obl (by decide) ?_ | refine N.eq ?_ | refine N.obl rfl ?_ | refine N.obl ⟨by kernel_rfl, by kernel_rfl⟩ ?_ | refine N.alt ?_ | refine N.forkT ?_ | refine N.forkF ?_) | exact N.true | refine N.obl (.plain (by rfl)) ?_ | refine N.obl (re_eqn (int_eqn (by rw [i64s ((y : Int) + 1) (by omega) (by omega)]; rfl)) rfl) ?_ | refine N.obl (.one (.ptr rfl)) ?_ | refine N.obl rt_ren ?_ | refine N.obl rv_ren ?_ | refine N.obl f_ren ?_ | refine N.obl (ChunkReLe.same (agg_plain (by rfl) (by rfl))) ?_ | refine N.obl e_ren ?_ | refine N.obl (.one .quo) ?_ | refine N.obl (.one ag_re) ?_ | fail)
          intro y hy
          by_cases hyl : y < M.L.length
          · obtain ⟨z, hz⟩ : ∃ z, M.L[y]? = some z := ⟨_, List.getElem?_eq_getElem hyl⟩
            have hlt : ((y : Nat) : Int) < ((r.n : Nat) : Int) := by omega
            have hnx := oldK_next hz0 hz
            repeat' (refine N.go ?_; first | with_reducible (first | refine N.obl (by decide) ?_ | refine N.eq ?_ | refine N.obl rfl ?_ | refine N.obl ⟨by kernel_rfl, by kernel_rfl⟩ ?_ | refine N.alt ?_ | refine N.forkT ?_ | refine N.forkF ?_) | refine N.forkYes (decide_eq_true hlt) ?_ | refine N.op (ok_idxR (sz := 10) (g := r.o + y * 10) tysOK rfl rfl (fun ρ => by rw [uV_den]; rfl) rfl (by exact rfl) (by omega) (by show ((y : Nat) : Int) < ((r.n : Nat) : Int); omega) (by show r.o + ((y : Nat) : Int).toNat * 10 = _; rw [Int.toNat_natCast])) ?_ | refine N.op (ok_loadVA (i := 1) r (enCs z) (y * 10) tysOK rfl rfl rfl (by rfl) hr (by exact ⟨rfl, rfl⟩) rfl rfl (fun j v hv => by rw [hx]; exact flat_at hz j v hv)) ?_ | fail)
            by_cases hc : z.heard < (oldK M.L e0 y).heard
            · rw [if_pos hc] at hnx
              repeat' (refine N.go ?_; first | with_reducible (first | refine N.obl (by decide) ?_ | refine N.eq ?_ | refine N.obl rfl ?_ | refine N.obl ⟨by kernel_rfl, by kernel_rfl⟩ ?_ | refine N.alt ?_ | refine N.forkT ?_ | refine N.forkF ?_) | refine N.forkYes (decide_eq_true hc) ?_ | fail)
              refine N.go ?_
              refine N.nextR (α := Nat) (y + 1) [(0, 0), (1, 1), (2, 2), (7, 7), (8, 8)] ⟨hyl, by show M.L.length - (y + 1) < M.L.length - y; omega⟩ ?_
              repeat' (refine N.go ?_; first | with_reducible (first | refine N.obl (by decide) ?_ | refine N.eq ?_ | refine N.obl rfl ?_ | refine N.obl ⟨by kernel_rfl, by kernel_rfl⟩ ?_ | refine N.alt ?_ | refine N.forkT ?_ | refine N.forkF ?_) | exact N.true | refine N.obl (.plain (by rfl)) ?_ | refine N.obl (re_eqn (int_eqn (by rw [i64s ((y : Int) + 1) (by omega) (by omega)]; rfl)) rfl) ?_ | refine N.obl (.one (.ptr rfl)) ?_ | refine N.obl rt_ren ?_ | refine N.obl rv_ren ?_ | refine N.obl f_ren ?_ | refine N.obl (by show ChunkReLe _ ⟨true, 10, [(0, 10, entV (oldK M.L e0 (y + 1)))]⟩ _; rw [hnx]; exact ChunkReLe.same (agg_plain (by rfl) (by rfl))) ?_ | refine N.obl (ChunkReLe.same (agg_plain (by rfl) (by rfl))) ?_ | refine N.obl e_ren ?_ | refine N.obl (.one .quo) ?_ | refine N.obl (.one ag_re) ?_ | fail)
            · rw [if_neg hc] at hnx
              repeat' (refine N.go ?_; first | with_reducible (first | refine N.obl (by decide) ?_ | refine N.eq ?_ | refine N.obl rfl ?_ | refine N.obl ⟨by kernel_rfl, by kernel_rfl⟩ ?_ | refine N.alt ?_ | refine N.forkT ?_ | refine N.forkF ?_) | refine N.forkNo (decide_eq_false hc) ?_ | fail)
              refine N.go ?_
              refine N.nextR (α := Nat) (y + 1) [(0, 0), (1, 1), (2, 2), (7, 7), (8, 8)] ⟨hyl, by show M.L.length - (y + 1) < M.L.length - y; omega⟩ ?_
              repeat' (refine N.go ?_; first | with_reducible (first | refine N.obl (by decide) ?_ | refine N.eq ?_ | refine N.obl rfl ?_ | refine N.obl ⟨by kernel_rfl, by kernel_rfl⟩ ?_ | refine N.alt ?_ | refine N.forkT ?_ | refine N.forkF ?_) | exact N.true | refine N.obl (.plain (by rfl)) ?_ | refine N.obl (re_eqn (int_eqn (by rw [i64s ((y : Int) + 1) (by omega) (by omega)]; rfl)) rfl) ?_ | refine N.obl (.one (.ptr rfl)) ?_ | refine N.obl rt_ren ?_ | refine N.obl rv_ren ?_ | refine N.obl f_ren ?_ | refine N.obl (by show ChunkReLe _ ⟨true, 10, [(0, 10, entV (oldK M.L e0 (y + 1)))]⟩ _; rw [hnx]; exact ChunkReLe.same (agg_plain (by rfl) (by rfl))) ?_ | refine N.obl (ChunkReLe.same (agg_plain (by rfl) (by rfl))) ?_ | refine N.obl e_ren ?_ | refine N.obl (.one .quo) ?_ | refine N.obl (.one ag_re) ?_ | fail)
          · have hyL : y = M.L.length := by omega
            subst hyL
            rw [oldK_all hz0]
            have hnl : ¬ ((M.L.length : Nat) : Int) < ((r.n : Nat) : Int) := by omega
            repeat' (refine N.go ?_; first | with_reducible (first | refine N.obl (by decide) ?_ | refine N.eq ?_ | refine N.obl rfl ?_ | refine N.obl ⟨by kernel_rfl, by kernel_rfl⟩ ?_ | refine N.alt ?_ | refine N.forkT ?_ | refine N.forkF ?_) | refine N.forkNo (decide_eq_false hnl) ?_ | fail)
            refine N.go ?_
            refine N.callAll (cRDropO M.most (some r.sl) (setP lv k ⟨true, false, boot, wu', la⟩) R' M.L hE4 hl' (oldE M.L).node 0 1 _ (by rfl) (by rfl) (by decide)) fun v ms hR3 => ?_
            obtain ⟨u3, R3, hE3, hR3, rfl, rfl⟩ := hR3
            have hl3 : (dropE M.L (oldE M.L).node).length ≤ 1000 := Nat.le_trans (List.length_filter_le _ _) hl'
            repeat' (refine N.go ?_; first | with_reducible (first | refine N.obl (by decide) ?_ | refine N.eq ?_ | refine N.obl rfl ?_ | refine N.obl ⟨by kernel_rfl, by kernel_rfl⟩ ?_ | refine N.alt ?_ | refine N.forkT ?_ | refine N.forkF ?_) | fail)
            refine N.go ?_
            refine N.callAll (cRSetO M.most u3 (setP lv k ⟨true, false, boot, wu', la⟩) R3 (dropE M.L (oldE M.L).node) hE3 hl3 (stampE Ent.zero k boot now) 0 1 _ (by rfl) (by rfl) (by decide)) fun v ms hR2 => ?_
            obtain ⟨u2, R2, hE2, hR2, rfl, rfl⟩ := hR2
            repeat' (refine N.go ?_; first | with_reducible (first | refine N.obl (by decide) ?_ | refine N.eq ?_ | refine N.obl rfl ?_ | refine N.obl ⟨by kernel_rfl, by kernel_rfl⟩ ?_ | refine N.alt ?_ | refine N.forkT ?_ | refine N.forkF ?_) | refine N.endSame ?_ | refine N.some (u2, (setP lv k ⟨true, false, boot, wu', la⟩), R2) ⟨hS.set hR' (fun r hr => hR2 r (hR3 r hr)) hx' hE2, ?_⟩ | refine N.obl (.plain rfl) ?_ | refine N.obl ⟨⟨_, rfl, fun h => h, Nat.le_refl _, rt_re⟩, ⟨_, rfl, fun h => h, Nat.le_refl _, rv_re⟩, trivial⟩ ?_ | refine N.obl trivial ?_ | refine N.obl ⟨⟨.inl rfl, .inr ⟨_, rfl, rfl⟩, trivial⟩, trivial⟩ ?_ | exact N.true | fail)
        · have hroom : roomE M.most M.L k = M.L := by unfold roomE; rw [if_neg (fun h => hfull h.2)]
          rw [hroom]
          repeat' (refine N.go ?_; first | with_reducible (first | refine N.obl (by decide) ?_ | refine N.eq ?_ | refine N.obl rfl ?_ | refine N.obl ⟨by kernel_rfl, by kernel_rfl⟩ ?_ | refine N.alt ?_ | refine N.forkT ?_ | refine N.forkF ?_) | refine N.forkNo (by decide) ?_ | refine N.forkYes (by decide) ?_ | refine N.idx k 1 rfl hk ?_ | refine N.store _ (wr_lv k ⟨true, false, boot, wu', la⟩ rfl hk rfl) ?_ | refine N.call (cRGetN M.most u (setP lv k ⟨true, false, boot, wu', la⟩) R' M.L hE' hl' k hfe 0 1 _ (by rfl) (by rfl) (by decide)) ?_ | refine N.op (ok_lenU rfl rfl ⟨_, rfl, _, Tryz.underlying46⟩) ?_ | refine N.forkNo (decide_eq_false (by show ¬ ((uN u : Nat) : Int) ≥ M.most; rw [hlen]; omega)) ?_ | fail)
          refine N.go ?_
          refine N.callAll (cRSetO M.most u (setP lv k ⟨true, false, boot, wu', la⟩) R' M.L hE' hl' (stampE Ent.zero k boot now) 0 1 _ (by rfl) (by rfl) (by decide)) fun v ms hR2 => ?_
          obtain ⟨u2, R2, hE2, hR2, rfl, rfl⟩ := hR2
          repeat' (refine N.go ?_; first | with_reducible (first | refine N.obl (by decide) ?_ | refine N.eq ?_ | refine N.obl rfl ?_ | refine N.obl ⟨by kernel_rfl, by kernel_rfl⟩ ?_ | refine N.alt ?_ | refine N.forkT ?_ | refine N.forkF ?_) | refine N.endSame ?_ | refine N.some (u2, (setP lv k ⟨true, false, boot, wu', la⟩), R2) ⟨hS.set hR' hR2 hx' hE2, ?_⟩ | refine N.obl (.plain rfl) ?_ | refine N.obl ⟨⟨_, rfl, fun h => h, Nat.le_refl _, rt_re⟩, ⟨_, rfl, fun h => h, Nat.le_refl _, rv_re⟩, trivial⟩ ?_ | refine N.obl trivial ?_ | refine N.obl ⟨⟨.inl rfl, .inr ⟨_, rfl, rfl⟩, trivial⟩, trivial⟩ ?_ | exact N.true | fail)
  · have hkn : (lv k).known = false := by simpa using hkn
    repeat' (refine N.go ?_; first | with_reducible (first | refine N.obl (by decide) ?_ | refine N.eq ?_ | refine N.obl rfl ?_ | refine N.obl ⟨by kernel_rfl, by kernel_rfl⟩ ?_ | refine N.alt ?_ | refine N.forkT ?_ | refine N.forkF ?_) | refine N.call (cRSer _ _) ?_ | refine N.call (cRTime _ _) ?_ | refine N.call (cRLess _ _ _) ?_ | refine N.forkNo (decide_eq_false hn1) ?_ | refine N.forkNo (decide_eq_false hn2) ?_ | refine N.forkNo (by rw [decide_eq_true hb]; rfl) ?_ | refine N.forkNo (by rw [decide_eq_true hs]; rfl) ?_ | refine N.forkNo (by rw [decide_eq_true ht]; rfl) ?_ | refine N.idx k 1 rfl hk ?_ | refine N.load _ (rd_lv k rfl hk rfl) ?_ | refine N.forkNo hkn ?_ | refine N.forkYes (by rw [hkn]; rfl) ?_ | fail)
    refine N.go ?_
    obtain ⟨e, wl', la, hrw⟩ : ∃ e wl' la, rwHear ([] : List Int) ((⟨true, false, boot, none, 0⟩ : RLv)).last seq = (e, wl', la) := ⟨_, _, _, rfl⟩
    have herr := rwHear_err ([] : List Int) ((⟨true, false, boot, none, 0⟩ : RLv)).last seq
    have hlen0 : (([] : List Int)).length ≤ 1000 := Nat.zero_le _
    refine N.callAll (cRWHear2 (⟨true, false, boot, none, 0⟩ : RLv) R ([] : List Int) (.inl ⟨rfl, rfl⟩) hlen0 seq hs e wl' la hrw (⟨true, 5, [(0, 5, .agg ⟨[.bool true, .bool false, .int .i64 boot, .slice none 0 0, .int .i64 0]⟩)]⟩ : Chunk) ⟨rfl, rfl, rfl⟩ (fun ix => lt5 (.plain rfl) (.plain rfl) (.plain rfl) (.any fun _ _ => rfl) (.plain rfl)) 2 1 _ (by rfl) (by rfl) (by decide)) fun v ms hRR => ?_
    obtain ⟨⟨wu', R'⟩, ⟨hI', hR'⟩, rfl, rfl⟩ := hRR
    have hrh : rhear M k boot seq now = if e = 0 then (0, ⟨M.most, setE (roomE M.most M.L k) (stampE (keepE (findE M.L k) boot) k boot now), setF M.lv k ⟨true, false, boot, wl', la⟩⟩) else (9, M) := by
      unfold rhear
      rw [if_pos hargs, Int.toNat_natCast, if_neg ho]
      simp only [show freshF (M.lv k) boot = ⟨true, false, boot, [], 0⟩ from if_neg (fun h => by rw [← a1, hkn] at h; cases h.1)]
      rw [show rwHear [] 0 seq = (e, wl', la) from hrw]
    rw [hrw] at herr
    rcases herr with he0 | ⟨he9, hsame⟩
    rotate_left
    · have he9 : e = 9 := he9
      subst he9
      rw [hrh, if_neg (by decide)]
      repeat' (refine N.go ?_; first | with_reducible (first | refine N.obl (by decide) ?_ | refine N.eq ?_ | refine N.obl rfl ?_ | refine N.obl ⟨by kernel_rfl, by kernel_rfl⟩ ?_ | refine N.alt ?_ | refine N.forkT ?_ | refine N.forkF ?_) | refine N.forkNo (by decide) ?_ | refine N.forkYes (by decide) ?_ | refine N.endSame ?_ | refine N.some (u, lv, R') ⟨hS.more hR', ?_⟩ | refine N.obl (.plain rfl) ?_ | refine N.obl ⟨⟨_, rfl, fun h => h, Nat.le_refl _, rt_re⟩, ⟨_, rfl, fun h => h, Nat.le_refl _, rv_re⟩, trivial⟩ ?_ | refine N.obl trivial ?_ | refine N.obl ⟨⟨.inl rfl, .inr ⟨_, rfl, rfl⟩, trivial⟩, trivial⟩ ?_ | exact N.true | fail)
    have he0 : e = 0 := he0
    subst he0
    rw [hrh, if_pos rfl]
    have hx' : LvR R' ⟨true, false, boot, wu', la⟩ ⟨true, false, boot, wl', la⟩ := ⟨rfl, rfl, rfl, rfl, hI'⟩
    have hE' : RowE R' u M.L := hE.more hR'
    have hl' : M.L.length ≤ 1000 := by omega
    have hlen := hE.len
    cases hfe : findE M.L k with
    | some e =>
      have hroom : roomE M.most M.L k = M.L := by unfold roomE; rw [hfe, if_neg (by simp)]
      rw [hroom]
      by_cases hbb : e.boot = boot
      · have hke : keepE (some e) boot = e := by simp [keepE, hbb]
        rw [hke]
        repeat' (refine N.go ?_; first | with_reducible (first | refine N.obl (by decide) ?_ | refine N.eq ?_ | refine N.obl rfl ?_ | refine N.obl ⟨by kernel_rfl, by kernel_rfl⟩ ?_ | refine N.alt ?_ | refine N.forkT ?_ | refine N.forkF ?_) | refine N.forkNo (by decide) ?_ | refine N.forkYes (by decide) ?_ | refine N.idx k 1 rfl hk ?_ | refine N.store _ (wr_lv k ⟨true, false, boot, wu', la⟩ rfl hk rfl) ?_ | refine N.call (cRGetY M.most u (setP lv k ⟨true, false, boot, wu', la⟩) R' M.L hE' hl' k e hfe 0 1 _ (by rfl) (by rfl) (by decide)) ?_ | refine N.forkNo (by rw [hbb]; exact bne_self_eq_false _) ?_ | fail)
        refine N.go ?_
        refine N.callAll (cRSetO M.most u (setP lv k ⟨true, false, boot, wu', la⟩) R' M.L hE' hl' (stampE e k boot now) 0 1 _ (by rfl) (by rfl) (by decide)) fun v ms hR2 => ?_
        obtain ⟨u2, R2, hE2, hR2, rfl, rfl⟩ := hR2
        repeat' (refine N.go ?_; first | with_reducible (first | refine N.obl (by decide) ?_ | refine N.eq ?_ | refine N.obl rfl ?_ | refine N.obl ⟨by kernel_rfl, by kernel_rfl⟩ ?_ | refine N.alt ?_ | refine N.forkT ?_ | refine N.forkF ?_) | refine N.endSame ?_ | refine N.some (u2, (setP lv k ⟨true, false, boot, wu', la⟩), R2) ⟨hS.set hR' hR2 hx' hE2, ?_⟩ | refine N.obl (.plain rfl) ?_ | refine N.obl ⟨⟨_, rfl, fun h => h, Nat.le_refl _, rt_re⟩, ⟨_, rfl, fun h => h, Nat.le_refl _, rv_re⟩, trivial⟩ ?_ | refine N.obl trivial ?_ | refine N.obl ⟨⟨.inl rfl, .inr ⟨_, rfl, rfl⟩, trivial⟩, trivial⟩ ?_ | exact N.true | fail)
      · have hke : keepE (some e) boot = Ent.zero := by simp [keepE, hbb]
        rw [hke]
        repeat' (refine N.go ?_; first | with_reducible (first | refine N.obl (by decide) ?_ | refine N.eq ?_ | refine N.obl rfl ?_ | refine N.obl ⟨by kernel_rfl, by kernel_rfl⟩ ?_ | refine N.alt ?_ | refine N.forkT ?_ | refine N.forkF ?_) | refine N.forkNo (by decide) ?_ | refine N.forkYes (by decide) ?_ | refine N.idx k 1 rfl hk ?_ | refine N.store _ (wr_lv k ⟨true, false, boot, wu', la⟩ rfl hk rfl) ?_ | refine N.call (cRGetY M.most u (setP lv k ⟨true, false, boot, wu', la⟩) R' M.L hE' hl' k e hfe 0 1 _ (by rfl) (by rfl) (by decide)) ?_ | refine N.forkYes (by simpa using hbb) ?_ | fail)
        refine N.go ?_
        refine N.callAll (cRSetO M.most u (setP lv k ⟨true, false, boot, wu', la⟩) R' M.L hE' hl' (stampE Ent.zero k boot now) 0 1 _ (by rfl) (by rfl) (by decide)) fun v ms hR2 => ?_
        obtain ⟨u2, R2, hE2, hR2, rfl, rfl⟩ := hR2
        repeat' (refine N.go ?_; first | with_reducible (first | refine N.obl (by decide) ?_ | refine N.eq ?_ | refine N.obl rfl ?_ | refine N.obl ⟨by kernel_rfl, by kernel_rfl⟩ ?_ | refine N.alt ?_ | refine N.forkT ?_ | refine N.forkF ?_) | refine N.endSame ?_ | refine N.some (u2, (setP lv k ⟨true, false, boot, wu', la⟩), R2) ⟨hS.set hR' hR2 hx' hE2, ?_⟩ | refine N.obl (.plain rfl) ?_ | refine N.obl ⟨⟨_, rfl, fun h => h, Nat.le_refl _, rt_re⟩, ⟨_, rfl, fun h => h, Nat.le_refl _, rv_re⟩, trivial⟩ ?_ | refine N.obl trivial ?_ | refine N.obl ⟨⟨.inl rfl, .inr ⟨_, rfl, rfl⟩, trivial⟩, trivial⟩ ?_ | exact N.true | fail)
    | none =>
      have hke : keepE none boot = Ent.zero := rfl
      rw [hke]
      by_cases hfull : M.most ≤ (M.L.length : Int)
      · have hne : 0 < M.L.length := by omega
        obtain ⟨e0, hz0⟩ : ∃ e0, M.L[0]? = some e0 := ⟨_, List.getElem?_eq_getElem hne⟩
        have hroom : roomE M.most M.L k = dropE M.L (oldE M.L).node := by unfold roomE; rw [hfe, if_pos ⟨rfl, hfull⟩]
        rw [hroom]
        have hE3 := hE'
        rcases hE3 with ⟨_, h0⟩ | ⟨r, hr, hu, hrk, hrn, hx, hrc⟩
        · rw [h0] at hne; exact absurd hne (Nat.not_lt_zero 0)
        subst hu
        have hlen2 : r.n = M.L.length := hrn
        repeat' (refine N.go ?_; first | with_reducible (first | refine N.obl (by decide) ?_ | refine N.eq ?_ | refine N.obl rfl ?_ | refine N.obl ⟨by kernel_rfl, by kernel_rfl⟩ ?_ | refine N.alt ?_ | refine N.forkT ?_ | refine N.forkF ?_) | refine N.forkNo (by decide) ?_ | refine N.forkYes (by decide) ?_ | refine N.idx k 1 rfl hk ?_ | refine N.store _ (wr_lv k ⟨true, false, boot, wu', la⟩ rfl hk rfl) ?_ | refine N.call (cRGetN M.most (some r.sl) (setP lv k ⟨true, false, boot, wu', la⟩) R' M.L hE' hl' k hfe 0 1 _ (by rfl) (by rfl) (by decide)) ?_ | refine N.op (ok_lenU rfl rfl ⟨_, rfl, _, Tryz.underlying46⟩) ?_ | refine N.forkYes (decide_eq_true (by show ((r.n : Nat) : Int) ≥ M.most; omega)) ?_ | refine N.op (ok_idxR (sz := 10) (g := r.o) tysOK rfl rfl (fun ρ => by rw [uV_den]; rfl) ⟨rfl, rfl⟩ (by exact rfl) (by decide) (by show (0 : Int) < ((r.n : Nat) : Int); omega) (by show r.o + (0 : Int).toNat * 10 = _; simp)) ?_ | refine N.op (ok_loadVA (i := 1) r (enCs e0) 0 tysOK rfl rfl rfl (by rfl) hr (by exact ⟨rfl, rfl⟩) rfl rfl (fun j v hv => by rw [hx]; simpa using flat_at hz0 j v hv)) ?_ | fail)
        refine N.go ?_
        have hE4 := hE'
        refine N.loopR (α := Nat) (fun y => y ≤ M.L.length) (fun y => M.L.length - y) (fun y => [(142, .int .i64 (y : Nat))]) (fun y => [(8, ⟨true, 10, [(0, 10, entV (oldK M.L e0 y))]⟩)]) 0 [(0, 0), (1, 1), (2, 2), (7, 7), (8, 8)] (Nat.zero_le _) ?_ ?_
        · repeat' (refine N.go ?_; first | with_reducible (first | refine N.obl (by decide) ?_ | refine N.eq ?_ | refine N.obl rfl ?_ | refine N.obl ⟨by kernel_rfl, by kernel_rfl⟩ ?_ | refine N.alt ?_ | refine N.forkT ?_ | refine N.forkF ?_) | exact N.true | refine N.obl (.plain (by rfl)) ?_ | refine N.obl (re_eqn (int_eqn (by rw [i64s ((y : Int) + 1) (by omega) (by omega)]; rfl)) rfl) ?_ | refine N.obl (.one (.ptr rfl)) ?_ | refine N.obl rt_ren ?_ | refine N.obl rv_ren ?_ | refine N.obl f_ren ?_ | refine N.obl (ChunkReLe.same (agg_plain (by rfl) (by rfl))) ?_ | refine N.obl e_ren ?_ | refine N.obl (.one .quo) ?_ | refine N.obl (.one ag_re) ?_ | fail)
        intro y hy
        by_cases hyl : y < M.L.length
        · obtain ⟨z, hz⟩ : ∃ z, M.L[y]? = some z := ⟨_, List.getElem?_eq_getElem hyl⟩
          have hlt : ((y : Nat) : Int) < ((r.n : Nat) : Int) := by omega
          have hnx := oldK_next hz0 hz
          repeat' (refine N.go ?_; first | with_reducible (first | refine N.obl (by decide) ?_ | refine N.eq ?_ | refine N.obl rfl ?_ | refine N.obl ⟨by kernel_rfl, by kernel_rfl⟩ ?_ | refine N.alt ?_ | refine N.forkT ?_ | refine N.forkF ?_) | refine N.forkYes (decide_eq_true hlt) ?_ | refine N.op (ok_idxR (sz := 10) (g := r.o + y * 10) tysOK rfl rfl (fun ρ => by rw [uV_den]; rfl) rfl (by exact rfl) (by omega) (by show ((y : Nat) : Int) < ((r.n : Nat) : Int); omega) (by show r.o + ((y : Nat) : Int).toNat * 10 = _; rw [Int.toNat_natCast])) ?_ | refine N.op (ok_loadVA (i := 1) r (enCs z) (y * 10) tysOK rfl rfl rfl (by rfl) hr (by exact ⟨rfl, rfl⟩) rfl rfl (fun j v hv => by rw [hx]; exact flat_at hz j v hv)) ?_ | fail)
          by_cases hc : z.heard < (oldK M.L e0 y).heard
          · rw [if_pos hc] at hnx
            repeat' (refine N.go ?_; first | with_reducible (first | refine N.obl (by decide) ?_ | refine N.eq ?_ | refine N.obl rfl ?_ | refine N.obl ⟨by kernel_rfl, by kernel_rfl⟩ ?_ | refine N.alt ?_ | refine N.forkT ?_ | refine N.forkF ?_) | refine N.forkYes (decide_eq_true hc) ?_ | fail)
            refine N.go ?_
            refine N.nextR (α := Nat) (y + 1) [(0, 0), (1, 1), (2, 2), (7, 7), (8, 8)] ⟨hyl, by show M.L.length - (y + 1) < M.L.length - y; omega⟩ ?_
            repeat' (refine N.go ?_; first | with_reducible (first | refine N.obl (by decide) ?_ | refine N.eq ?_ | refine N.obl rfl ?_ | refine N.obl ⟨by kernel_rfl, by kernel_rfl⟩ ?_ | refine N.alt ?_ | refine N.forkT ?_ | refine N.forkF ?_) | exact N.true | refine N.obl (.plain (by rfl)) ?_ | refine N.obl (re_eqn (int_eqn (by rw [i64s ((y : Int) + 1) (by omega) (by omega)]; rfl)) rfl) ?_ | refine N.obl (.one (.ptr rfl)) ?_ | refine N.obl rt_ren ?_ | refine N.obl rv_ren ?_ | refine N.obl f_ren ?_ | refine N.obl (by show ChunkReLe _ ⟨true, 10, [(0, 10, entV (oldK M.L e0 (y + 1)))]⟩ _; rw [hnx]; exact ChunkReLe.same (agg_plain (by rfl) (by rfl))) ?_ | refine N.obl (ChunkReLe.same (agg_plain (by rfl) (by rfl))) ?_ | refine N.obl e_ren ?_ | refine N.obl (.one .quo) ?_ | refine N.obl (.one ag_re) ?_ | fail)
          · rw [if_neg hc] at hnx
            repeat' (refine N.go ?_; first | with_reducible (first | refine N.obl (by decide) ?_ | refine N.eq ?_ | refine N.obl rfl ?_ | refine N.obl ⟨by kernel_rfl, by kernel_rfl⟩ ?_ | refine N.alt ?_ | refine N.forkT ?_ | refine N.forkF ?_) | refine N.forkNo (decide_eq_false hc) ?_ | fail)
            refine N.go ?_
            refine N.nextR (α := Nat) (y + 1) [(0, 0), (1, 1), (2, 2), (7, 7), (8, 8)] ⟨hyl, by show M.L.length - (y + 1) < M.L.length - y; omega⟩ ?_
            repeat' (refine N.go ?_; first | with_reducible (first | refine N.obl (by decide) ?_ | refine N.eq ?_ | refine N.obl rfl ?_ | refine N.obl ⟨by kernel_rfl, by kernel_rfl⟩ ?_ | refine N.alt ?_ | refine N.forkT ?_ | refine N.forkF ?_) | exact N.true | refine N.obl (.plain (by rfl)) ?_ | refine N.obl (re_eqn (int_eqn (by rw [i64s ((y : Int) + 1) (by omega) (by omega)]; rfl)) rfl) ?_ | refine N.obl (.one (.ptr rfl)) ?_ | refine N.obl rt_ren ?_ | refine N.obl rv_ren ?_ | refine N.obl f_ren ?_ | refine N.obl (by show ChunkReLe _ ⟨true, 10, [(0, 10, entV (oldK M.L e0 (y + 1)))]⟩ _; rw [hnx]; exact ChunkReLe.same (agg_plain (by rfl) (by rfl))) ?_ | refine N.obl (ChunkReLe.same (agg_plain (by rfl) (by rfl))) ?_ | refine N.obl e_ren ?_ | refine N.obl (.one .quo) ?_ | refine N.obl (.one ag_re) ?_ | fail)
        · have hyL : y = M.L.length := by omega
          subst hyL
          rw [oldK_all hz0]
          have hnl : ¬ ((M.L.length : Nat) : Int) < ((r.n : Nat) : Int) := by omega
          repeat' (refine N.go ?_; first | with_reducible (first | refine N.obl (by decide) ?_ | refine N.eq ?_ | refine N.obl rfl ?_ | refine N.obl ⟨by kernel_rfl, by kernel_rfl⟩ ?_ | refine N.alt ?_ | refine N.forkT ?_ | refine N.forkF ?_) | refine N.forkNo (decide_eq_false hnl) ?_ | fail)
          refine N.go ?_
          refine N.callAll (cRDropO M.most (some r.sl) (setP lv k ⟨true, false, boot, wu', la⟩) R' M.L hE4 hl' (oldE M.L).node 0 1 _ (by rfl) (by rfl) (by decide)) fun v ms hR3 => ?_
          obtain ⟨u3, R3, hE3, hR3, rfl, rfl⟩ := hR3
          have hl3 : (dropE M.L (oldE M.L).node).length ≤ 1000 := Nat.le_trans (List.length_filter_le _ _) hl'
          repeat' (refine N.go ?_; first | with_reducible (first | refine N.obl (by decide) ?_ | refine N.eq ?_ | refine N.obl rfl ?_ | refine N.obl ⟨by kernel_rfl, by kernel_rfl⟩ ?_ | refine N.alt ?_ | refine N.forkT ?_ | refine N.forkF ?_) | fail)
          refine N.go ?_
          refine N.callAll (cRSetO M.most u3 (setP lv k ⟨true, false, boot, wu', la⟩) R3 (dropE M.L (oldE M.L).node) hE3 hl3 (stampE Ent.zero k boot now) 0 1 _ (by rfl) (by rfl) (by decide)) fun v ms hR2 => ?_
          obtain ⟨u2, R2, hE2, hR2, rfl, rfl⟩ := hR2
          repeat' (refine N.go ?_; first | with_reducible (first | refine N.obl (by decide) ?_ | refine N.eq ?_ | refine N.obl rfl ?_ | refine N.obl ⟨by kernel_rfl, by kernel_rfl⟩ ?_ | refine N.alt ?_ | refine N.forkT ?_ | refine N.forkF ?_) | refine N.endSame ?_ | refine N.some (u2, (setP lv k ⟨true, false, boot, wu', la⟩), R2) ⟨hS.set hR' (fun r hr => hR2 r (hR3 r hr)) hx' hE2, ?_⟩ | refine N.obl (.plain rfl) ?_ | refine N.obl ⟨⟨_, rfl, fun h => h, Nat.le_refl _, rt_re⟩, ⟨_, rfl, fun h => h, Nat.le_refl _, rv_re⟩, trivial⟩ ?_ | refine N.obl trivial ?_ | refine N.obl ⟨⟨.inl rfl, .inr ⟨_, rfl, rfl⟩, trivial⟩, trivial⟩ ?_ | exact N.true | fail)
      · have hroom : roomE M.most M.L k = M.L := by unfold roomE; rw [if_neg (fun h => hfull h.2)]
        rw [hroom]
        repeat' (refine N.go ?_; first | with_reducible (first | refine N.obl (by decide) ?_ | refine N.eq ?_ | refine N.obl rfl ?_ | refine N.obl ⟨by kernel_rfl, by kernel_rfl⟩ ?_ | refine N.alt ?_ | refine N.forkT ?_ | refine N.forkF ?_) | refine N.forkNo (by decide) ?_ | refine N.forkYes (by decide) ?_ | refine N.idx k 1 rfl hk ?_ | refine N.store _ (wr_lv k ⟨true, false, boot, wu', la⟩ rfl hk rfl) ?_ | refine N.call (cRGetN M.most u (setP lv k ⟨true, false, boot, wu', la⟩) R' M.L hE' hl' k hfe 0 1 _ (by rfl) (by rfl) (by decide)) ?_ | refine N.op (ok_lenU rfl rfl ⟨_, rfl, _, Tryz.underlying46⟩) ?_ | refine N.forkNo (decide_eq_false (by show ¬ ((uN u : Nat) : Int) ≥ M.most; rw [hlen]; omega)) ?_ | fail)
        refine N.go ?_
        refine N.callAll (cRSetO M.most u (setP lv k ⟨true, false, boot, wu', la⟩) R' M.L hE' hl' (stampE Ent.zero k boot now) 0 1 _ (by rfl) (by rfl) (by decide)) fun v ms hR2 => ?_
        obtain ⟨u2, R2, hE2, hR2, rfl, rfl⟩ := hR2
        repeat' (refine N.go ?_; first | with_reducible (first | refine N.obl (by decide) ?_ | refine N.eq ?_ | refine N.obl rfl ?_ | refine N.obl ⟨by kernel_rfl, by kernel_rfl⟩ ?_ | refine N.alt ?_ | refine N.forkT ?_ | refine N.forkF ?_) | refine N.endSame ?_ | refine N.some (u2, (setP lv k ⟨true, false, boot, wu', la⟩), R2) ⟨hS.set hR' hR2 hx' hE2, ?_⟩ | refine N.obl (.plain rfl) ?_ | refine N.obl ⟨⟨_, rfl, fun h => h, Nat.le_refl _, rt_re⟩, ⟨_, rfl, fun h => h, Nat.le_refl _, rv_re⟩, trivial⟩ ?_ | refine N.obl trivial ?_ | refine N.obl ⟨⟨.inl rfl, .inr ⟨_, rfl, rfl⟩, trivial⟩, trivial⟩ ?_ | exact N.true | fail)
end Go.Proofs.YtimccfnlcnlffaaGreat


namespace Go.Proofs.YtimccfnlcnlffaaGreat
open Go Go.RowKit Sx
theorem cRHear [ZW] (M : RTb) (u : Option Sl) (lv : Nat → RLv) (R : List Rw) (hS : RtS R u lv M) (hl : M.L.length ≤ 500) (n boot seq now : Int) (hwl : ∀ k, (M.lv k).wl.length ≤ 500) (hmost : 1 ≤ M.most) (i g : Nat) (h : List (Option Chunk)) (hi : h[i]? = some (some (rtC M.most u lv))) (hg : h[g]? = some (some (rvC R))) (hig : i ≠ g) : CallAll Tryz.prog 7 [.pointer (some ⟨i, 0, some 0⟩), .int .i64 n, .int .i64 boot, .int .i64 seq, .int .i64 now] h (fun v ms => ∃ κ : Option Sl × (Nat → RLv) × List Rw, RtS κ.2.2 κ.1 κ.2.1 (rhear M n boot seq now).2 ∧ v = .int .i64 (rhear M n boot seq now).1 ∧ ms = [(i, rtC M.most κ.1 κ.2.1), (g, rvC κ.2.2)]) := by
  by_cases ha : argsOK n boot seq now
  · by_cases ho : oldP (M.lv n.toNat) boot
    · have e : rhear M n boot seq now = (9, M) := by unfold rhear; rw [if_pos ha, if_pos ho]
      rw [e]
      exact cRHearOld M u lv R hS hl n boot seq now ha ho i g h hi hg hig
    · exact cRHearGo M u lv R hS hl n boot seq now ha ho hwl hmost i g h hi hg hig
  · have e : rhear M n boot seq now = (1, M) := by unfold rhear; rw [if_neg ha]
    rw [e]
    exact cRHearArg M u lv R hS hl n boot seq now ha i g h hi hg hig
theorem cRLeave [ZW] (M : RTb) (u : Option Sl) (lv : Nat → RLv) (R : List Rw) (hS : RtS R u lv M) (hl : M.L.length ≤ 500) (n : Int)  (i g : Nat) (h : List (Option Chunk)) (hi : h[i]? = some (some (rtC M.most u lv))) (hg : h[g]? = some (some (rvC R))) (hig : i ≠ g) : CallAll Tryz.prog 9 [.pointer (some ⟨i, 0, some 0⟩), .int .i64 n] h (fun v ms => ∃ κ : Option Sl × (Nat → RLv) × List Rw, RtS κ.2.2 κ.1 κ.2.1 (rleave M n).2 ∧ v = .bool (rleave M n).1 ∧ ms = [(i, rtC M.most κ.1 κ.2.1), (g, rvC κ.2.2)]) := by
  refine CallAll.to (call_resall (G := tys) (h := h) (vs := [.pointer (some ⟨i, 0, some 0⟩), .int .i64 n]) (fun _ : Unit => True) (fun _ => _) (α := Option Sl × (Nat → RLv) × List Rw) (fun κ => RtS κ.2.2 κ.1 κ.2.1 (rleave M n).2) (fun κ => .bool (rleave M n).1) [⟨i, rtC M.most u lv, rtC M.most u lv, rtC M.most u lv⟩, ⟨g, rvC R, rvC R, rvC R⟩] (fun κ => [rtC M.most κ.1 κ.2.1, rvC κ.2.2]) (fun κ => []) [.pointer (some ⟨0, 0, some 0⟩), .int .i64 n] tysOK mixed Tryz.func9 (by rfl) (Tryz.call9) ⟨hi, hg, trivial⟩ ⟨⟨fun h => ⟨rfl, Nat.le_refl _⟩, Nat.le_refl _, rt_re⟩, ⟨fun h => ⟨rfl, Nat.le_refl _⟩, Nat.le_refl _, rv_re⟩, trivial⟩ (fun κ _ => ⟨⟨fun h => ⟨rfl, Nat.le_refl _⟩, Nat.le_refl _, rt_re⟩, ⟨fun h => ⟨rfl, Nat.le_refl _⟩, Nat.le_refl _, rv_re⟩, trivial⟩) (by simp [Apart, hig]) ⟨.inl rfl, .inr ⟨rfl, rfl⟩, trivial⟩ (fun κ _ => trivial) ⟨.ptr rfl, .plain rfl, trivial⟩ Opens.same ?_) ?_
  rotate_left
  · rintro v ms ⟨κ, hκ, rfl, rfl⟩
    exact ⟨κ, hκ, rfl, rfl⟩
  rintro ⟨⟩ -
  by_cases hn1 : n < 0
  · have e : rleave M n = (false, M) := by unfold rleave; rw [if_neg (fun h => by omega)]
    rw [e]
    repeat' (refine N.go ?_; first | with_reducible (first | refine N.obl (by decide) ?_ | refine N.eq ?_ | refine N.obl rfl ?_ | refine N.obl ⟨by kernel_rfl, by kernel_rfl⟩ ?_ | refine N.alt ?_ | refine N.forkT ?_ | refine N.forkF ?_) | refine N.forkYes (decide_eq_true hn1) ?_ | refine N.endSame ?_ | refine N.some (u, lv, R) ⟨hS, ?_⟩ | refine N.obl (.plain rfl) ?_ | refine N.obl ⟨⟨_, rfl, fun h => h, Nat.le_refl _, rt_re⟩, ⟨_, rfl, fun h => h, Nat.le_refl _, rv_re⟩, trivial⟩ ?_ | refine N.obl trivial ?_ | refine N.obl ⟨⟨.inl rfl, .inr ⟨_, rfl, rfl⟩, trivial⟩, trivial⟩ ?_ | exact N.true | fail)
  by_cases hn2 : n > 63
  · have e : rleave M n = (false, M) := by unfold rleave; rw [if_neg (fun h => by omega)]
    rw [e]
    repeat' (refine N.go ?_; first | with_reducible (first | refine N.obl (by decide) ?_ | refine N.eq ?_ | refine N.obl rfl ?_ | refine N.obl ⟨by kernel_rfl, by kernel_rfl⟩ ?_ | refine N.alt ?_ | refine N.forkT ?_ | refine N.forkF ?_) | refine N.forkNo (decide_eq_false hn1) ?_ | refine N.forkYes (decide_eq_true hn2) ?_ | refine N.endSame ?_ | refine N.some (u, lv, R) ⟨hS, ?_⟩ | refine N.obl (.plain rfl) ?_ | refine N.obl ⟨⟨_, rfl, fun h => h, Nat.le_refl _, rt_re⟩, ⟨_, rfl, fun h => h, Nat.le_refl _, rv_re⟩, trivial⟩ ?_ | refine N.obl trivial ?_ | refine N.obl ⟨⟨.inl rfl, .inr ⟨_, rfl, rfl⟩, trivial⟩, trivial⟩ ?_ | exact N.true | fail)
  obtain ⟨k, rfl⟩ : ∃ k : Nat, n = k := ⟨n.toNat, by omega⟩
  have hk : k < 64 := by omega
  obtain ⟨a1, a2, a3, a4, a5⟩ := hS.lv k hk
  have hE := hS.e
  have hl' : M.L.length ≤ 1000 := by omega
  cases hkn : (lv k).known with
  | false =>
    have e : rleave M k = (false, M) := by unfold rleave; rw [Int.toNat_natCast, if_neg (fun h => by rw [← a1, hkn] at h; cases h.2)]
    rw [e]
    repeat' (refine N.go ?_; first | with_reducible (first | refine N.obl (by decide) ?_ | refine N.eq ?_ | refine N.obl rfl ?_ | refine N.obl ⟨by kernel_rfl, by kernel_rfl⟩ ?_ | refine N.alt ?_ | refine N.forkT ?_ | refine N.forkF ?_) | refine N.forkNo (decide_eq_false hn1) ?_ | refine N.forkNo (decide_eq_false hn2) ?_ | refine N.idx k 1 rfl hk ?_ | refine N.load _ (rd_lvs k 0 rfl hk (by decide) rfl) ?_ | refine N.forkYes (by show (!(lv k).known) = true; rw [hkn]; rfl) ?_ | refine N.endSame ?_ | refine N.some (u, lv, R) ⟨hS, ?_⟩ | refine N.obl (.plain rfl) ?_ | refine N.obl ⟨⟨_, rfl, fun h => h, Nat.le_refl _, rt_re⟩, ⟨_, rfl, fun h => h, Nat.le_refl _, rv_re⟩, trivial⟩ ?_ | refine N.obl trivial ?_ | refine N.obl ⟨⟨.inl rfl, .inr ⟨_, rfl, rfl⟩, trivial⟩, trivial⟩ ?_ | exact N.true | fail)
  | true =>
    have e : rleave M k = (true, ⟨M.most, dropE M.L k, setF M.lv k { M.lv k with left := true }⟩) := by unfold rleave; rw [Int.toNat_natCast, if_pos ⟨⟨by omega, by omega⟩, a1.symm.trans hkn⟩]
    rw [e]
    repeat' (refine N.go ?_; first | with_reducible (first | refine N.obl (by decide) ?_ | refine N.eq ?_ | refine N.obl rfl ?_ | refine N.obl ⟨by kernel_rfl, by kernel_rfl⟩ ?_ | refine N.alt ?_ | refine N.forkT ?_ | refine N.forkF ?_) | refine N.forkNo (decide_eq_false hn1) ?_ | refine N.forkNo (decide_eq_false hn2) ?_ | refine N.idx k 1 rfl hk ?_ | refine N.load _ (rd_lvs k 0 rfl hk (by decide) rfl) ?_ | refine N.store _ (wr_left k true rfl hk rfl) ?_ | refine N.forkNo (by show (!(lv k).known) = false; rw [hkn]; rfl) ?_ | fail)
    refine N.go ?_
    refine N.callAll (cRDropO M.most u (setP lv k { lv k with left := true }) R M.L hE hl' k 0 1 _ (by rfl) (by rfl) (by decide)) fun v ms hR2 => ?_
    obtain ⟨u2, R2, hE2, hR2, rfl, rfl⟩ := hR2
    repeat' (refine N.go ?_; first | with_reducible (first | refine N.obl (by decide) ?_ | refine N.eq ?_ | refine N.obl rfl ?_ | refine N.obl ⟨by kernel_rfl, by kernel_rfl⟩ ?_ | refine N.alt ?_ | refine N.forkT ?_ | refine N.forkF ?_) | refine N.endSame ?_ | refine N.some (u2, setP lv k { lv k with left := true }, R2) ⟨hS.set (fun r hr => hr) hR2 (x := { lv k with left := true }) (f := { M.lv k with left := true }) ⟨a1, rfl, a3, a4, a5⟩ hE2, ?_⟩ | refine N.obl (.plain rfl) ?_ | refine N.obl ⟨⟨_, rfl, fun h => h, Nat.le_refl _, rt_re⟩, ⟨_, rfl, fun h => h, Nat.le_refl _, rv_re⟩, trivial⟩ ?_ | refine N.obl trivial ?_ | refine N.obl ⟨⟨.inl rfl, .inr ⟨_, rfl, rfl⟩, trivial⟩, trivial⟩ ?_ | exact N.true | fail)
theorem cRPut [ZW] (M : RTb) (u : Option Sl) (lv : Nat → RLv) (R : List Rw) (hS : RtS R u lv M) (hl : M.L.length ≤ 500) (n x y a b d w : Int)  (i g : Nat) (h : List (Option Chunk)) (hi : h[i]? = some (some (rtC M.most u lv))) (hg : h[g]? = some (some (rvC R))) (hig : i ≠ g) : CallAll Tryz.prog 11 [.pointer (some ⟨i, 0, some 0⟩), .int .i64 n, elV x y a b d, .int .i64 w] h (fun v ms => ∃ κ : Option Sl × (Nat → RLv) × List Rw, RtS κ.2.2 κ.1 κ.2.1 (rput M n x y a b d w).2 ∧ v = .int .i64 (rput M n x y a b d w).1 ∧ ms = [(i, rtC M.most κ.1 κ.2.1), (g, rvC κ.2.2)]) := by
  refine CallAll.to (call_resall (G := tys) (h := h) (vs := [.pointer (some ⟨i, 0, some 0⟩), .int .i64 n, elV x y a b d, .int .i64 w]) (fun _ : Unit => True) (fun _ => _) (α := Option Sl × (Nat → RLv) × List Rw) (fun κ => RtS κ.2.2 κ.1 κ.2.1 (rput M n x y a b d w).2) (fun κ => .int .i64 (rput M n x y a b d w).1) [⟨i, rtC M.most u lv, rtC M.most u lv, rtC M.most u lv⟩, ⟨g, rvC R, rvC R, rvC R⟩] (fun κ => [rtC M.most κ.1 κ.2.1, rvC κ.2.2]) (fun κ => []) [.pointer (some ⟨0, 0, some 0⟩), .int .i64 n, elV x y a b d, .int .i64 w] tysOK mixed Tryz.func11 (by rfl) (Tryz.call11) ⟨hi, hg, trivial⟩ ⟨⟨fun h => ⟨rfl, Nat.le_refl _⟩, Nat.le_refl _, rt_re⟩, ⟨fun h => ⟨rfl, Nat.le_refl _⟩, Nat.le_refl _, rv_re⟩, trivial⟩ (fun κ _ => ⟨⟨fun h => ⟨rfl, Nat.le_refl _⟩, Nat.le_refl _, rt_re⟩, ⟨fun h => ⟨rfl, Nat.le_refl _⟩, Nat.le_refl _, rv_re⟩, trivial⟩) (by simp [Apart, hig]) ⟨.inl rfl, .inr ⟨rfl, rfl⟩, trivial⟩ (fun κ _ => trivial) ⟨.ptr rfl, .plain rfl, .plain rfl, .plain rfl, trivial⟩ Opens.same ?_) ?_
  rotate_left
  · rintro v ms ⟨κ, hκ, rfl, rfl⟩
    exact ⟨κ, hκ, rfl, rfl⟩
  rintro ⟨⟩ -
  have hE := hS.e
  have hl' : M.L.length ≤ 1000 := by omega
  cases hfe : findE M.L n with
  | none =>
    have e : rput M n x y a b d w = (7, M) := by unfold rput; rw [hfe]
    rw [e]
    repeat' (refine N.go ?_; first | with_reducible (first | refine N.obl (by decide) ?_ | refine N.eq ?_ | refine N.obl rfl ?_ | refine N.obl ⟨by kernel_rfl, by kernel_rfl⟩ ?_ | refine N.alt ?_ | refine N.forkT ?_ | refine N.forkF ?_) | refine N.forkNo (by decide) ?_ | refine N.forkYes (by decide) ?_ | refine N.call (cRGetN M.most u lv R M.L hE hl' n hfe 0 1 _ (by rfl) (by rfl) (by decide)) ?_ | refine N.endSame ?_ | refine N.some (u, lv, R) ⟨hS, ?_⟩ | refine N.obl (.plain rfl) ?_ | refine N.obl ⟨⟨_, rfl, fun h => h, Nat.le_refl _, rt_re⟩, ⟨_, rfl, fun h => h, Nat.le_refl _, rv_re⟩, trivial⟩ ?_ | refine N.obl trivial ?_ | refine N.obl ⟨⟨.inl rfl, .inr ⟨_, rfl, rfl⟩, trivial⟩, trivial⟩ ?_ | exact N.true | fail)
  | some e =>
    by_cases hm : mayP x y a b d
    · by_cases hw : timeP w
      · have ee : rput M n x y a b d w = (0, ⟨M.most, setE M.L (e.put x y a b d w), M.lv⟩) := by unfold rput; rw [hfe]; simp only; rw [if_pos ⟨hm, hw⟩]
        rw [ee]
        repeat' (refine N.go ?_; first | with_reducible (first | refine N.obl (by decide) ?_ | refine N.eq ?_ | refine N.obl rfl ?_ | refine N.obl ⟨by kernel_rfl, by kernel_rfl⟩ ?_ | refine N.alt ?_ | refine N.forkT ?_ | refine N.forkF ?_) | refine N.forkNo (by decide) ?_ | refine N.forkYes (by decide) ?_ | refine N.call (cRGetY M.most u lv R M.L hE hl' n e hfe 0 1 _ (by rfl) (by rfl) (by decide)) ?_ | refine N.call (cMayE x y a b d _) ?_ | refine N.call (cRTime _ _) ?_ | refine N.forkNo (by rw [decide_eq_true hm]; rfl) ?_ | refine N.forkNo (by rw [decide_eq_true hw]; rfl) ?_ | fail)
        refine N.go ?_
        refine N.callAll (cRSetO M.most u lv R M.L hE hl' (e.put x y a b d w) 0 1 _ (by rfl) (by rfl) (by decide)) fun v ms hR2 => ?_
        obtain ⟨u2, R2, hE2, hR2, rfl, rfl⟩ := hR2
        repeat' (refine N.go ?_; first | with_reducible (first | refine N.obl (by decide) ?_ | refine N.eq ?_ | refine N.obl rfl ?_ | refine N.obl ⟨by kernel_rfl, by kernel_rfl⟩ ?_ | refine N.alt ?_ | refine N.forkT ?_ | refine N.forkF ?_) | refine N.endSame ?_ | refine N.some (u2, lv, R2) ⟨⟨hE2, fun q hq => (hS.lv q hq).more hR2⟩, ?_⟩ | refine N.obl (.plain rfl) ?_ | refine N.obl ⟨⟨_, rfl, fun h => h, Nat.le_refl _, rt_re⟩, ⟨_, rfl, fun h => h, Nat.le_refl _, rv_re⟩, trivial⟩ ?_ | refine N.obl trivial ?_ | refine N.obl ⟨⟨.inl rfl, .inr ⟨_, rfl, rfl⟩, trivial⟩, trivial⟩ ?_ | exact N.true | fail)
      · have ee : rput M n x y a b d w = (1, M) := by unfold rput; rw [hfe]; simp only; rw [if_neg fun h => hw h.2]
        rw [ee]
        repeat' (refine N.go ?_; first | with_reducible (first | refine N.obl (by decide) ?_ | refine N.eq ?_ | refine N.obl rfl ?_ | refine N.obl ⟨by kernel_rfl, by kernel_rfl⟩ ?_ | refine N.alt ?_ | refine N.forkT ?_ | refine N.forkF ?_) | refine N.forkNo (by decide) ?_ | refine N.forkYes (by decide) ?_ | refine N.call (cRGetY M.most u lv R M.L hE hl' n e hfe 0 1 _ (by rfl) (by rfl) (by decide)) ?_ | refine N.call (cMayE x y a b d _) ?_ | refine N.call (cRTime _ _) ?_ | refine N.forkNo (by rw [decide_eq_true hm]; rfl) ?_ | refine N.forkYes (by rw [decide_eq_false hw]; rfl) ?_ | refine N.endSame ?_ | refine N.some (u, lv, R) ⟨hS, ?_⟩ | refine N.obl (.plain rfl) ?_ | refine N.obl ⟨⟨_, rfl, fun h => h, Nat.le_refl _, rt_re⟩, ⟨_, rfl, fun h => h, Nat.le_refl _, rv_re⟩, trivial⟩ ?_ | refine N.obl trivial ?_ | refine N.obl ⟨⟨.inl rfl, .inr ⟨_, rfl, rfl⟩, trivial⟩, trivial⟩ ?_ | exact N.true | fail)
    · have ee : rput M n x y a b d w = (1, M) := by unfold rput; rw [hfe]; simp only; rw [if_neg fun h => hm h.1]
      rw [ee]
      repeat' (refine N.go ?_; first | with_reducible (first | refine N.obl (by decide) ?_ | refine N.eq ?_ | refine N.obl rfl ?_ | refine N.obl ⟨by kernel_rfl, by kernel_rfl⟩ ?_ | refine N.alt ?_ | refine N.forkT ?_ | refine N.forkF ?_) | refine N.forkNo (by decide) ?_ | refine N.forkYes (by decide) ?_ | refine N.call (cRGetY M.most u lv R M.L hE hl' n e hfe 0 1 _ (by rfl) (by rfl) (by decide)) ?_ | refine N.call (cMayE x y a b d _) ?_ | refine N.forkYes (by rw [decide_eq_false hm]; rfl) ?_ | refine N.endSame ?_ | refine N.some (u, lv, R) ⟨hS, ?_⟩ | refine N.obl (.plain rfl) ?_ | refine N.obl ⟨⟨_, rfl, fun h => h, Nat.le_refl _, rt_re⟩, ⟨_, rfl, fun h => h, Nat.le_refl _, rv_re⟩, trivial⟩ ?_ | refine N.obl trivial ?_ | refine N.obl ⟨⟨.inl rfl, .inr ⟨_, rfl, rfl⟩, trivial⟩, trivial⟩ ?_ | exact N.true | fail)
end Go.Proofs.YtimccfnlcnlffaaGreat


namespace Go.Proofs.YtimccfnlcnlffaaGreat
open Go Go.RowKit Sx
theorem gone_next {L : List Ent} {y : Nat} {e : Ent} (now silent : Int) (he : L[y]? = some e) : goneE (L.take (y + 1)) now silent = if 0 ≤ now ∧ e.heard ≤ now - max 1 silent then goneE (L.take y) now silent ++ [e.node] else goneE (L.take y) now silent := by
  rw [List.take_add_one, he]
  unfold goneE
  rw [List.filter_append, List.map_append]
  by_cases hp : 0 ≤ now ∧ e.heard ≤ now - max 1 silent
  · rw [if_pos hp]; simp [hp]
  · rw [if_neg hp]; simp [hp]
theorem gone_len (L : List Ent) (now silent : Int) : (goneE L now silent).length ≤ L.length := by
  unfold goneE
  rw [List.length_map]
  exact List.length_filter_le _ _
theorem drops_len (G : List Int) : ∀ L : List Ent, (G.foldl dropE L).length ≤ L.length := by
  induction G with
  | nil => exact fun L => Nat.le_refl _
  | cons a r ih => exact fun L => Nat.le_trans (ih _) (List.length_filter_le _ _)
theorem cREvict [ZW] (M : RTb) (u : Option Sl) (lv : Nat → RLv) (R : List Rw) (hS : RtS R u lv M) (hl : M.L.length ≤ 500) (now silent : Int) (hnow : -9223372036854775808 ≤ now ∧ now < 9223372036854775808) (hsil : -9223372036854775808 ≤ silent ∧ silent < 9223372036854775808) (i g : Nat) (h : List (Option Chunk)) (hi : h[i]? = some (some (rtC M.most u lv))) (hg : h[g]? = some (some (rvC R))) (hig : i ≠ g) : CallAll Tryz.prog 13 [.pointer (some ⟨i, 0, some 0⟩), .int .i64 now, .int .i64 silent] h (fun v ms => ∃ κ : Option Sl × (Nat → RLv) × List Rw × Option Sl, (RtS κ.2.2.1 κ.1 κ.2.1 (revict M now silent) ∧ RowI κ.2.2.1 κ.2.2.2 (goneE M.L now silent)) ∧ v = uV κ.2.2.2 ∧ ms = [(i, rtC M.most κ.1 κ.2.1), (g, rvC κ.2.2.1)]) := by
  refine CallAll.to (call_resall (G := tys) (h := h) (vs := [.pointer (some ⟨i, 0, some 0⟩), .int .i64 now, .int .i64 silent]) (fun _ : Unit => True) (fun _ => _) (α := Option Sl × (Nat → RLv) × List Rw × Option Sl) (fun κ => RtS κ.2.2.1 κ.1 κ.2.1 (revict M now silent) ∧ RowI κ.2.2.1 κ.2.2.2 (goneE M.L now silent)) (fun κ => uV κ.2.2.2) [⟨i, rtC M.most u lv, rtC M.most u lv, rtC M.most u lv⟩, ⟨g, rvC R, rvC R, rvC R⟩] (fun κ => [rtC M.most κ.1 κ.2.1, rvC κ.2.2.1]) (fun κ => []) [.pointer (some ⟨0, 0, some 0⟩), .int .i64 now, .int .i64 silent] tysOK mixed Tryz.func13 (by rfl) (Tryz.call13) ⟨hi, hg, trivial⟩ ⟨⟨fun h => ⟨rfl, Nat.le_refl _⟩, Nat.le_refl _, rt_re⟩, ⟨fun h => ⟨rfl, Nat.le_refl _⟩, Nat.le_refl _, rv_re⟩, trivial⟩ (fun κ _ => ⟨⟨fun h => ⟨rfl, Nat.le_refl _⟩, Nat.le_refl _, rt_re⟩, ⟨fun h => ⟨rfl, Nat.le_refl _⟩, Nat.le_refl _, rv_re⟩, trivial⟩) (by simp [Apart, hig]) ⟨.inl rfl, .inr ⟨rfl, rfl⟩, trivial⟩ (fun κ _ => trivial) ⟨.ptr rfl, .plain rfl, .plain rfl, trivial⟩ Opens.same ?_) ?_
  rotate_left
  · rintro v ms ⟨κ, hκ, rfl, rfl⟩
    exact ⟨κ, hκ, rfl, rfl⟩
  rintro ⟨⟩ -
  have hE := hS.e
  have hlen := hE.len
  have hl' : M.L.length ≤ 1000 := by omega
  repeat' (refine N.go ?_; first | with_reducible (first | refine N.obl (by decide) ?_ | refine N.eq ?_ | refine N.obl rfl ?_ | refine N.obl ⟨by kernel_rfl, by kernel_rfl⟩ ?_ | refine N.alt ?_ | refine N.forkT ?_ | refine N.forkF ?_) | refine N.op (ok_lenU rfl rfl ⟨_, rfl, _, Tryz.underlying46⟩) ?_ | fail)
  refine N.go ?_
  refine N.loopR (α := Nat × Option Rw) (fun q => q.1 ≤ M.L.length ∧ OI q.2 (goneE (M.L.take q.1) now silent)) (fun q => M.L.length - q.1) (fun q => [(17, .int .i64 (q.1 : Nat)), (7, uV (rowO q.2))]) (fun q => [(1, rvC (rowL q.2 R))]) (0, none) [(0, 0), (1, 1)] ⟨Nat.zero_le _, OI.nil⟩ ?_ ?_
  · repeat' (refine N.go ?_; first | with_reducible (first | refine N.obl (by decide) ?_ | refine N.eq ?_ | refine N.obl rfl ?_ | refine N.obl ⟨by kernel_rfl, by kernel_rfl⟩ ?_ | refine N.alt ?_ | refine N.forkT ?_ | refine N.forkF ?_) | exact N.true | refine N.obl (.plain (by rfl)) ?_ | refine N.obl (re_eqn (int_eqn (by rw [i64s ((y : Int) + 1) (by omega) (by omega)]; rfl)) rfl) ?_ | refine N.obl (.one (.ptr rfl)) ?_ | refine N.obl rt_ren ?_ | refine N.obl rv_ren ?_ | refine N.obl (ChunkReLe.same (agg_plain (by rfl) (by rfl))) ?_ | refine N.obl (.one .quo) ?_ | refine N.obl (.one (.any (fun _ _ => rfl) fun _ _ => rfl)) ?_ | fail)
  rintro ⟨y, oe⟩ ⟨hy, hoe⟩
  have hy : y ≤ M.L.length := hy
  have hoe : OI oe (goneE (M.L.take y) now silent) := hoe
  by_cases hyl : y < M.L.length
  · obtain ⟨z, hz⟩ : ∃ z, M.L[y]? = some z := ⟨_, List.getElem?_eq_getElem hyl⟩
    have hlt : ((y : Nat) : Int) < ((uN u : Nat) : Int) := by rw [hlen]; omega
    have hgn := gone_next now silent hz
    have hgl := gone_len (M.L.take y) now silent
    have htl : (M.L.take y).length ≤ M.L.length := by rw [List.length_take]; omega
    rcases hE with ⟨_, h0⟩ | ⟨r, hr0, hu, hrk, hrn, hx, hrc⟩
    · rw [h0] at hyl; exact absurd hyl (Nat.not_lt_zero y)
    subst hu
    have hr := rowL_sub oe R r hr0
    have hlen2 : r.n = M.L.length := hrn
    by_cases h1 : now ≥ 0
    · have hw : IntKind.i64.wrap (now - max 1 silent) = now - max 1 silent := i64s _ (by omega) (by omega)
      by_cases h2 : z.heard ≤ now - max 1 silent
      · rw [if_pos ⟨h1, h2⟩] at hgn
        repeat' (refine N.go ?_; first | with_reducible (first | refine N.obl (by decide) ?_ | refine N.eq ?_ | refine N.obl rfl ?_ | refine N.obl ⟨by kernel_rfl, by kernel_rfl⟩ ?_ | refine N.alt ?_ | refine N.forkT ?_ | refine N.forkF ?_) | refine N.forkYes (decide_eq_true hlt) ?_ | refine N.op (ok_idxR (sz := 10) (g := r.o + y * 10) tysOK rfl rfl (fun ρ => by rw [uV_den]; rfl) rfl (by exact rfl) (by omega) (by show ((y : Nat) : Int) < ((r.n : Nat) : Int); omega) (by show r.o + ((y : Nat) : Int).toNat * 10 = _; rw [Int.toNat_natCast])) ?_ | refine N.op (ok_loadVA (i := 1) r (enCs z) (y * 10) tysOK rfl rfl rfl (by rfl) hr (by exact ⟨rfl, rfl⟩) rfl rfl (fun j v hv => by rw [hx]; exact flat_at hz j v hv)) ?_ | refine N.max2 ?_ | refine N.forkYes (decide_eq_true h1) ?_ | refine N.forkYes (decide_eq_true (by rw [hw]; exact h2)) ?_ | fail)
        refine N.go ?_
        refine appI oe R (goneE (M.L.take y) now silent) [z.node] 1 [_] hoe rfl rfl (fun ρ => uV_den _ ρ) (by rfl) (src_chunk [_] (List.mem_singleton.2 rfl) rfl (by rfl) (rd_all (by rfl) (by rfl)) rfl) (by show _ + 1 ≤ _; omega) fun oe' hoe' => ?_
        repeat' (refine N.go ?_; first | with_reducible (first | refine N.obl (by decide) ?_ | refine N.eq ?_ | refine N.obl rfl ?_ | refine N.obl ⟨by kernel_rfl, by kernel_rfl⟩ ?_ | refine N.alt ?_ | refine N.forkT ?_ | refine N.forkF ?_) | fail)
        refine N.go ?_
        refine N.nextR (α := Nat × Option Rw) (y + 1, oe') [(0, 0), (1, 1)] ⟨⟨hyl, by show OI oe' (goneE (M.L.take (y + 1)) now silent); rw [hgn]; exact hoe'⟩, by show M.L.length - (y + 1) < M.L.length - y; omega⟩ ?_
        repeat' (refine N.go ?_; first | with_reducible (first | refine N.obl (by decide) ?_ | refine N.eq ?_ | refine N.obl rfl ?_ | refine N.obl ⟨by kernel_rfl, by kernel_rfl⟩ ?_ | refine N.alt ?_ | refine N.forkT ?_ | refine N.forkF ?_) | exact N.true | refine N.obl (.plain (by rfl)) ?_ | refine N.obl (re_eqn (int_eqn (by rw [i64s ((y : Int) + 1) (by omega) (by omega)]; rfl)) rfl) ?_ | refine N.obl (.one (.ptr rfl)) ?_ | refine N.obl rt_ren ?_ | refine N.obl rv_ren ?_ | refine N.obl (ChunkReLe.same (agg_plain (by rfl) (by rfl))) ?_ | refine N.obl (.one .quo) ?_ | refine N.obl (.one (.any (fun _ _ => rfl) fun _ _ => rfl)) ?_ | fail)
      · rw [if_neg (fun h => h2 h.2)] at hgn
        repeat' (refine N.go ?_; first | with_reducible (first | refine N.obl (by decide) ?_ | refine N.eq ?_ | refine N.obl rfl ?_ | refine N.obl ⟨by kernel_rfl, by kernel_rfl⟩ ?_ | refine N.alt ?_ | refine N.forkT ?_ | refine N.forkF ?_) | refine N.forkYes (decide_eq_true hlt) ?_ | refine N.op (ok_idxR (sz := 10) (g := r.o + y * 10) tysOK rfl rfl (fun ρ => by rw [uV_den]; rfl) rfl (by exact rfl) (by omega) (by show ((y : Nat) : Int) < ((r.n : Nat) : Int); omega) (by show r.o + ((y : Nat) : Int).toNat * 10 = _; rw [Int.toNat_natCast])) ?_ | refine N.op (ok_loadVA (i := 1) r (enCs z) (y * 10) tysOK rfl rfl rfl (by rfl) hr (by exact ⟨rfl, rfl⟩) rfl rfl (fun j v hv => by rw [hx]; exact flat_at hz j v hv)) ?_ | refine N.max2 ?_ | refine N.forkYes (decide_eq_true h1) ?_ | refine N.forkNo (decide_eq_false (by rw [hw]; exact h2)) ?_ | fail)
        refine N.go ?_
        refine N.nextR (α := Nat × Option Rw) (y + 1, oe) [(0, 0), (1, 1)] ⟨⟨hyl, by show OI oe (goneE (M.L.take (y + 1)) now silent); rw [hgn]; exact hoe⟩, by show M.L.length - (y + 1) < M.L.length - y; omega⟩ ?_
        repeat' (refine N.go ?_; first | with_reducible (first | refine N.obl (by decide) ?_ | refine N.eq ?_ | refine N.obl rfl ?_ | refine N.obl ⟨by kernel_rfl, by kernel_rfl⟩ ?_ | refine N.alt ?_ | refine N.forkT ?_ | refine N.forkF ?_) | exact N.true | refine N.obl (.plain (by rfl)) ?_ | refine N.obl (re_eqn (int_eqn (by rw [i64s ((y : Int) + 1) (by omega) (by omega)]; rfl)) rfl) ?_ | refine N.obl (.one (.ptr rfl)) ?_ | refine N.obl rt_ren ?_ | refine N.obl rv_ren ?_ | refine N.obl (ChunkReLe.same (agg_plain (by rfl) (by rfl))) ?_ | refine N.obl (.one .quo) ?_ | refine N.obl (.one (.any (fun _ _ => rfl) fun _ _ => rfl)) ?_ | fail)
    · rw [if_neg (fun h => h1 h.1)] at hgn
      repeat' (refine N.go ?_; first | with_reducible (first | refine N.obl (by decide) ?_ | refine N.eq ?_ | refine N.obl rfl ?_ | refine N.obl ⟨by kernel_rfl, by kernel_rfl⟩ ?_ | refine N.alt ?_ | refine N.forkT ?_ | refine N.forkF ?_) | refine N.forkYes (decide_eq_true hlt) ?_ | refine N.op (ok_idxR (sz := 10) (g := r.o + y * 10) tysOK rfl rfl (fun ρ => by rw [uV_den]; rfl) rfl (by exact rfl) (by omega) (by show ((y : Nat) : Int) < ((r.n : Nat) : Int); omega) (by show r.o + ((y : Nat) : Int).toNat * 10 = _; rw [Int.toNat_natCast])) ?_ | refine N.op (ok_loadVA (i := 1) r (enCs z) (y * 10) tysOK rfl rfl rfl (by rfl) hr (by exact ⟨rfl, rfl⟩) rfl rfl (fun j v hv => by rw [hx]; exact flat_at hz j v hv)) ?_ | refine N.max2 ?_ | refine N.forkNo (decide_eq_false h1) ?_ | fail)
      refine N.go ?_
      refine N.nextR (α := Nat × Option Rw) (y + 1, oe) [(0, 0), (1, 1)] ⟨⟨hyl, by show OI oe (goneE (M.L.take (y + 1)) now silent); rw [hgn]; exact hoe⟩, by show M.L.length - (y + 1) < M.L.length - y; omega⟩ ?_
      repeat' (refine N.go ?_; first | with_reducible (first | refine N.obl (by decide) ?_ | refine N.eq ?_ | refine N.obl rfl ?_ | refine N.obl ⟨by kernel_rfl, by kernel_rfl⟩ ?_ | refine N.alt ?_ | refine N.forkT ?_ | refine N.forkF ?_) | exact N.true | refine N.obl (.plain (by rfl)) ?_ | refine N.obl (re_eqn (int_eqn (by rw [i64s ((y : Int) + 1) (by omega) (by omega)]; rfl)) rfl) ?_ | refine N.obl (.one (.ptr rfl)) ?_ | refine N.obl rt_ren ?_ | refine N.obl rv_ren ?_ | refine N.obl (ChunkReLe.same (agg_plain (by rfl) (by rfl))) ?_ | refine N.obl (.one .quo) ?_ | refine N.obl (.one (.any (fun _ _ => rfl) fun _ _ => rfl)) ?_ | fail)
  have hnl : ¬ ((y : Nat) : Int) < ((uN u : Nat) : Int) := by rw [hlen]; omega
  have hLk : M.L.take y = M.L := List.take_of_length_le (by omega)
  rw [hLk] at hoe
  have hg0 := hoe.row R
  have hgl := gone_len M.L now silent
  generalize hGG : goneE M.L now silent = GG at hoe hg0 hgl
  have hglen := hg0.len
  repeat' (refine N.go ?_; first | with_reducible (first | refine N.obl (by decide) ?_ | refine N.eq ?_ | refine N.obl rfl ?_ | refine N.obl ⟨by kernel_rfl, by kernel_rfl⟩ ?_ | refine N.alt ?_ | refine N.forkT ?_ | refine N.forkF ?_) | refine N.forkNo (decide_eq_false hnl) ?_ | refine N.op (ok_lenU rfl rfl ⟨_, rfl, _, Tryz.underlying39⟩) ?_ | fail)
  refine N.go ?_
  refine N.loopR (α := Nat × Option Sl × List Rw) (fun q => q.1 ≤ GG.length ∧ RowE q.2.2 q.2.1 ((GG.take q.1).foldl dropE M.L) ∧ ∀ r ∈ rowL oe R, r ∈ q.2.2) (fun q => GG.length - q.1) (fun q => [(40, .int .i64 (q.1 : Nat))]) (fun q => [(0, rtC M.most q.2.1 lv), (1, rvC q.2.2)]) (0, u, rowL oe R) [(0, 0), (1, 1)] ⟨Nat.zero_le _, hE.more (rowL_sub oe R), fun r hr => hr⟩ ?_ ?_
  · repeat' (refine N.go ?_; first | with_reducible (first | refine N.obl (by decide) ?_ | refine N.eq ?_ | refine N.obl rfl ?_ | refine N.obl ⟨by kernel_rfl, by kernel_rfl⟩ ?_ | refine N.alt ?_ | refine N.forkT ?_ | refine N.forkF ?_) | exact N.true | refine N.obl (.plain (by rfl)) ?_ | refine N.obl (re_eqn (int_eqn (by rw [i64s ((y : Int) + 1) (by omega) (by omega)]; rfl)) rfl) ?_ | refine N.obl (.one (.ptr rfl)) ?_ | refine N.obl rt_ren ?_ | refine N.obl rv_ren ?_ | refine N.obl (ChunkReLe.same (agg_plain (by rfl) (by rfl))) ?_ | refine N.obl (.one .quo) ?_ | refine N.obl (.one (.any (fun _ _ => rfl) fun _ _ => rfl)) ?_ | fail)
  rintro ⟨y, u2, R2⟩ ⟨hy, hE2, hsub⟩
  have hy : y ≤ GG.length := hy
  have hE2 : RowE R2 u2 ((GG.take y).foldl dropE M.L) := hE2
  have hsub : ∀ r ∈ rowL oe R, r ∈ R2 := hsub
  by_cases hyl : y < GG.length
  · obtain ⟨s, he⟩ : ∃ s, GG[y]? = some s := ⟨_, List.getElem?_eq_getElem hyl⟩
    have hlt : ((y : Nat) : Int) < ((uN (rowO oe) : Nat) : Int) := by rw [hglen]; omega
    have hl2 : ((GG.take y).foldl dropE M.L).length ≤ 1000 := Nat.le_trans (drops_len _ _) hl'
    have hnx : (GG.take (y + 1)).foldl dropE M.L = dropE ((GG.take y).foldl dropE M.L) s := by rw [List.take_add_one, he, List.foldl_append]; rfl
    rcases hg0 with ⟨_, h0⟩ | ⟨r2, hr2, hu2, hrk2, hrn2, hx2⟩
    · rw [h0] at hyl; exact absurd hyl (Nat.not_lt_zero y)
    repeat' (refine N.go ?_; first | with_reducible (first | refine N.obl (by decide) ?_ | refine N.eq ?_ | refine N.obl rfl ?_ | refine N.obl ⟨by kernel_rfl, by kernel_rfl⟩ ?_ | refine N.alt ?_ | refine N.forkT ?_ | refine N.forkF ?_) | refine N.forkYes (decide_eq_true hlt) ?_ | refine N.op (ok_idxR (sz := 1) (g := r2.o + y) tysOK rfl rfl (fun ρ => by rw [uV_den, hu2]; rfl) rfl (by exact rfl) (by omega) (by show ((y : Nat) : Int) < ((r2.n : Nat) : Int); omega) (by show r2.o + ((y : Nat) : Int).toNat * 1 = _; rw [Int.toNat_natCast, Nat.mul_one])) ?_ | refine N.op (ok_loadV (i := 1) r2 (v := .int .i64 s) y tysOK rfl rfl rfl (by rfl) (hsub _ hr2) (by exact rfl) rfl (by rw [hx2, List.getElem?_map, he]; rfl)) ?_ | fail)
    refine N.go ?_
    refine N.callAll (cRDropO M.most u2 lv R2 ((GG.take y).foldl dropE M.L) hE2 hl2 s 0 1 _ (by rfl) (by rfl) (by decide)) fun v ms hR3 => ?_
    obtain ⟨u3, R3, hE3, hR3, rfl, rfl⟩ := hR3
    repeat' (refine N.go ?_; first | with_reducible (first | refine N.obl (by decide) ?_ | refine N.eq ?_ | refine N.obl rfl ?_ | refine N.obl ⟨by kernel_rfl, by kernel_rfl⟩ ?_ | refine N.alt ?_ | refine N.forkT ?_ | refine N.forkF ?_) | fail)
    refine N.go ?_
    refine N.nextR (α := Nat × Option Sl × List Rw) (y + 1, u3, R3) [(0, 0), (1, 1)] ⟨⟨hyl, by show RowE R3 u3 ((GG.take (y + 1)).foldl dropE M.L); rw [hnx]; exact hE3, fun r hr => hR3 r (hsub r hr)⟩, by show GG.length - (y + 1) < GG.length - y; omega⟩ ?_
    repeat' (refine N.go ?_; first | with_reducible (first | refine N.obl (by decide) ?_ | refine N.eq ?_ | refine N.obl rfl ?_ | refine N.obl ⟨by kernel_rfl, by kernel_rfl⟩ ?_ | refine N.alt ?_ | refine N.forkT ?_ | refine N.forkF ?_) | exact N.true | refine N.obl (.plain (by rfl)) ?_ | refine N.obl (re_eqn (int_eqn (by rw [i64s ((y : Int) + 1) (by omega) (by omega)]; rfl)) rfl) ?_ | refine N.obl (.one (.ptr rfl)) ?_ | refine N.obl rt_ren ?_ | refine N.obl rv_ren ?_ | refine N.obl (ChunkReLe.same (agg_plain (by rfl) (by rfl))) ?_ | refine N.obl (.one .quo) ?_ | refine N.obl (.one (.any (fun _ _ => rfl) fun _ _ => rfl)) ?_ | fail)
  have hnl2 : ¬ ((y : Nat) : Int) < ((uN (rowO oe) : Nat) : Int) := by rw [hglen]; omega
  have hGk : GG.take y = GG := List.take_of_length_le (by omega)
  rw [hGk] at hE2
  repeat' (refine N.go ?_; first | with_reducible (first | refine N.obl (by decide) ?_ | refine N.eq ?_ | refine N.obl rfl ?_ | refine N.obl ⟨by kernel_rfl, by kernel_rfl⟩ ?_ | refine N.alt ?_ | refine N.forkT ?_ | refine N.forkF ?_) | refine N.forkNo (decide_eq_false hnl2) ?_ | refine N.endSame ?_ | refine N.some (u2, lv, R2, rowO oe) ⟨⟨⟨by unfold revict; rw [hGG]; exact hE2, fun q hq => (hS.lv q hq).more fun r hr => hsub r (rowL_sub oe R r hr)⟩, hg0.more hsub⟩, ?_⟩ | refine N.obl (.one .quo) ?_ | refine N.obl (.plain rfl) ?_ | refine N.obl ⟨⟨_, rfl, fun h => h, Nat.le_refl _, rt_re⟩, ⟨_, rfl, fun h => h, Nat.le_refl _, rv_re⟩, trivial⟩ ?_ | refine N.obl trivial ?_ | refine N.obl ⟨⟨.inl rfl, .inr ⟨_, rfl, rfl⟩, trivial⟩, trivial⟩ ?_ | exact N.true | fail)
theorem ne_entry_same (x y : Operand) (e : Ent) : BinIs Tryz.prog .neq 42 x y (entV e) (entV e) (.bool false) :=
  ⟨rfl, rfl, rfl, fun w => by go_simp⟩
end Go.Proofs.YtimccfnlcnlffaaGreat


namespace Go.Proofs.YtimccfnlcnlffaaGreat
open Go Go.RowKit Sx
theorem calls_rv [ZW] {f : FuncId} {fn : Func} {c : Code} {vs : List Value} {V : Value} (W : World) (hz : ZW.z = some W) (hG : TysOK Tryz.prog tys) (hm : Tryz.prog.follows .mixedOrders = true) (hf : Tryz.prog.funcs[f]? = some fn) (hb : fn.body = some c) (hW : 0 < W.heap.size) (hp : vs.all plain2 = true) (hV : plain3 V = true)
    (hwp : initK vs fn.ntmps fun t => wpC Tryz.prog tys 1 c (bodyQ Tryz.prog tys fn fun v st => N (v = V ∧ ∃ R, st.h[0]? = some (some (rvC R)))) ⟨t, [some (rvC [])]⟩) : Calls Tryz.prog f ⟨vs⟩ W fun e w' => e = .returned V ∧ Below W.heap.size W w' := by
  let X : Ctx := ⟨W, fun a => a.block < W.heap.size, 1, fun _ => (0, 0)⟩
  have one : ∀ (k : Nat) (d : Chunk), [some (rvC [])][k]? = some (some d) → k = 0 ∧ d = rvC [] := fun k d hk => by
    cases k with
    | zero => exact ⟨rfl, by simpa using hk.symm⟩
    | succ k => simp at hk
  have H : HOK X (fun _ => (0, 0)) [some (rvC [])] W := by
    refine ⟨Evo.refl _ _, fun i hi => ⟨⟨_, by
        have hi : i < 1 := hi
        obtain rfl : i = 0 := by omega
        rfl⟩, rfl⟩, fun k d hk => hW, fun k d hk j hj => ?_, fun k d hk ho j hj => ?_, fun k d l e hk ho hl hne => ?_, fun i b => i = 0 ∧ b < W.heap.size, fun k d hk => ?_, fun k d b hk hS => ?_, fun k d b l e hk hS hl hne => ?_⟩
    · obtain ⟨rfl, rfl⟩ := one k d hk; exact absurd hj (Nat.not_lt_zero j)
    · obtain ⟨rfl, rfl⟩ := one k d hk; exact absurd hj (Nat.not_lt_zero j)
    · exact absurd ((one k d hk).1.trans (one l e hl).1.symm) hne
    · obtain ⟨rfl, rfl⟩ := one k d hk
      refine ⟨List.nodup_nil, (fun r hr => by cases hr), fun W' hW' => ?_⟩
      rw [hz] at hW'
      obtain rfl := Option.some.inj hW'
      exact ⟨hW, Nat.le_refl _, fun b hb => ⟨⟨rfl, hb⟩, rfl⟩⟩
    · obtain ⟨rfl, rfl⟩ := one k d hk
      exact ⟨.inl rfl, hS.2, .inr ⟨hS.2, fun _ => hS.2⟩⟩
    · exact absurd ((one l e hl).1.trans (one k d hk).1.symm) hne
  have hd : ∀ {vs : List Value}, vs.all plain2 = true → All2 (Den (Fil [some (rvC [])]) (fun _ => (0, 0))) vs vs := by
    intro vs
    induction vs with
    | nil => exact fun _ => trivial
    | cons v r ih =>
      intro hp
      simp only [List.all_cons, Bool.and_eq_true] at hp
      exact ⟨Den.plain hp.1, ih hp.2⟩
  refine (calls_sx (args := ⟨vs⟩) (X := X) hG hm hf hb H (hd hp) hwp).mono ?_
  rintro e w' ⟨ρ', v, st, x, rfl, H', hdx, hq⟩
  obtain ⟨rfl, R, hF⟩ := hq.out
  obtain ⟨S, E⟩ := H'.ext
  have M : RvOK R (ρ' 0) (S 0) w' := E.inv 0 _ hF
  exact ⟨by rw [← hdx.self, den_plain3 hV], H'.evo.os, H'.evo.tape, H'.evo.output, H'.evo.size, fun b hb => ((M.base W hz).2.2 b hb).2⟩
theorem ok_loadRV [ZW] {o : Oper} {st : St} {t : TypeId} {x : Operand} {b f i sz : Nat} {W : World} (hz : ZW.z = some W) {R : List Rw} {ds : List Value} (ho : o.op = .load t x) (hx : EvTo x st (.pointer (some ⟨b, f, none⟩))) (hi : st.h[i]? = some (some (rvC R)))
    (ht : lookT tys t fun ti d => isAggD d = true ∧ ti.size = sz) (hp : ds.all plain1 = true) (hl : ds.length = sz) (hk : ∀ j v, ds[j]? = some v → W.cell? ⟨b, f + j, none⟩ = some v) : OKs Tryz.prog o st (.agg ⟨ds⟩) [] [i] := fun st₂ hs hh _ =>
  eff_pure fun X ρ a w Rl => by
    have hi2 : st₂.h[i]? = some (some (rvC R)) := (hh i (by simp)).trans hi
    have hx' := ev_real (hs x (by simp [ho, Op.operands]) _ hx) rfl Rl
    obtain ⟨ti, d, h1, h2, hd', rfl⟩ := lookT_out tysOK ht
    obtain ⟨S, E⟩ := Rl.heap.ext
    have V : RvOK R (ρ i) (S i) w := E.inv i _ hi2
    have hcells : ∀ j v, ds[j]? = some v → w.cell? ((⟨b, f, none⟩ : Addr).add j) = some v := fun j v hv => by
      have h := hk j v hv
      rw [add_at, ← h]; exact cellM_same ((V.base W hz).2.2 b (cell_lt h)).2
    refine ⟨.agg ⟨ds⟩, ?_, Den.plain hp⟩
    simp only [execOp, ho, hx', Instr.loadAt, Instr.sureAddr, loadVar, Sem.run_bind, Sem.run_pure, Result.andThen_ok, run_isAgg h2, hd', if_true, Sx.run_sizeOf h1]
    rw [← hl, run_loadCells_list _ _ _ hcells]
    rfl
theorem no_re {ix : List (Nat × Nat)} {c : Chunk} : ∀ j, j < 0 → Re1 ix (noC.f j) (c.f j) := fun j hj => absurd hj (Nat.not_lt_zero j)
theorem en_ren {ix : List (Nat × Nat)} {o : Bool} {c : Nat} {T : Nat → Ent} : ChunkReLe ix (enC o c T) (enC o c T) := ⟨id, Nat.le_refl _, enC_re (fun _ _ => rfl)⟩
theorem cRSame [ZW] (cap n : Nat) (T : Nat → Ent) (u : Option Sl) (R : List Rw) (L : List Ent) (hE : RowE R u L) (hl : L.length ≤ 1000) (hn : n = L.length) (hc : n ≤ cap) (hT : ∀ (i : Nat) (e : Ent), L[i]? = some e → T i = e) (K g : Nat) (h : List (Option Chunk)) (hK : h[K]? = some (some (enC true cap T))) (hg : h[g]? = some (some (rvC R))) (hKg : K ≠ g) : CallOK Tryz.prog 17 [.slice (some ⟨K, 0, some 0⟩) n cap, uV u] h (.bool true) [(g, rvC R)] [K] := by
  refine call_res (G := tys) (fun _ : Unit => True) (fun _ => _) [⟨K, enC true cap T, enC false cap T, noC⟩, ⟨g, rvC R, rvC R, rvC R⟩] [] [.slice (some ⟨0, 0, some 0⟩) n cap, uV u] tysOK mixed Tryz.func17 (by rfl) (Tryz.call17) ⟨hK, hg, trivial⟩ ⟨⟨fun h => (by cases h), Nat.le_refl _, enC_re (fun _ _ => rfl)⟩, ⟨fun h => ⟨rfl, Nat.le_refl _⟩, Nat.le_refl _, rv_re⟩, trivial⟩ (by simp [Apart, hKg]) ⟨.inl rfl, .inr ⟨rfl, rfl⟩, trivial⟩ trivial ⟨.slice rfl, .quo, trivial⟩ Opens.same ?_
  rintro ⟨⟩ -
  have hlen := hE.len
  have hlen2 : ((uN u : Nat) : Int) = ((L.length : Nat) : Int) := by rw [hlen]
  repeat' (refine N.go ?_; first | with_reducible (first | refine N.obl (by decide) ?_ | refine N.eq ?_ | refine N.obl rfl ?_ | refine N.obl ⟨by kernel_rfl, by kernel_rfl⟩ ?_ | refine N.alt ?_ | refine N.forkT ?_ | refine N.forkF ?_) | refine N.op (ok_lenU rfl rfl ⟨_, rfl, _, Tryz.underlying46⟩) ?_ | refine N.forkNo (by rw [hlen2, hn]; exact bne_self_eq_false _) ?_ | refine N.forkYes (by rw [decide_eq_true_eq]; omega) ?_ | refine N.forkNo (by rw [decide_eq_false_iff_not]; omega) ?_ | fail)
  refine N.go ?_
  refine N.loopR (α := Nat) (fun k => k ≤ L.length) (fun k => L.length - k) (fun k => [(13, .int .i64 (k : Nat))]) (fun k => []) 0 [(0, 0), (1, 1)] (Nat.zero_le _) ?_ ?_
  · repeat' (refine N.go ?_; first | with_reducible (first | refine N.obl (by decide) ?_ | refine N.eq ?_ | refine N.obl rfl ?_ | refine N.obl ⟨by kernel_rfl, by kernel_rfl⟩ ?_ | refine N.alt ?_ | refine N.forkT ?_ | refine N.forkF ?_) | exact N.true | refine N.obl (.plain (by rfl)) ?_ | refine N.obl (re_eqn (int_eqn (by rw [i64s ((k : Int) + 1) (by omega) (by omega)]; rfl)) rfl) ?_ | refine N.obl (.one (.ptr rfl)) ?_ | refine N.obl (.one (.slice rfl)) ?_ | refine N.obl (.one .quo) ?_ | refine N.obl (.one (.any (fun _ _ => rfl) fun _ _ => rfl)) ?_ | refine N.obl en_ren ?_ | refine N.obl rv_ren ?_ | refine N.obl (ChunkReLe.same (agg_plain (by rfl) (by rfl))) ?_ | fail)
  intro k hk
  by_cases hkl : k < L.length
  · obtain ⟨e, he⟩ : ∃ e, L[k]? = some e := ⟨_, List.getElem?_eq_getElem hkl⟩
    have hTe := hT k e he
    have hkn : k < n := by omega
    have hlt : ((k : Nat) : Int) < ((n : Nat) : Int) := by omega
    rcases hE with ⟨_, h0⟩ | ⟨r, hr, rfl, hrk, hrn, hx, hrc⟩
    · rw [h0] at hkl; exact absurd hkl (Nat.not_lt_zero k)
    have hlen : r.n = L.length := hlen
    repeat' (refine N.go ?_; first | with_reducible (first | refine N.obl (by decide) ?_ | refine N.eq ?_ | refine N.obl rfl ?_ | refine N.obl ⟨by kernel_rfl, by kernel_rfl⟩ ?_ | refine N.alt ?_ | refine N.forkT ?_ | refine N.forkF ?_) | refine N.forkYes (decide_eq_true hlt) ?_ | refine N.idx k 1 rfl hkn ?_ | refine N.load _ (rd_en k rfl (by omega) (by first | rfl | omega)) ?_ | refine N.op (ok_idxR (sz := 10) (g := r.o + k * 10) tysOK rfl rfl (fun ρ => by rw [uV_den]; rfl) rfl (by exact rfl) (by omega) (by show ((k : Nat) : Int) < ((r.n : Nat) : Int); omega) (by show r.o + ((k : Nat) : Int).toNat * 10 = _; rw [Int.toNat_natCast])) ?_ | refine N.op (ok_loadVA (i := 1) r (enCs e) (k * 10) tysOK rfl rfl rfl (by rfl) hr (by exact ⟨rfl, rfl⟩) rfl rfl (fun j v hv => by rw [hx]; exact flat_at he j v hv)) ?_ | refine N.bin _ (by rw [hTe]; exact ne_entry_same _ _ e) ?_ | fail)
    refine N.go ?_
    refine N.nextR (α := Nat) (k + 1) [(0, 0), (1, 1)] ⟨hkl, by show L.length - (k + 1) < L.length - k; omega⟩ ?_
    repeat' (refine N.go ?_; first | with_reducible (first | refine N.obl (by decide) ?_ | refine N.eq ?_ | refine N.obl rfl ?_ | refine N.obl ⟨by kernel_rfl, by kernel_rfl⟩ ?_ | refine N.alt ?_ | refine N.forkT ?_ | refine N.forkF ?_) | exact N.true | refine N.obl (.plain (by rfl)) ?_ | refine N.obl (re_eqn (int_eqn (by rw [i64s ((k : Int) + 1) (by omega) (by omega)]; rfl)) rfl) ?_ | refine N.obl (.one (.ptr rfl)) ?_ | refine N.obl (.one (.slice rfl)) ?_ | refine N.obl (.one .quo) ?_ | refine N.obl (.one (.any (fun _ _ => rfl) fun _ _ => rfl)) ?_ | refine N.obl en_ren ?_ | refine N.obl rv_ren ?_ | refine N.obl (ChunkReLe.same (agg_plain (by rfl) (by rfl))) ?_ | fail)
  · have hnl : ¬ ((k : Nat) : Int) < ((n : Nat) : Int) := by omega
    repeat' (refine N.go ?_; first | with_reducible (first | refine N.obl (by decide) ?_ | refine N.eq ?_ | refine N.obl rfl ?_ | refine N.obl ⟨by kernel_rfl, by kernel_rfl⟩ ?_ | refine N.alt ?_ | refine N.forkT ?_ | refine N.forkF ?_) | refine N.forkNo (decide_eq_false hnl) ?_ | refine N.endSame ?_ | refine N.obl (.plain rfl) ?_ | refine N.obl ⟨⟨_, rfl, (fun h => by cases h), Nat.zero_le _, no_re⟩, ⟨_, rfl, fun h => h, Nat.le_refl _, rv_re⟩, trivial⟩ ?_ | refine N.obl ⟨⟨_, rfl, fun h => h, Nat.le_refl _, rv_re⟩, trivial⟩ ?_ | refine N.obl trivial ?_ | refine N.obl ⟨⟨.inl rfl, .inr ⟨_, rfl, rfl⟩, trivial⟩, trivial⟩ ?_ | refine N.obl ⟨⟨.inr ⟨_, rfl, rfl⟩, trivial⟩, trivial⟩ ?_ | exact N.true | fail)
theorem cRSameNil [ZW] (u : Option Sl) (R : List Rw) (hE : RowE R u []) (g : Nat) (h : List (Option Chunk)) (hg : h[g]? = some (some (rvC R))) : CallOK Tryz.prog 17 [.slice none 0 0, uV u] h (.bool true) [(g, rvC R)] [] := by
  refine call_res (G := tys) (fun _ : Unit => True) (fun _ => _) [⟨g, rvC R, rvC R, rvC R⟩] [] [.slice none 0 0, uV u] tysOK mixed Tryz.func17 (by rfl) (Tryz.call17) ⟨hg, trivial⟩ ⟨⟨fun h => ⟨rfl, Nat.le_refl _⟩, Nat.le_refl _, rv_re⟩, trivial⟩ (by simp [Apart]) ⟨.inr ⟨rfl, rfl⟩, trivial⟩ trivial ⟨.plain rfl, .quo, trivial⟩ Opens.same ?_
  rintro ⟨⟩ -
  have hlen := hE.len
  have hlen2 : ((uN u : Nat) : Int) = 0 := by rw [hlen]; rfl
  repeat' (refine N.go ?_; first | with_reducible (first | refine N.obl (by decide) ?_ | refine N.eq ?_ | refine N.obl rfl ?_ | refine N.obl ⟨by kernel_rfl, by kernel_rfl⟩ ?_ | refine N.alt ?_ | refine N.forkT ?_ | refine N.forkF ?_) | refine N.op (ok_lenU rfl rfl ⟨_, rfl, _, Tryz.underlying46⟩) ?_ | refine N.forkNo (by rw [hlen2]; rfl) ?_ | refine N.forkYes (by rw [decide_eq_true_eq]; omega) ?_ | refine N.forkNo (by rw [decide_eq_false_iff_not]; omega) ?_ | fail)
  refine N.go ?_
  refine N.loopR (α := Nat) (fun k => k = 0) (fun k => 0) (fun k => [(13, .int .i64 (k : Nat))]) (fun k => []) 0 [(0, 0)] rfl ?_ ?_
  · repeat' (refine N.go ?_; first | with_reducible (first | refine N.obl (by decide) ?_ | refine N.eq ?_ | refine N.obl rfl ?_ | refine N.obl ⟨by kernel_rfl, by kernel_rfl⟩ ?_ | refine N.alt ?_ | refine N.forkT ?_ | refine N.forkF ?_) | exact N.true | refine N.obl (.plain (by rfl)) ?_ | refine N.obl (re_eqn (int_eqn (by rw [i64s ((k : Int) + 1) (by omega) (by omega)]; rfl)) rfl) ?_ | refine N.obl (.one (.ptr rfl)) ?_ | refine N.obl (.one (.slice rfl)) ?_ | refine N.obl (.one .quo) ?_ | refine N.obl (.one (.any (fun _ _ => rfl) fun _ _ => rfl)) ?_ | refine N.obl en_ren ?_ | refine N.obl rv_ren ?_ | refine N.obl (ChunkReLe.same (agg_plain (by rfl) (by rfl))) ?_ | fail)
  intro k hk
  subst hk
  repeat' (refine N.go ?_; first | with_reducible (first | refine N.obl (by decide) ?_ | refine N.eq ?_ | refine N.obl rfl ?_ | refine N.obl ⟨by kernel_rfl, by kernel_rfl⟩ ?_ | refine N.alt ?_ | refine N.forkT ?_ | refine N.forkF ?_) | refine N.forkNo (by decide) ?_ | refine N.endSame ?_ | refine N.obl (.plain rfl) ?_ | refine N.obl ⟨⟨_, rfl, (fun h => by cases h), Nat.zero_le _, no_re⟩, ⟨_, rfl, fun h => h, Nat.le_refl _, rv_re⟩, trivial⟩ ?_ | refine N.obl ⟨⟨_, rfl, fun h => h, Nat.le_refl _, rv_re⟩, trivial⟩ ?_ | refine N.obl trivial ?_ | refine N.obl ⟨⟨.inl rfl, .inr ⟨_, rfl, rfl⟩, trivial⟩, trivial⟩ ?_ | refine N.obl ⟨⟨.inr ⟨_, rfl, rfl⟩, trivial⟩, trivial⟩ ?_ | exact N.true | fail)
end Go.Proofs.YtimccfnlcnlffaaGreat
