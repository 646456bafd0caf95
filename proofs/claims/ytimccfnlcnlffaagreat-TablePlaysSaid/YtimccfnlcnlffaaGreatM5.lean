import Derived.Test.YtimccfnlcnlffaaGreatRows
import Derived.Laws.BytesArg
import Derived.Laws.OwnMore
import Derived.KernelRfl
import Derived.Test.YtimccfnlcnlffaaGreatM4
set_option linter.unusedVariables false
set_option linter.unusedSimpArgs false
set_option maxRecDepth 100000
set_option maxHeartbeats 20000000

namespace Go.Proofs.YtimccfnlcnlffaaGreat
open Go Go.RowKit Sx
theorem zt {z : Int} (h : z.natAbs ≤ 1606938044258990275541962092341162602522202993782792835301376) : z.natAbs < Top := by
  have : (2 : Nat) ^ 201 < Top := Nat.pow_lt_pow_right (a := 2) (by decide) (by decide : 201 < TopBits)
  have e : (2 : Nat) ^ 201 = 3213876088517980551083924184682325205044405987565585670602752 := by decide
  omega
theorem zb {z : Int} (h : z.natAbs ≤ 1606938044258990275541962092341162602522202993782792835301376) : z.natAbs < Bs ^ 16 := Nat.lt_trans (zt h) top_lt
theorem mulB {a b : Int} {m n : Nat} (ha : a.natAbs ≤ m) (hbb : b.natAbs ≤ n) : (a * b).natAbs ≤ m * n := by rw [Int.natAbs_mul]; exact Nat.mul_le_mul ha hbb
def withinP (m x y : Int) : Prop := (-m ≤ x ∧ x ≤ m) ∧ (-m ≤ y ∧ y ≤ m)
instance (m x y : Int) : Decidable (withinP m x y) := by unfold withinP; infer_instance
def mayP (cx cy a b d : Int) : Prop := withinP 4194304 cx cy ∧ (1 ≤ a ∧ a ≤ 70368744177664) ∧ (1 ≤ d ∧ d ≤ 70368744177664) ∧ (-70368744177664 ≤ b ∧ b ≤ 70368744177664) ∧ 0 < a * d - b * b
instance (cx cy a b d : Int) : Decidable (mayP cx cy a b d) := by unfold mayP; infer_instance
def psdP (a b d : Int) : Prop := 0 ≤ a ∧ 0 ≤ d ∧ 0 ≤ a * d - b * b
instance (a b d : Int) : Decidable (psdP a b d) := by unfold psdP; infer_instance
def holdsP (a b d x y : Int) : Prop := psdP (a - x * x) (b - x * y) (d - y * y)
instance (a b d x y : Int) : Decidable (holdsP a b d x y) := by unfold holdsP; infer_instance
def inP (cx cy a b d x y : Int) : Prop := mayP cx cy a b d ∧ withinP 1073741824 x y ∧ holdsP a b d (x - cx) (y - cy)
instance (cx cy a b d x y : Int) : Decidable (inP cx cy a b d x y) := by unfold inP; infer_instance
theorem within_x (x y m : Int) (hm : 0 ≤ m ∧ m ≤ 1152921504606846976) (w : World) : Calls Tryz.prog 60 #[.agg #[.int .i64 x, .int .i64 y], .int .i64 m] w fun e w' => e = .returned (.bool (decide (withinP m x y))) ∧ Below w.heap.size w w' := by
  have hw := i64s (0 - m) (by omega) (by omega)
  refine calls_pure (G := tys) w tysOK mixed Tryz.func60 (by rfl) (by first | rfl | (simp only [List.all_cons, List.all_nil, plain_wz, plain_lim, plain_wi]; rfl)) (by first | exact plain3_wz _ | exact plain3_wi _ _ _ | rfl | (simp only [plain3, List.all_cons, List.all_nil, plain_wz, plain_lim, plain_wi]; rfl)) ?_
  repeat' (refine N.go ?_; first | with_reducible (first | refine N.obl (by decide) ?_ | refine N.obl (flat_wi _ _ _) ?_ | refine N.obl (flat_lim _ _) ?_ | refine N.eq ?_ | refine N.obl rfl ?_ | refine N.obl ⟨by kernel_rfl, by kernel_rfl⟩ ?_ | refine N.alt ?_ | refine N.forkT ?_ | refine N.forkF ?_) | with_reducible refine N.fork (fun hb => ?_) (fun hb => ?_))
  all_goals
    refine boolD ?_
    try rw [hw] at *
    simp only [decide_eq_true_eq, decide_eq_false_iff_not, Bool.false_eq_true, false_iff, true_iff, iff_true, iff_false, reduceCtorEq, not_true_eq_false, not_false_eq_true, ge_iff_le, gt_iff_lt] at *
    try try rw [hw] at *
    simp only [withinP, psdP, mayP] at *
    omega
theorem cWithin (x y m : Int) (h : List (Option Chunk)) (hm : 0 ≤ m ∧ m ≤ 1152921504606846976) : CallOK Tryz.prog 60 [.agg #[.int .i64 x, .int .i64 y], .int .i64 m] h (.bool (decide (withinP m x y))) [] [] :=
  call_pure (by first | rfl | (simp only [List.all_cons, List.all_nil, plain_wz]; rfl)) (by first | rfl | exact plain3_wz _) (Tryz.call60 _) (within_x x y m hm)
theorem maypoint_x (x y : Int)  (w : World) : Calls Tryz.prog 48 #[.agg #[.int .i64 x, .int .i64 y]] w fun e w' => e = .returned (.bool (decide (withinP 4194304 x y))) ∧ Below w.heap.size w w' := by
  refine calls_pure (G := tys) w tysOK mixed Tryz.func48 (by rfl) (by first | rfl | (simp only [List.all_cons, List.all_nil, plain_wz, plain_lim, plain_wi]; rfl)) (by first | exact plain3_wz _ | exact plain3_wi _ _ _ | rfl | (simp only [plain3, List.all_cons, List.all_nil, plain_wz, plain_lim, plain_wi]; rfl)) ?_
  repeat' (refine N.go ?_; first | with_reducible (first | refine N.obl (by decide) ?_ | refine N.obl (flat_wi _ _ _) ?_ | refine N.obl (flat_lim _ _) ?_ | refine N.eq ?_ | refine N.obl rfl ?_ | refine N.obl ⟨by kernel_rfl, by kernel_rfl⟩ ?_ | refine N.alt ?_ | refine N.forkT ?_ | refine N.forkF ?_) | with_reducible refine N.call (cWithin _ _ _ _ (by decide)) ?_)
  all_goals rfl
theorem cMayPoint (x y : Int) (h : List (Option Chunk))  : CallOK Tryz.prog 48 [.agg #[.int .i64 x, .int .i64 y]] h (.bool (decide (withinP 4194304 x y))) [] [] :=
  call_pure (by first | rfl | (simp only [List.all_cons, List.all_nil, plain_wz]; rfl)) (by first | rfl | exact plain3_wz _) (Tryz.call48 _) (maypoint_x x y )
theorem mdet_x (a b d : Int) (ha : a.natAbs ≤ 18446744073709551616) (hbb : b.natAbs ≤ 18446744073709551616) (hd : d.natAbs ≤ 18446744073709551616) (w : World) : Calls Tryz.prog 61 #[wz a, wz b, wz d] w fun e w' => e = .returned (wz (a * d - b * b)) ∧ Below w.heap.size w w' := by
  have h1 := mulB ha hd
  have h2 := mulB hbb hbb
  refine calls_pure (G := tys) w tysOK mixed Tryz.func61 (by rfl) (by first | rfl | (simp only [List.all_cons, List.all_nil, plain_wz, plain_lim, plain_wi]; rfl)) (by first | exact plain3_wz _ | exact plain3_wi _ _ _ | rfl | (simp only [plain3, List.all_cons, List.all_nil, plain_wz, plain_lim, plain_wi]; rfl)) ?_
  repeat' (refine N.go ?_; first | with_reducible (first | refine N.obl (by decide) ?_ | refine N.obl (flat_wi _ _ _) ?_ | refine N.obl (flat_lim _ _) ?_ | refine N.eq ?_ | refine N.obl rfl ?_ | refine N.obl ⟨by kernel_rfl, by kernel_rfl⟩ ?_ | refine N.alt ?_ | refine N.forkT ?_ | refine N.forkF ?_ | refine N.call (cMulz _ _ _ (zb (by omega)) (zb (by omega)) (zt (Nat.le_trans (by assumption) (by decide)))) ?_) | with_reducible refine N.call (cSubz _ _ _ (zt (Nat.le_trans h1 (by decide))) (zt (Nat.le_trans h2 (by decide))) (zt (by omega))) ?_)
  all_goals rfl
theorem cDetw (a b d : Int) (h : List (Option Chunk)) (ha : a.natAbs ≤ 18446744073709551616) (hbb : b.natAbs ≤ 18446744073709551616) (hd : d.natAbs ≤ 18446744073709551616) : CallOK Tryz.prog 61 [wz a, wz b, wz d] h (wz (a * d - b * b)) [] [] :=
  call_pure (by first | rfl | (simp only [List.all_cons, List.all_nil, plain_wz]; rfl)) (by first | rfl | exact plain3_wz _) (Tryz.call61 _) (mdet_x a b d ha hbb hd)
theorem Det_x (a b d : Int) (ha : a.natAbs ≤ 9223372036854775807) (hbb : b.natAbs ≤ 9223372036854775807) (hd : d.natAbs ≤ 9223372036854775807) (w : World) : Calls Tryz.prog 50 #[.agg #[.int .i64 a, .int .i64 b, .int .i64 d]] w fun e w' => e = .returned (wz (a * d - b * b)) ∧ Below w.heap.size w w' := by
  refine calls_pure (G := tys) w tysOK mixed Tryz.func50 (by rfl) (by first | rfl | (simp only [List.all_cons, List.all_nil, plain_wz, plain_lim, plain_wi]; rfl)) (by first | exact plain3_wz _ | exact plain3_wi _ _ _ | rfl | (simp only [plain3, List.all_cons, List.all_nil, plain_wz, plain_lim, plain_wi]; rfl)) ?_
  repeat' (refine N.go ?_; first | with_reducible (first | refine N.obl (by decide) ?_ | refine N.obl (flat_wi _ _ _) ?_ | refine N.obl (flat_lim _ _) ?_ | refine N.eq ?_ | refine N.obl rfl ?_ | refine N.obl ⟨by kernel_rfl, by kernel_rfl⟩ ?_ | refine N.alt ?_ | refine N.forkT ?_ | refine N.forkF ?_ | refine N.call (cOfz _ _ (by omega) (by omega)) ?_) | with_reducible refine N.call (cDetw _ _ _ _ (by omega) (by omega) (by omega)) ?_)
  all_goals rfl
theorem cDet (a b d : Int) (h : List (Option Chunk)) (ha : a.natAbs ≤ 9223372036854775807) (hbb : b.natAbs ≤ 9223372036854775807) (hd : d.natAbs ≤ 9223372036854775807) : CallOK Tryz.prog 50 [.agg #[.int .i64 a, .int .i64 b, .int .i64 d]] h (wz (a * d - b * b)) [] [] :=
  call_pure (by first | rfl | (simp only [List.all_cons, List.all_nil, plain_wz]; rfl)) (by first | rfl | exact plain3_wz _) (Tryz.call50 _) (Det_x a b d ha hbb hd)
theorem May_x (cx cy a b d : Int)  (w : World) : Calls Tryz.prog 32 #[.agg #[.int .i64 cx, .int .i64 cy, .int .i64 a, .int .i64 b, .int .i64 d]] w fun e w' => e = .returned (.bool (decide (mayP cx cy a b d))) ∧ Below w.heap.size w w' := by
  have s1 := sgn_pos (a * d - b * b)
  refine calls_pure (G := tys) w tysOK mixed Tryz.func32 (by rfl) (by first | rfl | (simp only [List.all_cons, List.all_nil, plain_wz, plain_lim, plain_wi]; rfl)) (by first | exact plain3_wz _ | exact plain3_wi _ _ _ | rfl | (simp only [plain3, List.all_cons, List.all_nil, plain_wz, plain_lim, plain_wi]; rfl)) ?_
  repeat' (refine N.go ?_; first | with_reducible (first | refine N.obl (by decide) ?_ | refine N.obl (flat_wi _ _ _) ?_ | refine N.obl (flat_lim _ _) ?_ | refine N.eq ?_ | refine N.obl rfl ?_ | refine N.obl ⟨by kernel_rfl, by kernel_rfl⟩ ?_ | refine N.alt ?_ | refine N.forkT ?_ | refine N.forkF ?_ | refine N.call (cMayPoint _ _ _) ?_ | refine N.call (cDet _ _ _ _ (by simp only [decide_eq_true_eq, decide_eq_false_iff_not] at *; omega) (by simp only [decide_eq_true_eq, decide_eq_false_iff_not] at *; omega) (by simp only [decide_eq_true_eq, decide_eq_false_iff_not] at *; omega)) ?_ | refine N.call (cSign _ _ (zt (by simp only [decide_eq_true_eq, decide_eq_false_iff_not] at *; have h1 := mulB (a := a) (b := d) (m := 70368744177664) (n := 70368744177664) (by omega) (by omega); have h2 := mulB (a := b) (b := b) (m := 70368744177664) (n := 70368744177664) (by omega) (by omega); omega))) ?_) | with_reducible refine N.fork (fun hb => ?_) (fun hb => ?_))
  all_goals
    refine boolD ?_
    simp only [decide_eq_true_eq, decide_eq_false_iff_not, Bool.false_eq_true, false_iff, true_iff, iff_true, iff_false, reduceCtorEq, not_true_eq_false, not_false_eq_true, ge_iff_le, gt_iff_lt] at *
    try simp only [withinP, psdP, mayP] at *
    omega
theorem cEMay (cx cy a b d : Int) (h : List (Option Chunk))  : CallOK Tryz.prog 32 [.agg #[.int .i64 cx, .int .i64 cy, .int .i64 a, .int .i64 b, .int .i64 d]] h (.bool (decide (mayP cx cy a b d))) [] [] :=
  call_pure (by first | rfl | (simp only [List.all_cons, List.all_nil, plain_wz]; rfl)) (by first | rfl | exact plain3_wz _) (Tryz.call32 _) (May_x cx cy a b d )
def mmayP (a b d : Int) : Prop := (-2305843009213693952 ≤ a ∧ a ≤ 2305843009213693952) ∧ (-2305843009213693952 ≤ b ∧ b ≤ 2305843009213693952) ∧ (-2305843009213693952 ≤ d ∧ d ≤ 2305843009213693952)
instance (a b d : Int) : Decidable (mmayP a b d) := by unfold mmayP; infer_instance
def leastP (a b d p q r : Int) : Prop := mmayP a b d ∧ mmayP p q r ∧ psdP (a - p) (b - q) (d - r)
instance (a b d p q r : Int) : Decidable (leastP a b d p q r) := by unfold leastP; infer_instance
end Go.Proofs.YtimccfnlcnlffaaGreat


namespace Go.Proofs.YtimccfnlcnlffaaGreat
open Go Go.RowKit Sx
abbrev elV (x y a b d : Int) : Value := .agg #[.int .i64 x, .int .i64 y, .int .i64 a, .int .i64 b, .int .i64 d]
abbrev timeP (t : Int) : Prop := 0 ≤ t ∧ t ≤ 1000000
def Ent.put (e : Ent) (x y a b d w : Int) : Ent := ⟨e.node, e.boot, e.heard, true, x, y, a, b, d, w⟩
theorem cPutN (T : Tbl) (n x y a b d w : Int) (hn : -9223372036854775808 ≤ n ∧ n ≤ 9223372036854775807) (hg : dGet T.E n = none) (i : Nat) (h : List (Option Chunk)) (hi : h[i]? = some (some (tblC T))) :
    CallOK Tryz.prog 10 [.pointer (some ⟨i, 0, some 0⟩), .int .i64 n, elV x y a b d, .int .i64 w] h (.int .i64 7) [(i, tblC (T))] [] := by
  refine call_res (G := tys) (livesOK T.lives) (tblH T) [⟨i, tblC T, tblC T, tblC (T)⟩] [] [.pointer (some ⟨0, 0, some 0⟩), .int .i64 n, elV x y a b d, .int .i64 w] tysOK mixed Tryz.func10 (by rfl) (Tryz.call10) ⟨hi, trivial⟩ ⟨⟨fun h => ⟨rfl, Nat.le_refl _⟩, Nat.le_refl _, fun j hj => absurd hj (Nat.not_lt_zero j)⟩, trivial⟩ (by simp [Apart]) ⟨.inr ⟨rfl, rfl⟩, trivial⟩ trivial ⟨.ptr rfl, .plain rfl, .plain rfl, .plain rfl, trivial⟩ pack_opens ?_
  intro β hβ
  repeat' (refine N.go ?_; first | with_reducible (first | refine N.obl (by decide) ?_ | refine N.eq ?_ | refine N.obl rfl ?_ | refine N.obl ⟨by kernel_rfl, by kernel_rfl⟩ ?_ | refine N.alt ?_ | refine N.forkT ?_ | refine N.forkF ?_) | refine N_look entV T.E rfl Tryz.underlying58 Tryz.underlying3 Tryz.type42 rfl (.tuple ⟨[entV Ent.zero, .bool false]⟩) (by rw [hg]; rfl) rfl ?_ | refine tblClose (T) β 0 1 2 [] tbl_piece (fun i hi => .inl (by simpa using hi)) hβ (by rfl) (by rfl) (by rfl) (by rfl) (by rfl) (by rfl) (by rfl) (by rfl) (by rfl) (by decide) (fun k hk => by cases hk) safe0 (plain_sc rfl) ?_ | refine N.forkYes (show (!false) = true from rfl) ?_ | refine N.forkNo (show (!true) = false from rfl) ?_ | refine N.obl (.plain rfl) ?_ | refine N.obl ⟨⟨_, rfl, id, Nat.le_refl _, fun j hj => absurd hj (Nat.not_lt_zero j)⟩, trivial⟩ ?_ | refine N.obl trivial ?_ | refine N.obl ⟨⟨.inr ⟨_, rfl, rfl⟩, trivial⟩, trivial⟩ ?_ | exact N.true | fail)
theorem cPutB (T : Tbl) (n x y a b d w : Int) (hn : -9223372036854775808 ≤ n ∧ n ≤ 9223372036854775807) (e : Ent) (hg : dGet T.E n = some e) (hm : ¬ (mayP x y a b d ∧ timeP w)) (i : Nat) (h : List (Option Chunk)) (hi : h[i]? = some (some (tblC T))) :
    CallOK Tryz.prog 10 [.pointer (some ⟨i, 0, some 0⟩), .int .i64 n, elV x y a b d, .int .i64 w] h (.int .i64 1) [(i, tblC (T))] [] := by
  refine call_res (G := tys) (livesOK T.lives) (tblH T) [⟨i, tblC T, tblC T, tblC (T)⟩] [] [.pointer (some ⟨0, 0, some 0⟩), .int .i64 n, elV x y a b d, .int .i64 w] tysOK mixed Tryz.func10 (by rfl) (Tryz.call10) ⟨hi, trivial⟩ ⟨⟨fun h => ⟨rfl, Nat.le_refl _⟩, Nat.le_refl _, fun j hj => absurd hj (Nat.not_lt_zero j)⟩, trivial⟩ (by simp [Apart]) ⟨.inr ⟨rfl, rfl⟩, trivial⟩ trivial ⟨.ptr rfl, .plain rfl, .plain rfl, .plain rfl, trivial⟩ pack_opens ?_
  intro β hβ
  by_cases h1 : mayP x y a b d
  · have h2 : ¬ timeP w := fun h => hm ⟨h1, h⟩
    repeat' (refine N.go ?_; first | with_reducible (first | refine N.obl (by decide) ?_ | refine N.eq ?_ | refine N.obl rfl ?_ | refine N.obl ⟨by kernel_rfl, by kernel_rfl⟩ ?_ | refine N.alt ?_ | refine N.forkT ?_ | refine N.forkF ?_) | refine N.forkNo (by rw [decide_eq_true h1]; rfl) ?_ | refine N.forkYes (by rw [decide_eq_false h2]; rfl) ?_ | refine N_look entV T.E rfl Tryz.underlying58 Tryz.underlying3 Tryz.type42 rfl (.tuple ⟨[entV e, .bool true]⟩) (by rw [hg]; rfl) rfl ?_ | refine N.call (cEMay x y a b d _) ?_ | refine N.call (cTtime w _) ?_ | refine tblClose (T) β 0 1 2 [] tbl_piece (fun i hi => .inl (by simpa using hi)) hβ (by rfl) (by rfl) (by rfl) (by rfl) (by rfl) (by rfl) (by rfl) (by rfl) (by rfl) (by decide) (fun k hk => by cases hk) safe0 (plain_sc rfl) ?_ | refine N.obl (.plain rfl) ?_ | refine N.obl ⟨⟨_, rfl, id, Nat.le_refl _, fun j hj => absurd hj (Nat.not_lt_zero j)⟩, trivial⟩ ?_ | refine N.obl trivial ?_ | refine N.obl ⟨⟨.inr ⟨_, rfl, rfl⟩, trivial⟩, trivial⟩ ?_ | exact N.true | refine N.forkYes (show (!false) = true from rfl) ?_ | refine N.forkNo (show (!true) = false from rfl) ?_ | fail)
  · repeat' (refine N.go ?_; first | with_reducible (first | refine N.obl (by decide) ?_ | refine N.eq ?_ | refine N.obl rfl ?_ | refine N.obl ⟨by kernel_rfl, by kernel_rfl⟩ ?_ | refine N.alt ?_ | refine N.forkT ?_ | refine N.forkF ?_) | refine N.forkYes (by rw [decide_eq_false h1]; rfl) ?_ | refine N_look entV T.E rfl Tryz.underlying58 Tryz.underlying3 Tryz.type42 rfl (.tuple ⟨[entV e, .bool true]⟩) (by rw [hg]; rfl) rfl ?_ | refine N.call (cEMay x y a b d _) ?_ | refine N.call (cTtime w _) ?_ | refine tblClose (T) β 0 1 2 [] tbl_piece (fun i hi => .inl (by simpa using hi)) hβ (by rfl) (by rfl) (by rfl) (by rfl) (by rfl) (by rfl) (by rfl) (by rfl) (by rfl) (by decide) (fun k hk => by cases hk) safe0 (plain_sc rfl) ?_ | refine N.obl (.plain rfl) ?_ | refine N.obl ⟨⟨_, rfl, id, Nat.le_refl _, fun j hj => absurd hj (Nat.not_lt_zero j)⟩, trivial⟩ ?_ | refine N.obl trivial ?_ | refine N.obl ⟨⟨.inr ⟨_, rfl, rfl⟩, trivial⟩, trivial⟩ ?_ | exact N.true | refine N.forkYes (show (!false) = true from rfl) ?_ | refine N.forkNo (show (!true) = false from rfl) ?_ | fail)
theorem cPutY (T : Tbl) (n x y a b d w : Int) (hn : -9223372036854775808 ≤ n ∧ n ≤ 9223372036854775807) (e : Ent) (hg : dGet T.E n = some e) (hm : mayP x y a b d) (hw : timeP w) (i : Nat) (h : List (Option Chunk)) (hi : h[i]? = some (some (tblC T))) :
    CallOK Tryz.prog 10 [.pointer (some ⟨i, 0, some 0⟩), .int .i64 n, elV x y a b d, .int .i64 w] h (.int .i64 0) [(i, tblC (⟨T.most, dPut T.E n (e.put x y a b d w), T.lives⟩))] [] := by
  refine call_res (G := tys) (livesOK T.lives) (tblH T) [⟨i, tblC T, tblC T, tblC (⟨T.most, dPut T.E n (e.put x y a b d w), T.lives⟩)⟩] [] [.pointer (some ⟨0, 0, some 0⟩), .int .i64 n, elV x y a b d, .int .i64 w] tysOK mixed Tryz.func10 (by rfl) (Tryz.call10) ⟨hi, trivial⟩ ⟨⟨fun h => ⟨rfl, Nat.le_refl _⟩, Nat.le_refl _, fun j hj => absurd hj (Nat.not_lt_zero j)⟩, trivial⟩ (by simp [Apart]) ⟨.inr ⟨rfl, rfl⟩, trivial⟩ trivial ⟨.ptr rfl, .plain rfl, .plain rfl, .plain rfl, trivial⟩ pack_opens ?_
  intro β hβ
  repeat' (refine N.go ?_; first | with_reducible (first | refine N.obl (by decide) ?_ | refine N.eq ?_ | refine N.obl rfl ?_ | refine N.obl ⟨by kernel_rfl, by kernel_rfl⟩ ?_ | refine N.alt ?_ | refine N.forkT ?_ | refine N.forkF ?_) | refine N.forkNo (by rw [decide_eq_true hm]; rfl) ?_ | refine N.forkNo (by rw [decide_eq_true hw]; rfl) ?_ | refine N_look entV T.E rfl Tryz.underlying58 Tryz.underlying3 Tryz.type42 rfl (.tuple ⟨[entV e, .bool true]⟩) (by rw [hg]; rfl) rfl ?_ | refine N.call (cEMay x y a b d _) ?_ | refine N.call (cTtime w _) ?_ | refine N_put entV T.E (e.put x y a b d w) rfl rfl hn rfl Tryz.underlying58 Tryz.underlying3 ?_ | refine tblClose (⟨T.most, dPut T.E n (e.put x y a b d w), T.lives⟩) β 0 1 2 [] tbl_piece (fun i hi => .inl (by simpa using hi)) hβ (by rfl) (by rfl) (by rfl) (by rfl) (by rfl) (by rfl) (by rfl) (by rfl) (by rfl) (by decide) (fun k hk => by cases hk) safe0 (plain_sc rfl) ?_ | refine N.forkYes (show (!false) = true from rfl) ?_ | refine N.forkNo (show (!true) = false from rfl) ?_ | refine N.obl (.plain rfl) ?_ | refine N.obl ⟨⟨_, rfl, id, Nat.le_refl _, fun j hj => absurd hj (Nat.not_lt_zero j)⟩, trivial⟩ ?_ | refine N.obl trivial ?_ | refine N.obl ⟨⟨.inr ⟨_, rfl, rfl⟩, trivial⟩, trivial⟩ ?_ | exact N.true | fail)
end Go.Proofs.YtimccfnlcnlffaaGreat


namespace Go.Proofs.YtimccfnlcnlffaaGreat
open Go Go.RowKit Sx
theorem nodup_le : ∀ {a b : List Int}, a.Nodup → (∀ x ∈ a, x ∈ b) → a.length ≤ b.length
  | [], _, _, _ => Nat.zero_le _
  | x :: a, b, hn, h => by
    have hn := List.nodup_cons.1 hn
    have hx := h x (List.mem_cons_self ..)
    have := nodup_le (b := b.erase x) hn.2 fun y hy => (List.mem_erase_of_ne (by rintro rfl; exact hn.1 hy)).2 (h y (List.mem_cons_of_mem _ hy))
    rw [List.length_erase_of_mem hx] at this
    have := List.length_pos_of_mem hx
    simp only [List.length_cons]; omega
def hd (E : List (Int × Ent)) (k : Int) : Int := ((dGet E k).getD Ent.zero).heard
structure Room (T : Tbl) (R : List Int) (i : Nat) : Prop where
  ok : TOK T
  ek : EOK T.E
  nd : R.Nodup
  mem : ∀ k, k ∈ R ↔ dGet T.E k ≠ none
  tm : R.Pairwise (fun a b => hd T.E b < hd T.E a)
  bf : ∀ k ∈ R, hd T.E k < i
  lv : ∀ k l, T.lives k = some l → l.boot = 0 ∧ l.left = false ∧ l.W.any = true ∧ 0 ≤ l.W.last ∧ l.W.last < i
  el : ∀ k ∈ R, T.lives k ≠ none
theorem Room.len {T : Tbl} {R : List Int} {i : Nat} (h : Room T R i) : T.E.length = R.length := by
  have hk : ∀ k, k ∈ T.E.map (·.1) ↔ k ∈ R := fun k => by
    rw [h.mem]
    constructor
    · intro hm
      obtain ⟨q, hq, rfl⟩ := List.mem_map.1 hm
      obtain ⟨e, he⟩ := dGet_has (show (q.1, q.2) ∈ T.E from hq)
      rw [he]; simp
    · intro hn
      cases hg : dGet T.E k with
      | none => exact absurd hg hn
      | some e => exact List.mem_map.2 ⟨(k, e), dGet_some hg, rfl⟩
  have h1 := nodup_le h.nd fun x hx => (hk x).2 hx
  have h2 := nodup_le h.ek.nodup fun x hx => (hk x).1 hx
  rw [List.length_map] at h1 h2
  omega
end Go.Proofs.YtimccfnlcnlffaaGreat


namespace Go.Proofs.YtimccfnlcnlffaaGreat
open Go Go.RowKit Sx
def rwHear (wl : List Int) (last q : Int) : Int × List Int × Int :=
  if wl = [] then (0, [q], q)
  else if serD last q = 0 ∨ serD last q = 32768 ∨ serD last q < -63 ∨ q ∈ wl then (9, wl, last)
  else if serD last q < 0 then (0, wl ++ [q], last)
  else (0, q :: wl.filter (fun s => decide (1 ≤ serD s q ∧ serD s q ≤ 63)), q)
structure WR (W : Win) (wl : List Int) (last : Int) : Prop where
  any : W.any = true
  last_ : W.last = last
  ok : serOK last
  near : ∀ s ∈ wl, ∃ d : Nat, d < 64 ∧ s = (last - d) % 65536
  bit : ∀ d : Nat, d < 64 → (W.seen.testBit d = true ↔ (last - d) % 65536 ∈ wl)
  self : last ∈ wl
def WinR (W : Win) (wl : List Int) (last : Int) : Prop := (W.any = false ∧ wl = []) ∨ WR W wl last
theorem serD_eq {a b : Int} (ha : serOK a) (hb : serOK b) : serD a b = if (b - a) % 65536 > 32768 then (b - a) % 65536 - 65536 else (b - a) % 65536 := by
  unfold serD; rw [if_pos ⟨ha, hb⟩]
theorem WR.ne {W : Win} {wl : List Int} {last : Int} (h : WR W wl last) : wl ≠ [] := fun e => by have := h.self; rw [e] at this; cases this
theorem and_bit (n k : Nat) : n &&& 2 ^ k ≠ 0 ↔ n.testBit k = true := by
  constructor
  · intro h
    refine Classical.byContradiction fun hn => h ?_
    refine Nat.eq_of_testBit_eq fun i => ?_
    rw [Nat.testBit_and, Nat.testBit_two_pow, Nat.zero_testBit]
    by_cases e : k = i
    · subst e; simp [Bool.eq_false_iff.2 hn]
    · simp [e]
  · intro h e
    have := congrArg (fun m => m.testBit k) e
    simp [Nat.testBit_and, Nat.testBit_two_pow, h] at this
theorem whear_wr {W : Win} {wl : List Int} {last q : Int} (h : WinR W wl last) (hq : serOK q) : (whear W q).1 = (rwHear wl last q).1 ∧ WinR (whear W q).2 (rwHear wl last q).2.1 (rwHear wl last q).2.2 := by
  rcases h with ⟨h1, rfl⟩ | h
  · unfold whear rwHear
    rw [if_pos h1, if_pos rfl]
    refine ⟨rfl, .inr ⟨rfl, rfl, hq, fun s hs => ⟨0, by decide, ?_⟩, fun d hd => ?_, List.mem_singleton.2 rfl⟩⟩
    · have hs : s = q := by simpa using hs
      show s = (q - ((0 : Nat) : Int)) % 65536
      omega
    · show Nat.testBit 1 d = true ↔ (q - d) % 65536 ∈ [q]
      rw [List.mem_singleton]
      by_cases e : d = 0
      · subst e; simp; omega
      · have : Nat.testBit 1 d = false := by
          have := @Nat.testBit_two_pow 0 d
          rw [show (2 : Nat) ^ 0 = 1 from rfl] at this
          rw [this]; simp; omega
        rw [this]
        constructor
        · intro h; cases h
        · intro h; omega
  · obtain ⟨ha, hl, hok, hnear, hbit, hself⟩ := h
    have hne : wl ≠ [] := fun e => by rw [e] at hself; cases hself
    have hD := serD_eq hok hq
    have old : q ∈ wl → -63 ≤ serD last q ∧ serD last q ≤ 0 := fun hm => by
      obtain ⟨d, hd, e⟩ := hnear q hm
      rw [hD]; split <;> omega
    unfold whear rwHear
    rw [if_neg (by rw [ha]; decide), hl, if_neg hne]
    by_cases h1 : serD last q = 32768
    · rw [if_pos h1, if_pos (.inr (.inl h1))]
      exact ⟨rfl, .inr ⟨ha, hl, hok, hnear, hbit, hself⟩⟩
    rw [if_neg h1]
    by_cases h2 : 0 < serD last q
    · rw [if_pos h2, if_neg (fun h => h.elim (fun h => by omega) fun h => h.elim h1 fun h => h.elim (fun h => by omega) fun h => by have := old h; omega), if_neg (by omega)]
      obtain ⟨D, hDD⟩ : ∃ D : Nat, serD last q = D := ⟨(serD last q).toNat, by omega⟩
      rw [hDD]
      have hqD : q = (last + D) % 65536 ∧ 0 < D ∧ D < 32768 := by rw [hDD] at hD h1 h2; split at hD <;> omega
      obtain ⟨hq1, hq2, hq3⟩ := hqD
      refine ⟨rfl, .inr ⟨rfl, rfl, hq, fun s hs => ?_, fun d hd => ?_, List.mem_cons_self ..⟩⟩
      · rcases List.mem_cons.1 hs with rfl | hs
        · exact ⟨0, by decide, by show s = (s - ((0 : Nat) : Int)) % 65536; omega⟩
        · obtain ⟨hs1, hs2⟩ := List.mem_filter.1 hs
          have hs2 := of_decide_eq_true hs2
          obtain ⟨d, hd, e⟩ := hnear s hs1
          have hs0 : serOK s := by unfold serOK; omega
          have he := serD_eq hs0 hq
          refine ⟨(serD s q).toNat, by omega, ?_⟩
          show s = (q - (((serD s q).toNat : Nat) : Int)) % 65536
          split at he <;> omega
      · show ((W.seen * 2 ^ ((D : Int)).toNat % 18446744073709551616) ||| 1).testBit d = true ↔ _
        have e1 : W.seen * 2 ^ ((D : Int)).toNat % 18446744073709551616 = W.seen * 2 ^ D % 2 ^ 64 := rfl
        have e0 : Nat.testBit 1 d = decide (0 = d) := by
          have := @Nat.testBit_two_pow 0 d
          rwa [show (2 : Nat) ^ 0 = 1 from rfl] at this
        rw [e1, Nat.testBit_or, Nat.testBit_mod_two_pow, Nat.testBit_mul_two_pow, e0, List.mem_cons, List.mem_filter]
        by_cases hd0 : d = 0
        · subst hd0
          simp only [decide_true, Bool.or_true, true_iff]
          exact .inl (by omega)
        · have hx : serOK ((q - d) % 65536) := by unfold serOK; omega
          have he : serD ((q - d) % 65536) q = d := by
            have := serD_eq hx hq
            split at this <;> omega
          have hne2 : ¬ (q - d) % 65536 = q := by omega
          have hdec : decide (1 ≤ serD ((q - d) % 65536) q ∧ serD ((q - d) % 65536) q ≤ 63) = true := by rw [he]; exact decide_eq_true (by omega)
          simp only [hdec, hne2, false_or, and_true, hd, decide_true, Bool.true_and]
          rw [show decide (0 = d) = false from decide_eq_false (by omega), Bool.or_false]
          by_cases hDd : D ≤ d
          · have := hbit (d - D) (by omega)
            rw [show (last - ((d - D : Nat) : Int)) % 65536 = (q - d) % 65536 from by omega] at this
            rw [decide_eq_true hDd, Bool.true_and]
            exact this
          · rw [decide_eq_false hDd, Bool.false_and]
            constructor
            · intro h; cases h
            · intro hm
              obtain ⟨d', hd', e'⟩ := hnear _ hm
              omega
    · rw [if_neg h2]
      by_cases h3 : serD last q < -63
      · rw [if_pos (.inl (by unfold bitW; rw [if_pos (by omega)])), if_pos (.inr (.inr (.inl h3)))]
        exact ⟨rfl, .inr ⟨ha, hl, hok, hnear, hbit, hself⟩⟩
      obtain ⟨k, hk⟩ : ∃ k : Nat, serD last q = -k := ⟨(-serD last q).toNat, by omega⟩
      have hk64 : k < 64 := by omega
      have hb : bitW last q = 2 ^ k := by
        unfold bitW; rw [if_neg (by omega)]; congr 1; omega
      have hqk : q = (last - k) % 65536 := by split at hD <;> omega
      have hbk := hbit k hk64
      rw [← hqk] at hbk
      by_cases hm : q ∈ wl
      · rw [if_pos (.inr (by rw [hb, and_bit]; exact hbk.2 hm)), if_pos (.inr (.inr (.inr hm)))]
        exact ⟨rfl, .inr ⟨ha, hl, hok, hnear, hbit, hself⟩⟩
      · have hk0 : k ≠ 0 := fun e => hm (by subst e; rw [show q = last from by unfold serOK at hok; omega]; exact hself)
        have hn1 : ¬ (bitW last q = 0 ∨ W.seen &&& bitW last q ≠ 0) := by
          rintro (h | h)
          · rw [hb] at h; exact absurd h (Nat.ne_of_gt (Nat.two_pow_pos k))
          · rw [hb, and_bit] at h; exact hm (hbk.1 h)
        rw [if_neg hn1, if_neg (fun h => h.elim (fun h => by omega) fun h => h.elim h1 fun h => h.elim h3 hm), if_pos (by omega)]
        refine ⟨rfl, .inr ⟨rfl, rfl, hok, fun s hs => ?_, fun d hd => ?_, List.mem_append_left _ hself⟩⟩
        · rcases List.mem_append.1 hs with hs | hs
          · exact hnear s hs
          · rw [List.mem_singleton.1 hs]; exact ⟨k, hk64, hqk⟩
        · show (W.seen ||| bitW last q).testBit d = true ↔ _
          rw [hb, Nat.testBit_or, Nat.testBit_two_pow, List.mem_append, List.mem_singleton, Bool.or_eq_true, hbit d hd, decide_eq_true_eq]
          refine or_congr_right ?_
          constructor
          · rintro rfl; exact hqk.symm
          · intro e
            have e : (last - d) % 65536 = q := e
            omega
theorem rwHear_len (wl : List Int) (last q : Int) : (rwHear wl last q).2.1.length ≤ wl.length + 1 := by
  unfold rwHear
  split
  · simp
  split
  · exact Nat.le_succ _
  split
  · simp
  · simp only [List.length_cons]
    exact Nat.succ_le_succ (List.length_filter_le _ _)
theorem rwHear_err (wl : List Int) (last q : Int) : (rwHear wl last q).1 = 0 ∨ ((rwHear wl last q).1 = 9 ∧ (rwHear wl last q).2 = (wl, last)) := by
  unfold rwHear
  split
  · exact .inl rfl
  split
  · exact .inr ⟨rfl, rfl⟩
  split
  · exact .inl rfl
  · exact .inl rfl
theorem whear_stay {W : Win} {q : Int} (h : (whear W q).1 ≠ 0) : (whear W q).2 = W := by
  unfold whear at h ⊢
  repeat' split
  all_goals first | rfl | (exfalso; simp_all)
def dropE (L : List Ent) (n : Int) : List Ent := L.filter fun e => decide (e.node ≠ n)
def setE (L : List Ent) (x : Ent) : List Ent := (dropE L x.node).takeWhile (fun e => decide (e.node < x.node)) ++ x :: (dropE L x.node).dropWhile (fun e => decide (e.node < x.node))
structure ER (E : List (Int × Ent)) (L : List Ent) : Prop where
  sorted : L.Pairwise (fun a b => a.node < b.node)
  mem : ∀ e, e ∈ L ↔ dGet E e.node = some e
theorem ER.nil : ER [] [] := ⟨List.Pairwise.nil, fun e => by simp [dGet]⟩
theorem ER.drop {E : List (Int × Ent)} {L : List Ent} (h : ER E L) (n : Int) : ER (dDel E n) (dropE L n) := ⟨h.sorted.filter _, fun e => by
  unfold dropE
  rw [List.mem_filter, h.mem, decide_eq_true_eq]
  by_cases hn : e.node = n
  · rw [hn, dGet_del_same]; simp
  · rw [dGet_del_ne _ hn]; simp [hn]⟩
theorem split_at {L : List Ent} {n : Int} (h : L.Pairwise (fun a b => a.node < b.node)) (hn : ∀ e ∈ L, e.node ≠ n) : (∀ e ∈ L.takeWhile (fun e => decide (e.node < n)), e.node < n) ∧ ∀ e ∈ L.dropWhile (fun e => decide (e.node < n)), n < e.node := by
  induction L with
  | nil => simp
  | cons a r ih =>
    have h' := List.pairwise_cons.1 h
    by_cases ha : a.node < n
    · have := ih h'.2 fun e he => hn e (List.mem_cons_of_mem _ he)
      simp only [List.takeWhile_cons, List.dropWhile_cons, decide_eq_true ha, if_true]
      refine ⟨fun e he => ?_, this.2⟩
      rcases List.mem_cons.1 he with rfl | he
      · exact ha
      · exact this.1 e he
    · simp only [List.takeWhile_cons, List.dropWhile_cons, decide_eq_false ha]
      refine ⟨fun e he => (by simp at he), fun e he => ?_⟩
      have ha2 := hn a (List.mem_cons_self ..)
      have he : e ∈ a :: r := by simpa using he
      rcases List.mem_cons.1 he with rfl | he
      · omega
      · have := h'.1 e he; omega
theorem ER.set {E : List (Int × Ent)} {L : List Ent} (h : ER E L) (x : Ent) : ER (dPut E x.node x) (setE L x) := by
  have hd := h.drop x.node
  have hne : ∀ e ∈ dropE L x.node, e.node ≠ x.node := fun e he => by simpa [dropE] using (List.mem_filter.1 he).2
  obtain ⟨h1, h2⟩ := split_at hd.sorted hne
  have happ : (dropE L x.node).takeWhile (fun e => decide (e.node < x.node)) ++ (dropE L x.node).dropWhile (fun e => decide (e.node < x.node)) = dropE L x.node := List.takeWhile_append_dropWhile
  constructor
  · unfold setE
    have hs := hd.sorted
    rw [← happ, List.pairwise_append] at hs
    refine List.pairwise_append.2 ⟨hs.1, List.pairwise_cons.2 ⟨h2, hs.2.1⟩, fun a ha b hb => ?_⟩
    rcases List.mem_cons.1 hb with rfl | hb
    · exact h1 a ha
    · exact hs.2.2 a ha b hb
  · intro e
    have hm : e ∈ setE L x ↔ e = x ∨ e ∈ dropE L x.node := by
      unfold setE
      rw [List.mem_append, List.mem_cons]
      conv => rhs; rw [← happ]
      rw [List.mem_append]
      constructor
      · rintro (h | h | h)
        · exact .inr (.inl h)
        · exact .inl h
        · exact .inr (.inr h)
      · rintro (h | h | h)
        · exact .inr (.inl h)
        · exact .inl h
        · exact .inr (.inr h)
    rw [hm, hd.mem]
    by_cases hk : e.node = x.node
    · rw [hk, dGet_put_same, dGet_del_same]
      constructor
      · rintro (rfl | h)
        · rfl
        · cases h
      · intro h; exact .inl (by simpa using h.symm)
    · rw [dGet_put_ne _ _ hk, dGet_del_ne _ hk]
      constructor
      · rintro (rfl | h)
        · exact absurd rfl hk
        · exact h
      · exact .inr
theorem ER.find {E : List (Int × Ent)} {L : List Ent} (h : ER E L) (hE : EOK E) (n : Int) : L.find? (fun e => decide (e.node = n)) = dGet E n := by
  cases hg : dGet E n with
  | none =>
    rw [List.find?_eq_none]
    intro e he hn
    have hn := of_decide_eq_true hn
    have := (h.mem e).1 he
    rw [hn, hg] at this; cases this
  | some x =>
    have hx := hE.key n x hg
    have hm : x ∈ L := (h.mem x).2 (by rw [hx]; exact hg)
    cases hf : L.find? (fun e => decide (e.node = n)) with
    | none => exact absurd (decide_eq_true hx) (List.find?_eq_none.1 hf x hm)
    | some y =>
      have h1 : y.node = n := of_decide_eq_true (show decide (y.node = n) = true from List.find?_some (p := fun e : Ent => decide (e.node = n)) hf)
      have h2 := (h.mem y).1 (List.mem_of_find?_eq_some hf)
      rw [h1, hg] at h2
      exact h2.symm
theorem sorted_ext : ∀ {L M : List Ent}, L.Pairwise (fun a b => a.node < b.node) → M.Pairwise (fun a b => a.node < b.node) → (∀ e, e ∈ L ↔ e ∈ M) → L = M
  | [], [], _, _, _ => rfl
  | [], b :: M, _, _, h => by have := (h b).2 (List.mem_cons_self ..); cases this
  | a :: L, [], _, _, h => by have := (h a).1 (List.mem_cons_self ..); cases this
  | a :: L, b :: M, h1, h2, h => by
    have p1 := List.pairwise_cons.1 h1
    have p2 := List.pairwise_cons.1 h2
    have hab : a = b := by
      rcases List.mem_cons.1 ((h a).1 (List.mem_cons_self ..)) with e | e
      · exact e
      · rcases List.mem_cons.1 ((h b).2 (List.mem_cons_self ..)) with e' | e'
        · exact e'.symm
        · have q1 := p2.1 a e
          have q2 := p1.1 b e'
          omega
    subst hab
    refine congrArg (a :: ·) (sorted_ext p1.2 p2.2 fun e => ⟨fun he => ?_, fun he => ?_⟩)
    · rcases List.mem_cons.1 ((h e).1 (List.mem_cons_of_mem _ he)) with rfl | h'
      · have := p1.1 e he; omega
      · exact h'
    · rcases List.mem_cons.1 ((h e).2 (List.mem_cons_of_mem _ he)) with rfl | h'
      · have := p2.1 e he; omega
      · exact h'
def entL (E : List (Int × Ent)) : List Ent := (List.range E.length).map (entT E)
theorem entL_ER {E : List (Int × Ent)} (h : EOK E) : ER E (entL E) := by
  have hs : (sortK E).Pairwise (fun a b => a < b) := by
    have h1 : (sortK E).Pairwise (fun a b => leZ a b = true) := List.pairwise_mergeSort (fun a b c h1 h2 => decide_eq_true (by have := of_decide_eq_true h1; have := of_decide_eq_true h2; omega)) (fun a b => by simp [leZ]; omega) _
    have h2 : (sortK E).Nodup := (sortK_perm E).nodup_iff.2 h.nodup
    refine (h1.and h2).imp fun {a b} hab => ?_
    have := of_decide_eq_true hab.1
    have := hab.2
    omega
  have key : ∀ i k, (sortK E)[i]? = some k → ∃ e, dGet E k = some e ∧ e.node = k ∧ entT E i = e := fun i k hk => by
    have hm : k ∈ E.map (·.1) := (sortK_perm E).mem_iff.1 (List.mem_of_getElem? hk)
    obtain ⟨q, hq, rfl⟩ := List.mem_map.1 hm
    obtain ⟨e, he⟩ := dGet_has (show (q.1, q.2) ∈ E from hq)
    exact ⟨e, he, h.key _ _ he, entT_in hk he⟩
  have hlen := sortK_len E
  constructor
  · unfold entL
    rw [List.pairwise_map]
    refine List.pairwise_iff_getElem.2 fun i j hi hj hij => ?_
    simp only [List.getElem_range, List.length_range] at hi hj ⊢
    have hi' : i < (sortK E).length := by omega
    have hj' : j < (sortK E).length := by omega
    obtain ⟨e1, _, g1, f1⟩ := key i _ (List.getElem?_eq_getElem hi')
    obtain ⟨e2, _, g2, f2⟩ := key j _ (List.getElem?_eq_getElem hj')
    rw [f1, f2, g1, g2]
    exact List.pairwise_iff_getElem.1 hs i j hi' hj' hij
  · intro e
    unfold entL
    rw [List.mem_map]
    constructor
    · rintro ⟨i, hi, rfl⟩
      rw [List.mem_range] at hi
      have hi' : i < (sortK E).length := by omega
      obtain ⟨e1, d1, g1, f1⟩ := key i _ (List.getElem?_eq_getElem hi')
      rw [f1, g1]; exact d1
    · intro hg
      have hm : e.node ∈ sortK E := (sortK_perm E).mem_iff.2 (List.mem_map.2 ⟨(e.node, e), dGet_some hg, rfl⟩)
      obtain ⟨i, hi, hk⟩ := List.getElem_of_mem hm
      exact ⟨i, List.mem_range.2 (by omega), entT_in (i := i) (k := e.node) (e := e) (by simp [hi, hk]) hg⟩
theorem ER.eq {E : List (Int × Ent)} {L : List Ent} (h : ER E L) (hE : EOK E) : L = entL E := sorted_ext h.sorted (entL_ER hE).sorted fun e => by rw [h.mem, (entL_ER hE).mem]
theorem ER.len {E : List (Int × Ent)} {L : List Ent} (h : ER E L) (hE : EOK E) : L.length = E.length := by rw [h.eq hE]; simp [entL]
theorem ER.at {E : List (Int × Ent)} {L : List Ent} (h : ER E L) (hE : EOK E) {i : Nat} (hi : i < L.length) : L[i]? = some (entT E i) := by
  have hl := h.len hE
  rw [h.eq hE]
  unfold entL
  rw [List.getElem?_map, List.getElem?_range (by omega)]; rfl
def oldF (o : Option Ent) (x : Ent) : Option Ent := match o with
  | none => some x
  | some o => some (if x.heard < o.heard then x else o)
def oldO (L : List Ent) : Option Ent := L.foldl oldF none
def oldE (L : List Ent) : Ent := (oldO L).getD Ent.zero
theorem oldO_snoc (L : List Ent) (x : Ent) : oldO (L ++ [x]) = oldF (oldO L) x := by unfold oldO; rw [List.foldl_append]; rfl
theorem minT_old (T : Nat → Ent) : ∀ (r : Nat), 1 ≤ r → (∀ i j, i < j → j < r → (T i).node < (T j).node) → oldO ((List.range r).map T) = some (minT T r)
  | 0, h, _ => absurd h (by decide)
  | 1, _, _ => rfl
  | r + 2, _, hs => by
    have e1 := minT_old T (r + 1) (by omega) fun i j h1 h2 => hs i j h1 (by omega)
    obtain ⟨j, hj, e2⟩ := minT_mem T (r + 1) (by omega)
    rw [minT_step T (r + 1) (by omega), show List.range (r + 2) = List.range (r + 1) ++ [r + 1] from List.range_succ, List.map_append, List.map_cons, List.map_nil, oldO_snoc, e1]
    have hnode : (minT T (r + 1)).node < (T (r + 1)).node := by rw [e2]; exact hs j (r + 1) hj (by omega)
    have hc : cmpE (T (r + 1)) (minT T (r + 1)) < 0 ↔ (T (r + 1)).heard < (minT T (r + 1)).heard := by
      unfold cmpE cmpI
      repeat' split
      all_goals omega
    unfold oldF
    by_cases hx : cmpE (T (r + 1)) (minT T (r + 1)) < 0
    · rw [if_pos hx]; simp only [if_pos (hc.1 hx)]
    · rw [if_neg hx]; simp only [if_neg fun h => hx (hc.2 h)]
theorem ER.old {E : List (Int × Ent)} {L : List Ent} (h : ER E L) (hE : EOK E) (hp : 0 < E.length) : oldE L = minT (entT E) E.length := by
  have hs := (entL_ER hE).sorted
  unfold oldE
  rw [h.eq hE]
  unfold entL at hs ⊢
  rw [minT_old (entT E) E.length hp fun i j hij hj => ?_]
  · rfl
  · rw [List.pairwise_map] at hs
    have := List.pairwise_iff_getElem.1 hs i j (by simp; omega) (by simp; omega) hij
    simpa using this
structure RLf where
  known : Bool
  left : Bool
  boot : Int
  wl : List Int
  last : Int
structure RTb where
  most : Int
  L : List Ent
  lv : Nat → RLf
def RTb.new (most : Int) : RTb := ⟨max 1 (min most 64), [], fun _ => ⟨false, false, 0, [], 0⟩⟩
def setF (lv : Nat → RLf) (n : Nat) (f : RLf) (m : Nat) : RLf := if m = n then f else lv m
abbrev lessP (a b : Int) : Prop := 0 < serD a b ∧ serD a b < 32768
def oldP (f : RLf) (boot : Int) : Prop := f.known = true ∧ ((f.boot ≠ boot ∧ ¬ lessP f.boot boot) ∨ (f.boot = boot ∧ f.left = true))
instance (f : RLf) (boot : Int) : Decidable (oldP f boot) := by unfold oldP; infer_instance
def freshF (f : RLf) (boot : Int) : RLf := if f.known = true ∧ f.boot = boot then f else ⟨true, false, boot, [], 0⟩
def findE (L : List Ent) (n : Int) : Option Ent := L.find? fun e => decide (e.node = n)
def keepE (o : Option Ent) (boot : Int) : Ent := match o with
  | some e => if e.boot = boot then e else Ent.zero
  | none => Ent.zero
def stampE (e : Ent) (n boot now : Int) : Ent := { e with node := n, boot := boot, heard := now }
def roomE (most : Int) (L : List Ent) (n : Int) : List Ent := if findE L n = none ∧ most ≤ L.length then dropE L (oldE L).node else L
def rhear (M : RTb) (n boot seq now : Int) : Int × RTb :=
  if argsOK n boot seq now then
    if oldP (M.lv n.toNat) boot then (9, M)
    else
      let f := freshF (M.lv n.toNat) boot
      let r := rwHear f.wl f.last seq
      if r.1 = 0 then (0, ⟨M.most, setE (roomE M.most M.L n) (stampE (keepE (findE M.L n) boot) n boot now), setF M.lv n.toNat ⟨f.known, f.left, f.boot, r.2.1, r.2.2⟩⟩)
      else (9, M)
  else (1, M)
def rleave (M : RTb) (n : Int) : Bool × RTb :=
  if (0 ≤ n ∧ n < 64) ∧ (M.lv n.toNat).known = true then (true, ⟨M.most, dropE M.L n, setF M.lv n.toNat { M.lv n.toNat with left := true }⟩) else (false, M)
def rput (M : RTb) (n x y a b d w : Int) : Int × RTb := match findE M.L n with
  | none => (7, M)
  | some e => if mayP x y a b d ∧ timeP w then (0, ⟨M.most, setE M.L (e.put x y a b d w), M.lv⟩) else (1, M)
def goneE (L : List Ent) (now silent : Int) : List Int := (L.filter fun e => decide (0 ≤ now ∧ e.heard ≤ now - max 1 silent)).map (·.node)
def revict (M : RTb) (now silent : Int) : RTb := ⟨M.most, (goneE M.L now silent).foldl dropE M.L, M.lv⟩
def LR : Option Life → RLf → Prop
  | none, f => f.known = false
  | some l, f => f.known = true ∧ f.left = l.left ∧ f.boot = l.boot ∧ serOK l.boot ∧ WinR l.W f.wl f.last
structure TRel (T : Tbl) (M : RTb) (i : Nat) : Prop where
  ok : TOK T
  ek : EOK T.E
  most : M.most = T.most
  er : ER T.E M.L
  lv : ∀ k : Nat, k < 64 → LR (T.lives k) (M.lv k)
  lr : ∀ n l, T.lives n = some l → 0 ≤ n ∧ n < 64
  el : ∀ n e, dGet T.E n = some e → ∃ l, T.lives n = some l ∧ l.boot = e.boot
  hd : ∀ n e, dGet T.E n = some e → 0 ≤ e.heard ∧ e.heard ≤ 1000000
  wl : ∀ k, (M.lv k).wl.length ≤ i
theorem TRel.new (most : Int) : TRel (Tbl.new most) (RTb.new most) 0 :=
  ⟨(new_ok most).1, (new_ok most).2, rfl, ER.nil, fun _ _ => rfl, (fun n l h => by cases h), (fun n e h => by cases h), (fun n e h => by cases h), fun _ => Nat.le_refl _⟩
theorem TRel.len {T : Tbl} {M : RTb} {i : Nat} (h : TRel T M i) : M.L.length = T.E.length ∧ M.L.length ≤ 64 := by
  have h1 := h.er.len h.ek
  have h2 := h.ok.len
  have h3 := h.ok.most
  omega
theorem TRel.more {T : Tbl} {M : RTb} {i j : Nat} (h : TRel T M i) (hij : i ≤ j) : TRel T M j := ⟨h.ok, h.ek, h.most, h.er, h.lv, h.lr, h.el, h.hd, fun k => Nat.le_trans (h.wl k) hij⟩
theorem TRel.win {T : Tbl} {M : RTb} {i : Nat} (h : TRel T M i) {n boot seq now : Int} (ha : argsOK n boot seq now) (E : List (Int × Ent)) (W : Win) (r : List Int × Int) (hW : W.seen < 18446744073709551616) (hr : WinR W r.1 r.2) (hrl : r.1.length ≤ i + 1)
    (hE : (E = T.E ∧ ∀ e, dGet T.E n = some e → e.boot = boot) ∨ (E = begE T.E n ∧ ∀ e, dGet T.E n = some e → e.boot ≠ boot)) :
    TRel (T.win n boot now E W) ⟨M.most, setE (roomE M.most M.L n) (stampE (keepE (findE M.L n) boot) n boot now), setF M.lv n.toNat ⟨true, false, boot, r.1, r.2⟩⟩ (i + 1) := by
  obtain ⟨⟨n1, n2⟩, hb, hs, t1, t2⟩ := ha
  have hm := h.ok.most
  have hEk : EOK E := by
    rcases hE with ⟨rfl, _⟩ | ⟨rfl, _⟩
    · exact h.ek
    · exact h.ek.beg n
  have hEl : (E.length : Int) ≤ T.most := by
    rcases hE with ⟨rfl, _⟩ | ⟨rfl, _⟩
    · exact h.ok.len
    · rw [beg_len]; exact h.ok.len
  have hfind : findE M.L n = dGet T.E n := h.er.find h.ek n
  have key : heardE T.most E n boot now = dPut (if dGet T.E n = none ∧ T.most ≤ T.E.length then dDel T.E (minT (entT T.E) T.E.length).node else T.E) n (stampE (keepE (findE M.L n) boot) n boot now) ∨ (∃ e, dGet T.E n = some e ∧ heardE T.most E n boot now = dPut (dPut T.E n ⟨n, e.boot, e.heard, false, 0, 0, 0, 0, 0, 0⟩) n ⟨n, boot, now, false, 0, 0, 0, 0, 0, 0⟩ ∧ stampE (keepE (findE M.L n) boot) n boot now = ⟨n, boot, now, false, 0, 0, 0, 0, 0, 0⟩) := by
    rw [hfind]
    cases hg : dGet T.E n with
    | none =>
      have e0 : E = T.E := by
        rcases hE with ⟨rfl, _⟩ | ⟨rfl, _⟩
        · rfl
        · exact beg_none hg
      subst e0
      refine .inl ?_
      unfold heardE
      rw [hg]; rfl
    | some e =>
      rcases hE with ⟨rfl, h2⟩ | ⟨rfl, h2⟩
      · refine .inl ?_
        have := h2 e hg
        unfold heardE
        rw [hg]
        simp only [keepE, if_pos this]
        rfl
      · refine .inr ⟨e, rfl, ?_, ?_⟩
        · rw [beg_some hg, heard_there (dGet_put_same _ _ _)]
        · have := h2 e hg
          simp only [keepE, if_neg this]
          rfl
  have hroomER : ER (if dGet T.E n = none ∧ T.most ≤ T.E.length then dDel T.E (minT (entT T.E) T.E.length).node else T.E) (roomE M.most M.L n) := by
    unfold roomE
    have hl := h.len.1
    rw [hfind, h.most, hl]
    by_cases hc : dGet T.E n = none ∧ T.most ≤ (T.E.length : Int)
    · rw [if_pos hc, if_pos hc, h.er.old h.ek (by omega)]
      exact h.er.drop _
    · rw [if_neg hc, if_neg hc]; exact h.er
  have hput2 : ∀ (e : Ent) (x y : Ent), dGet T.E n = some e → x.node = n → y.node = n → ∀ L, ER T.E L → ER (dPut (dPut T.E n x) n y) (setE L y) := fun e x y he hx hy L hL => by
    subst hy
    constructor
    · exact (hL.set y).sorted
    · intro z
      rw [(hL.set y).mem]
      by_cases hz : z.node = y.node
      · rw [hz, dGet_put_same, dGet_put_same]
      · rw [dGet_put_ne _ _ hz, dGet_put_ne _ _ hz, dGet_put_ne _ _ hz]
  have hER : ER (heardE T.most E n boot now) (setE (roomE M.most M.L n) (stampE (keepE (findE M.L n) boot) n boot now)) := by
    rcases key with hk | ⟨e, hg, hk, hst⟩
    · rw [hk]; exact hroomER.set (stampE (keepE (findE M.L n) boot) n boot now)
    · rw [hk, hst]
      have hro : roomE M.most M.L n = M.L := by
        unfold roomE
        rw [hfind, hg, if_neg (by simp)]
      rw [hro]
      exact hput2 e ⟨n, e.boot, e.heard, false, 0, 0, 0, 0, 0, 0⟩ ⟨n, boot, now, false, 0, 0, 0, 0, 0, 0⟩ hg rfl rfl M.L h.er
  have hget : ∀ m e, dGet (heardE T.most E n boot now) m = some e → (m = n ∧ e.boot = boot ∧ e.heard = now) ∨ (m ≠ n ∧ dGet T.E m = some e) := fun m e hme => by
    by_cases hmn : m = n
    · subst hmn
      refine .inl ⟨rfl, ?_⟩
      rcases key with hk | ⟨e', _, hk, _⟩
      · rw [hk, dGet_put_same] at hme
        obtain rfl := Option.some.inj hme
        exact ⟨rfl, rfl⟩
      · rw [hk, dGet_put_same] at hme
        obtain rfl := Option.some.inj hme
        exact ⟨rfl, rfl⟩
    · refine .inr ⟨hmn, ?_⟩
      rcases key with hk | ⟨e', _, hk, _⟩
      · rw [hk, dGet_put_ne _ _ hmn] at hme
        split at hme
        · by_cases hd : m = (minT (entT T.E) T.E.length).node
          · rw [hd, dGet_del_same] at hme; cases hme
          · rw [dGet_del_ne _ hd] at hme; exact hme
        · exact hme
      · rw [hk, dGet_put_ne _ _ hmn, dGet_put_ne _ _ hmn] at hme
        exact hme
  refine ⟨⟨hm, heard_len hEk n boot now hm.1 hEl, fun m l hl => ?_⟩, heard_ok hEk n boot now, h.most, hER, fun k hk => ?_, fun m l hl => ?_, fun m e hme => ?_, fun m e hme => ?_, fun k => ?_⟩
  · unfold Tbl.win setL at hl
    simp only at hl
    split at hl
    · obtain rfl := Option.some.inj hl; exact hW
    · exact h.ok.seen m l hl
  · show LR (setL T.lives n ⟨boot, false, W⟩ k) (setF M.lv n.toNat ⟨true, false, boot, r.1, r.2⟩ k)
    unfold setL setF
    by_cases hkn : (k : Int) = n
    · rw [if_pos hkn, if_pos (by omega)]
      exact ⟨rfl, rfl, rfl, hb, hr⟩
    · rw [if_neg hkn, if_neg (by omega)]
      exact h.lv k hk
  · unfold Tbl.win setL at hl
    simp only at hl
    split at hl
    · rename_i e; subst e; exact ⟨n1, n2⟩
    · exact h.lr m l hl
  · rcases hget m e hme with ⟨rfl, h1, h2⟩ | ⟨hmn, h1⟩
    · refine ⟨⟨boot, false, W⟩, ?_, h1.symm⟩
      show setL T.lives m ⟨boot, false, W⟩ m = _
      unfold setL; rw [if_pos rfl]
    · obtain ⟨l, h2, h3⟩ := h.el m e h1
      refine ⟨l, ?_, h3⟩
      show setL T.lives n ⟨boot, false, W⟩ m = _
      unfold setL; rw [if_neg hmn]; exact h2
  · rcases hget m e hme with ⟨rfl, h1, h2⟩ | ⟨hmn, h1⟩
    · omega
    · exact h.hd m e h1
  · show (setF M.lv n.toNat ⟨true, false, boot, r.1, r.2⟩ k).wl.length ≤ i + 1
    unfold setF
    split
    · exact hrl
    · exact Nat.le_trans (h.wl k) (Nat.le_succ i)
theorem TRel.hear {T : Tbl} {M : RTb} {i : Nat} (h : TRel T M i) (n boot seq now : Int) : (hearT T n boot seq now).1 = (rhear M n boot seq now).1 ∧ TRel (hearT T n boot seq now).2 (rhear M n boot seq now).2 (i + 1) := by
  unfold hearT rhear
  by_cases ha : argsOK n boot seq now
  · rw [if_pos ha, if_pos ha]
    have ha' := ha
    obtain ⟨⟨n1, n2⟩, hb, hs, t1, t2⟩ := ha'
    have hl := h.lv n.toNat (by omega)
    rw [show ((n.toNat : Nat) : Int) = n from by omega] at hl
    have hwl := h.wl n.toNat
    have hel := h.el n
    cases hT : T.lives n with
    | none =>
      rw [hT] at hl
      have hl : (M.lv n.toNat).known = false := hl
      rw [if_neg (by unfold oldP; rw [hl]; simp)]
      have hf : freshF (M.lv n.toNat) boot = ⟨true, false, boot, [], 0⟩ := by unfold freshF; rw [if_neg (by rw [hl]; simp)]
      simp only [hf]
      have hr : rwHear [] 0 seq = (0, [seq], seq) := by unfold rwHear; rw [if_pos rfl]
      rw [hr]
      refine ⟨rfl, h.win ha _ _ ([seq], seq) (by show 1 < _; decide) ?_ (by simp) (.inr ⟨rfl, fun e he => ?_⟩)⟩
      · have := whear_wr (W := ⟨false, 0, 0⟩) (wl := []) (last := 0) (q := seq) (.inl ⟨rfl, rfl⟩) hs
        rw [hr] at this
        exact this.2
      · obtain ⟨l, h1, _⟩ := hel e he
        rw [hT] at h1; cases h1
    | some l =>
      rw [hT] at hl
      obtain ⟨l1, l2, l3, l4, l5⟩ := hl
      simp only
      by_cases hbb : l.boot = boot
      · rw [if_pos hbb]
        by_cases hlf : l.left = true
        · rw [if_pos hlf, if_pos ⟨l1, .inr ⟨l3.trans hbb, l2.trans hlf⟩⟩]
          exact ⟨rfl, h.more (Nat.le_succ i)⟩
        · rw [if_neg hlf, if_neg (fun (hh : oldP (M.lv n.toNat) boot) => hh.2.elim (fun hx => hx.1 (l3.trans hbb)) fun hx => hlf (l2.symm.trans hx.2))]
          have hf : freshF (M.lv n.toNat) boot = M.lv n.toNat := by unfold freshF; rw [if_pos ⟨l1, l3.trans hbb⟩]
          simp only [hf]
          obtain ⟨w1, w2⟩ := whear_wr (q := seq) l5 hs
          have hlen := rwHear_len (M.lv n.toNat).wl (M.lv n.toNat).last seq
          by_cases hz : (whear l.W seq).1 = 0
          · rw [if_pos hz, if_pos (w1.symm.trans hz)]
            have hlf' : l.left = false := by simpa using hlf
            rw [l1, l2, hlf', l3, hbb]
            refine ⟨rfl, h.win ha _ _ (rwHear (M.lv n.toNat).wl (M.lv n.toNat).last seq).2 (whear_seen _ _ (h.ok.seen n l hT)) w2 (by omega) (.inl ⟨rfl, fun e he => ?_⟩)⟩
            obtain ⟨l', h1, h2⟩ := hel e he
            rw [hT] at h1
            obtain rfl := Option.some.inj h1
            exact h2.symm.trans hbb
          · rw [if_neg hz, if_neg fun e => hz (w1.trans e)]
            have hW := whear_stay hz
            rw [hW]
            refine ⟨rfl, ⟨⟨h.ok.most, h.ok.len, fun m l' hl' => ?_⟩, h.ek, h.most, h.er, fun k hk => ?_, fun m l' hl' => ?_, fun m e he => ?_, h.hd, fun k => Nat.le_trans (h.wl k) (Nat.le_succ i)⟩⟩
            · unfold setL at hl'
              simp only at hl'
              split at hl'
              · obtain rfl := Option.some.inj hl'; exact h.ok.seen n l hT
              · exact h.ok.seen m l' hl'
            · show LR (setL T.lives n ⟨boot, false, l.W⟩ k) (M.lv k)
              unfold setL
              by_cases hkn : (k : Int) = n
              · rw [if_pos hkn]
                have hk2 : k = n.toNat := by omega
                subst hk2
                exact ⟨l1, by rw [l2]; simpa using hlf, l3.trans hbb, hb, l5⟩
              · rw [if_neg hkn]; exact h.lv k hk
            · unfold setL at hl'
              simp only at hl'
              split at hl'
              · rename_i e; subst e; exact ⟨n1, n2⟩
              · exact h.lr m l' hl'
            · obtain ⟨l', h1, h2⟩ := h.el m e he
              by_cases hmn : m = n
              · subst hmn
                refine ⟨⟨boot, false, l.W⟩, ?_, ?_⟩
                · show setL T.lives m ⟨boot, false, l.W⟩ m = _
                  unfold setL; rw [if_pos rfl]
                · rw [hT] at h1
                  obtain rfl := Option.some.inj h1
                  exact hbb.symm.trans h2
              · refine ⟨l', ?_, h2⟩
                show setL T.lives n ⟨boot, false, l.W⟩ m = _
                unfold setL; rw [if_neg hmn]; exact h1
      · rw [if_neg hbb]
        by_cases hls : 0 < serD l.boot boot ∧ serD l.boot boot < 32768
        · rw [if_pos hls, if_neg (fun (hh : oldP (M.lv n.toNat) boot) => hh.2.elim (fun hx => hx.2 (by rw [l3]; exact hls)) fun hx => hbb (l3.symm.trans hx.1))]
          have hf : freshF (M.lv n.toNat) boot = ⟨true, false, boot, [], 0⟩ := by unfold freshF; rw [if_neg (by rintro ⟨_, hx⟩; exact hbb (l3.symm.trans hx))]
          simp only [hf]
          have hr : rwHear [] 0 seq = (0, [seq], seq) := by unfold rwHear; rw [if_pos rfl]
          rw [hr]
          refine ⟨rfl, h.win ha _ _ ([seq], seq) (by show 1 < _; decide) ?_ (by simp) (.inr ⟨rfl, fun e he => ?_⟩)⟩
          · have := whear_wr (W := ⟨false, 0, 0⟩) (wl := []) (last := 0) (q := seq) (.inl ⟨rfl, rfl⟩) hs
            rw [hr] at this
            exact this.2
          · obtain ⟨l', h1, h2⟩ := hel e he
            rw [hT] at h1
            obtain rfl := Option.some.inj h1
            exact fun e' => hbb (h2.trans e')
        · rw [if_neg hls, if_pos ⟨l1, .inl ⟨fun e => hbb (l3.symm.trans e), by rw [l3]; exact hls⟩⟩]
          exact ⟨rfl, h.more (Nat.le_succ i)⟩
  · rw [if_neg ha, if_neg ha]
    exact ⟨rfl, h.more (Nat.le_succ i)⟩
theorem TRel.less {T : Tbl} {M : RTb} {i : Nat} (h : TRel T M i) {E' : List (Int × Ent)} {L' : List Ent} (hER : ER E' L') (hek : EOK E') (hlen : E'.length ≤ T.E.length) (hsub : ∀ n e, dGet E' n = some e → dGet T.E n = some e) : TRel ⟨T.most, E', T.lives⟩ ⟨M.most, L', M.lv⟩ i :=
  ⟨⟨h.ok.most, by show (E'.length : Int) ≤ T.most; have := h.ok.len; omega, h.ok.seen⟩, hek, h.most, hER, h.lv, h.lr, fun n e he => h.el n e (hsub n e he), fun n e he => h.hd n e (hsub n e he), h.wl⟩
theorem del_sub {E : List (Int × Ent)} {n m : Int} {e : Ent} (h : dGet (dDel E n) m = some e) : dGet E m = some e := by
  by_cases hd : m = n
  · rw [hd, dGet_del_same] at h; cases h
  · rw [dGet_del_ne _ hd] at h; exact h
theorem TRel.leave {T : Tbl} {M : RTb} {i : Nat} (h : TRel T M i) (n : Int) :
    (∃ l, (0 ≤ n ∧ n < 64) ∧ T.lives n = some l ∧ (rleave M n).1 = true ∧ TRel ⟨T.most, dDel T.E n, setL T.lives n ⟨l.boot, true, l.W⟩⟩ (rleave M n).2 i) ∨ (T.lives n = none ∧ rleave M n = (false, M)) := by
  unfold rleave
  cases hT : T.lives n with
  | none =>
    refine .inr ⟨rfl, ?_⟩
    rw [if_neg]
    rintro ⟨⟨n1, n2⟩, hk⟩
    have hl := h.lv n.toNat (by omega)
    rw [show ((n.toNat : Nat) : Int) = n from by omega, hT] at hl
    have hl : (M.lv n.toNat).known = false := hl
    rw [hl] at hk; cases hk
  | some l =>
    obtain ⟨n1, n2⟩ := h.lr n l hT
    have hl := h.lv n.toNat (by omega)
    rw [show ((n.toNat : Nat) : Int) = n from by omega, hT] at hl
    obtain ⟨l1, l2, l3, l4, l5⟩ := hl
    refine .inl ⟨l, ⟨n1, n2⟩, rfl, ?_, ?_⟩
    · rw [if_pos ⟨⟨n1, n2⟩, l1⟩]
    rw [if_pos ⟨⟨n1, n2⟩, l1⟩]
    have hr := h.less (h.er.drop n) (h.ek.del n) (len_del_le _ _) fun m e he => del_sub he
    refine ⟨⟨hr.ok.most, hr.ok.len, fun m l' hl' => ?_⟩, hr.ek, hr.most, hr.er, fun k hk => ?_, fun m l' hl' => ?_, fun m e he => ?_, hr.hd, fun k => ?_⟩
    · unfold setL at hl'
      simp only at hl'
      split at hl'
      · obtain rfl := Option.some.inj hl'; exact h.ok.seen n l hT
      · exact h.ok.seen m l' hl'
    · show LR (setL T.lives n ⟨l.boot, true, l.W⟩ k) (setF M.lv n.toNat { M.lv n.toNat with left := true } k)
      unfold setL setF
      by_cases hkn : (k : Int) = n
      · rw [if_pos hkn, if_pos (by omega)]
        exact ⟨l1, rfl, l3, l4, l5⟩
      · rw [if_neg hkn, if_neg (by omega)]; exact h.lv k hk
    · unfold setL at hl'
      simp only at hl'
      split at hl'
      · rename_i e; subst e; exact ⟨n1, n2⟩
      · exact h.lr m l' hl'
    · have he : dGet (dDel T.E n) m = some e := he
      have hmn : m ≠ n := fun e' => by rw [e', dGet_del_same] at he; cases he
      obtain ⟨l', h1, h2⟩ := h.el m e (del_sub he)
      refine ⟨l', ?_, h2⟩
      show setL T.lives n ⟨l.boot, true, l.W⟩ m = _
      unfold setL; rw [if_neg hmn]; exact h1
    · show (setF M.lv n.toNat { M.lv n.toNat with left := true } k).wl.length ≤ i
      unfold setF
      split
      · exact h.wl n.toNat
      · exact h.wl k
theorem TRel.put {T : Tbl} {M : RTb} {i : Nat} (h : TRel T M i) (n x y a b d w : Int) :
    (dGet T.E n = none ∧ rput M n x y a b d w = (7, M)) ∨ (∃ e, dGet T.E n = some e ∧ ((¬ (mayP x y a b d ∧ timeP w) ∧ rput M n x y a b d w = (1, M)) ∨ (mayP x y a b d ∧ timeP w ∧ rput M n x y a b d w = (0, ⟨M.most, setE M.L (e.put x y a b d w), M.lv⟩) ∧ TRel ⟨T.most, dPut T.E n (e.put x y a b d w), T.lives⟩ ⟨M.most, setE M.L (e.put x y a b d w), M.lv⟩ i))) := by
  have hfind : findE M.L n = dGet T.E n := h.er.find h.ek n
  unfold rput
  rw [hfind]
  cases hg : dGet T.E n with
  | none => exact .inl ⟨rfl, rfl⟩
  | some e =>
    refine .inr ⟨e, rfl, ?_⟩
    by_cases hm : mayP x y a b d ∧ timeP w
    · refine .inr ⟨hm.1, hm.2, by simp only [if_pos hm], ?_⟩
      have hn := h.ek.key n e hg
      have hn2 : (e.put x y a b d w).node = n := hn
      have hget : ∀ m z, dGet (dPut T.E n (e.put x y a b d w)) m = some z → (m = n ∧ z = e.put x y a b d w) ∨ (m ≠ n ∧ dGet T.E m = some z) := fun m z hz => by
        by_cases hmn : m = n
        · subst hmn; rw [dGet_put_same] at hz; exact .inl ⟨rfl, (Option.some.inj hz).symm⟩
        · rw [dGet_put_ne _ _ hmn] at hz; exact .inr ⟨hmn, hz⟩
      refine ⟨⟨h.ok.most, ?_, h.ok.seen⟩, ?_, h.most, ?_, h.lv, h.lr, fun m z hz => ?_, fun m z hz => ?_, h.wl⟩
      · show ((dPut T.E n (e.put x y a b d w)).length : Int) ≤ T.most
        rw [len_put, hg, if_neg (by simp)]; exact h.ok.len
      · have := h.ek.put (e.put x y a b d w)
        rw [hn2] at this; exact this
      · have := h.er.set (e.put x y a b d w)
        rw [hn2] at this; exact this
      · rcases hget m z hz with ⟨rfl, rfl⟩ | ⟨_, h1⟩
        · exact h.el m e hg
        · exact h.el m z h1
      · rcases hget m z hz with ⟨rfl, rfl⟩ | ⟨_, h1⟩
        · exact h.hd m e hg
        · exact h.hd m z h1
    · exact .inl ⟨hm, by simp only [if_neg hm]⟩
theorem TRel.evict {T : Tbl} {M : RTb} {i : Nat} (h : TRel T M i) (now silent : Int) : evictL T now silent = goneE M.L now silent ∧ TRel (T.ev now silent) (revict M now silent) i := by
  have hp : ∀ e ∈ M.L, evP now silent e = decide (0 ≤ now ∧ e.heard ≤ now - max 1 silent) := fun e he => by
    have := (h.hd _ e ((h.er.mem e).1 he)).1
    unfold evP
    rw [Bool.eq_iff_iff]
    simp only [Bool.and_eq_true, decide_eq_true_eq]
    omega
  have hL := h.er.eq h.ek
  have evl : ∀ r, evL T.E (evP now silent) r = (((List.range r).map (entT T.E)).filter (evP now silent)).map (·.node) := fun r => by
    induction r with
    | zero => rfl
    | succ r ih =>
      rw [List.range_succ, List.map_append, List.filter_append, List.map_append]
      show (if evP now silent (entT T.E r) = true then evL T.E (evP now silent) r ++ [(entT T.E r).node] else evL T.E (evP now silent) r) = _
      by_cases hc : evP now silent (entT T.E r) = true
      · rw [if_pos hc, ih]; simp [hc]
      · rw [if_neg hc, ih]; simp [hc]
  have hgone : evictL T now silent = goneE M.L now silent := by
    unfold evictL goneE
    rw [evl]
    have : M.L.filter (fun e => decide (0 ≤ now ∧ e.heard ≤ now - max 1 silent)) = M.L.filter (evP now silent) := List.filter_congr fun e he => (hp e he).symm
    rw [this, hL]; rfl
  have step : ∀ r, ER (evE T.E (evP now silent) r) ((evL T.E (evP now silent) r).foldl dropE M.L) ∧ EOK (evE T.E (evP now silent) r) ∧ (evE T.E (evP now silent) r).length ≤ T.E.length ∧ ∀ n e, dGet (evE T.E (evP now silent) r) n = some e → dGet T.E n = some e := fun r => by
    induction r with
    | zero => exact ⟨h.er, h.ek, Nat.le_refl _, fun n e he => he⟩
    | succ r ih =>
      obtain ⟨i1, i2, i3, i4⟩ := ih
      show ER (if evP now silent (entT T.E r) = true then dDel (evE T.E (evP now silent) r) (entT T.E r).node else evE T.E (evP now silent) r) ((if evP now silent (entT T.E r) = true then evL T.E (evP now silent) r ++ [(entT T.E r).node] else evL T.E (evP now silent) r).foldl dropE M.L) ∧ EOK (if evP now silent (entT T.E r) = true then dDel (evE T.E (evP now silent) r) (entT T.E r).node else evE T.E (evP now silent) r) ∧ (if evP now silent (entT T.E r) = true then dDel (evE T.E (evP now silent) r) (entT T.E r).node else evE T.E (evP now silent) r).length ≤ T.E.length ∧ ∀ n e, dGet (if evP now silent (entT T.E r) = true then dDel (evE T.E (evP now silent) r) (entT T.E r).node else evE T.E (evP now silent) r) n = some e → dGet T.E n = some e
      by_cases hc : evP now silent (entT T.E r) = true
      · rw [if_pos hc, if_pos hc, List.foldl_append]
        exact ⟨i1.drop _, i2.del _, Nat.le_trans (len_del_le _ _) i3, fun n e he => i4 n e (del_sub he)⟩
      · rw [if_neg hc, if_neg hc]
        exact ⟨i1, i2, i3, i4⟩
  refine ⟨hgone, ?_⟩
  obtain ⟨s1, s2, s3, s4⟩ := step T.E.length
  have := h.less s1 s2 s3 s4
  unfold Tbl.ev revict
  rw [← hgone]
  exact this
theorem TRel.get {T : Tbl} {M : RTb} {i : Nat} (h : TRel T M i) (n : Int) : findE M.L n = dGet T.E n := h.er.find h.ek n
end Go.Proofs.YtimccfnlcnlffaaGreat


namespace Go.Proofs.YtimccfnlcnlffaaGreat
open Go.RowKit
end Go.Proofs.YtimccfnlcnlffaaGreat


namespace Go.Proofs.YtimccfnlcnlffaaGreat.Sx
open Go Go.RowKit
structure Sl where
  b : Nat
  o : Nat
  n : Nat
  c : Nat
  sp : Option Nat
def uR : Option Sl → Value
  | none => .slice none 0 0
  | some s => .slice (some ⟨s.b, s.o, s.sp⟩) s.n s.c
abbrev uV (u : Option Sl) : Value := .iface 99999999 (uR u)
theorem uR_sl (u : Option Sl) : ∃ a l c, uR u = .slice a l c := by cases u with
  | none => exact ⟨_, _, _, rfl⟩
  | some s => exact ⟨_, _, _, rfl⟩
theorem uV_den0 (u : Option Sl) (ρ : Nat → Nat × Nat) : den0 ρ (uV u) = uR u := by
  obtain ⟨a, l, c, e⟩ := uR_sl u
  rw [uV, e]; rfl
theorem uV_den (u : Option Sl) (ρ : Nat → Nat × Nat) : den ρ (uV u) = uR u := uV_den0 u ρ
theorem uV_re1 (u : Option Sl) {ix : List (Nat × Nat)} : Re1 ix (uV u) (uV u) := .quo
def uN : Option Sl → Nat
  | none => 0
  | some s => s.n
structure By where
  b : Nat
  c : Nat
  bs : List Int
abbrev By.s (e : By) : Option Sl := some ⟨e.b, 0, e.bs.length, e.c, none⟩
def BsIn (w : World) (u : Option Sl) (bs : List Int) : Prop := bs.length = uN u ∧ ∀ s, u = some s → (s.sp = none ∨ s.n = 0) ∧ ∀ j, j < bs.length → w.cell? ⟨s.b, s.o + j, none⟩ = some (.int .u8 (bs.getD j 0))
structure ByAt (w : World) (e : By) : Prop where
  lt : e.b < w.heap.size
  cell : ∀ j, j < e.bs.length → w.cell? ⟨e.b, j, none⟩ = some (.int .u8 (e.bs.getD j 0))
  own : ∀ j, j < e.bs.length → w.frozen? ⟨e.b, j, none⟩ = false
theorem cellM_same {w w' : World} {b o : Nat} (h : w'.heap[b]? = w.heap[b]?) : w'.cell? ⟨b, o, none⟩ = w.cell? ⟨b, o, none⟩ := by
  simp only [World.cell?, h]
theorem frozM_same {w w' : World} {b o : Nat} (h : w'.heap[b]? = w.heap[b]?) : w'.frozen? ⟨b, o, none⟩ = w.frozen? ⟨b, o, none⟩ := by
  simp only [World.frozen?, h]
theorem lt_same {w w' : World} {b : Nat} (hl : b < w.heap.size) (h : w'.heap[b]? = w.heap[b]?) : b < w'.heap.size := by
  have : w.heap[b]? = some (w.heap[b]'hl) := Array.getElem?_eq_getElem hl
  rw [this] at h
  exact (Array.getElem?_eq_some_iff.1 h).1
theorem cell_lt {w : World} {b o : Nat} {v : Value} (h : w.cell? ⟨b, o, none⟩ = some v) : b < w.heap.size := World.block_lt_of_cell? _ _ h
theorem ByAt.keep {w w' : World} {e : By} (h : ByAt w e) (hb : w'.heap[e.b]? = w.heap[e.b]?) : ByAt w' e :=
  ⟨lt_same h.lt hb, fun j hj => (cellM_same hb).trans (h.cell j hj), fun j hj => (frozM_same hb).trans (h.own j hj)⟩
structure MemOK (W : World) (F : List By) (p : Nat × Nat) (S : Nat → Prop) (w : World) : Prop where
  at_ : p.1 < W.heap.size
  dom : ∀ b, S b ↔ b < W.heap.size ∨ ∃ e ∈ F, e.b = b
  size : W.heap.size ≤ w.heap.size
  old : ∀ b, b < W.heap.size → w.heap[b]? = W.heap[b]?
  nodup : (F.map By.b).Nodup
  cell : ∀ e ∈ F, W.heap.size ≤ e.b ∧ ByAt w e
inductive Src (W : World) (F : List By) : Option Sl → List Int → Prop
  | nil : Src W F none []
  | own {e : By} (he : e ∈ F) : Src W F e.s e.bs
  | old {s : Sl} {bs : List Int} (hn : bs.length = s.n) (hs : s.sp = none ∨ s.n = 0) (hc : ∀ j, j < bs.length → W.cell? ⟨s.b, s.o + j, none⟩ = some (.int .u8 (bs.getD j 0))) : Src W F (some s) bs
theorem MemOK.src {W : World} {F : List By} {p : Nat × Nat} {S : Nat → Prop} {w : World} (M : MemOK W F p S w) {u : Option Sl} {bs : List Int} (h : Src W F u bs) : BsIn w u bs := by
  cases h with
  | nil => exact ⟨rfl, fun s hs => by cases hs⟩
  | own he =>
    refine ⟨rfl, fun s hs => ⟨?_, fun j hj => ?_⟩⟩
    · cases hs; exact .inl rfl
    cases hs
    show w.cell? ⟨_, 0 + j, none⟩ = _
    rw [Nat.zero_add]
    exact (M.cell _ he).2.cell j hj
  | old hn hsp hc =>
    refine ⟨hn, fun s hs => ⟨?_, fun j hj => ?_⟩⟩
    · cases hs; exact hsp
    cases hs
    have h1 := hc j hj
    rw [← h1]
    exact cellM_same (M.old _ (cell_lt h1))
theorem Src.more {W : World} {F F' : List By} (hF : ∀ e ∈ F, e ∈ F') {u : Option Sl} {bs : List Int} (h : Src W F u bs) : Src W F' u bs := by
  cases h with
  | nil => exact .nil
  | own he => exact .own (hF _ he)
  | old hn hsp hc => exact .old hn hsp hc
inductive Made (F : List By) (bs : List Int) : Option Sl → List By → Prop
  | nil : bs = [] → Made F bs none F
  | new {b c : Nat} (hb : b ∉ F.map By.b) : Made F bs (By.mk b c bs).s (⟨b, c, bs⟩ :: F)
theorem Made.src {W : World} {F F' : List By} {bs : List Int} {u : Option Sl} (h : Made F bs u F') : Src W F' u bs := by
  cases h with
  | nil h => subst h; exact .nil
  | new hb => exact .own (List.mem_cons_self ..)
theorem Made.sub {F F' : List By} {bs : List Int} {u : Option Sl} (h : Made F bs u F') : ∀ e ∈ F, e ∈ F' := by
  cases h with
  | nil h => exact fun e he => he
  | new hb => exact fun e he => List.mem_cons_of_mem _ he
section
variable {X : Ctx} {ρ : Nat → Nat × Nat} {h : List (Option Chunk)} {w w' : World}
end
section
variable {X : Ctx} {ρ : Nat → Nat × Nat} {h : List (Option Chunk)} {w : World}
end
section
variable {P : Program} {G : Tys} {o : Oper} {st : St}
theorem ev_real {X : Ctx} {ρ : Nat → Nat × Nat} {st : St} {a : Act} {w : World} {x : Operand} {v : Value} (h : EvTo x st v) (hp : plain2 v = true) (R : Rel X ρ st a w) : a.eval x = v := by
  rw [← (h.den R).self, den_plain hp]
theorem N.op {slot : Nat} {K : Value → List (Nat × Chunk) → List Nat → Prop} {v : Value} {ms : List (Nat × Chunk)} {rh : List Nat} (h : OKs P o st v ms rh) (k : K v ms rh) : N (OpN P o st slot K) := N.mk ⟨v, ms, rh, h, k⟩
theorem ok_idxR {t : TypeId} {x y : Operand} {b f l c sz g : Nat} {a : Int} {k : IntKind} {v : Value} (hG : TysOK P G) (ho : o.op = .indexAddr t x y) (hx : EvTo x st v) (hxv : ∀ ρ, den ρ v = .slice (some ⟨b, f, none⟩) l c) (hy : EvTo y st (.int k a))
    (ht : lookT G t fun _ d => match d with | .slice e => lookT G e fun ei _ => ei.size = sz | _ => False) (h0 : 0 ≤ a) (hn : a < l) (hg : f + a.toNat * sz = g) : OKs P o st (.pointer (some ⟨b, g, none⟩)) [] [] := fun st₂ hs _ _ =>
  eff_pure fun X ρ act w R => by
    subst hg
    have hx' : act.eval x = .slice (some ⟨b, f, none⟩) l c := by rw [← ((hs x (by simp [ho, Op.operands]) _ hx).den R).self, hxv]
    have hy' := ev_real (hs y (by simp [ho, Op.operands]) _ hy) rfl R
    obtain ⟨i, d, _, h1, hd⟩ := lookT_out hG ht
    split at hd
    · obtain ⟨ei, ed, h2, _, rfl⟩ := lookT_out hG hd
      refine ⟨_, ?_, Den.plain rfl⟩
      simp only [execOp, ho, hx', hy', Instr.indexAt, asIntOf, underlying, Sem.run_bind, run_program, Result.andThen_ok, h1, Sem.run_pure, h0, hn, and_self, if_true, run_sizeOf h2, add_at, Nat.add_assoc]
    · exact hd.elim
theorem ok_lenU {x : Operand} {ts : Array TypeId} {u : Option Sl} (ho : o.op = .call ⟨.builtin .len, ⟨[x]⟩, ts⟩) (hx : EvTo x st (uV u)) (ht : ∃ t, ts = #[t] ∧ ∃ e, P.underlying t = some (.slice e)) : OKs P o st (.int .i64 (uN u : Nat)) [] [] := fun st₂ hs2 hh _ =>
  eff_pure fun X ρ a w R => by
    have hx' : a.eval x = uR u := by rw [← ((hs2 x (by simp [ho, Op.operands, Call.operands]) _ hx).den R).self, uV_den]
    obtain ⟨t, rfl, e, he⟩ := ht
    refine ⟨.int .i64 (uN u : Nat), ?_, Den.plain rfl⟩
    cases u with
    | none =>
      simp [execOp, ho, resolve, invoke, builtin, hx', uR, uN, Builtin.len_, Sem.run_bind, Sem.run_pure, Result.andThen_ok, run_underlying he, Builtin.lenOf]
      rfl
    | some s =>
      simp [execOp, ho, resolve, invoke, builtin, hx', uR, uN, Builtin.len_, Sem.run_bind, Sem.run_pure, Result.andThen_ok, run_underlying he, Builtin.lenOf]
      rfl
end
end Go.Proofs.YtimccfnlcnlffaaGreat.Sx


namespace Go.Proofs.YtimccfnlcnlffaaGreat.Sx
open Go Go.RowKit
structure Rw where
  w : Bool
  e : TypeId
  k : Nat
  b : Nat
  o : Nat
  c : Nat
  n : Nat
  xs : List Value
abbrev Rw.sl (r : Rw) : Sl := ⟨r.b, r.o, r.n, r.c, none⟩
structure RwAt (w : World) (r : Rw) : Prop where
  lt : r.b < w.heap.size
  len : r.xs.length = r.n * r.k
  cap : r.n ≤ r.c
  cell : ∀ j, j < r.xs.length → w.cell? ⟨r.b, r.o + j, none⟩ = r.xs[j]?
  own : r.w = true → r.o = 0 ∧ w.ownsRow 0 r.e r.k (.slice (some ⟨r.b, 0, none⟩) r.n r.c) r.n r.xs
theorem ownsRow_keep {w w' : World} {e : TypeId} {k b n c : Nat} {xs : List Value} (h : w.ownsRow 0 e k (.slice (some ⟨b, 0, none⟩) n c) n xs) (hb : w'.heap[b]? = w.heap[b]?) : w'.ownsRow 0 e k (.slice (some ⟨b, 0, none⟩) n c) n xs := by
  refine ⟨h.1, ?_⟩
  rcases h.2 with ⟨h1, _⟩ | ⟨g, cap, cur, h1, h2, h3, h4⟩
  · cases h1
  · have e : b = g := by injection h1 with h1; injection h1 with h1; injection h1
    subst e
    exact .inr ⟨b, cap, cur, h1, h2, hb.trans h3, h4⟩
theorem RwAt.keep {w w' : World} {r : Rw} (h : RwAt w r) (hb : w'.heap[r.b]? = w.heap[r.b]?) : RwAt w' r :=
  ⟨lt_same h.lt hb, h.len, h.cap, fun j hj => (cellM_same hb).trans (h.cell j hj), fun hw => ⟨(h.own hw).1, ownsRow_keep (h.own hw).2 hb⟩⟩
theorem RwAt.of {w : World} {e : TypeId} {k b n c : Nat} {xs : List Value} (h : w.ownsRow 0 e k (.slice (some ⟨b, 0, none⟩) n c) n xs) : RwAt w ⟨true, e, k, b, 0, c, n, xs⟩ := by
  refine ⟨(World.ownsRow.lt h b rfl).2, h.1, ?_, fun j hj => ?_, fun _ => ⟨rfl, h⟩⟩
  · rcases h.2 with ⟨h1, _⟩ | ⟨g, cap, cur, h1, h2, h3, h4, _⟩
    · cases h1
    · have e : c = cap := by injection h1
      show n ≤ c
      rw [e]; exact h4
  · have hj : j < xs.length := hj
    show w.cell? ⟨b, 0 + j, none⟩ = xs[j]?
    rw [Nat.zero_add]
    exact World.ownsRow.cellAt h j (by rw [← h.1]; exact hj)
class ZW where
  z : Option World
structure RvOK [ZW] (R : List Rw) (p : Nat × Nat) (S : Nat → Prop) (w : World) : Prop where
  nodup : (R.map Rw.b).Nodup
  at_ : ∀ r ∈ R, S r.b ∧ RwAt w r ∧ ∀ W, ZW.z = some W → W.heap.size ≤ r.b
  base : ∀ W, ZW.z = some W → p.1 < W.heap.size ∧ W.heap.size ≤ w.heap.size ∧ ∀ b, b < W.heap.size → S b ∧ w.heap[b]? = W.heap[b]?
abbrev rvX [ZW] (R : List Rw) : Ext where
  inv := fun p S w => RvOK R p S w
  keep := fun {p S w w'} h hb => ⟨h.nodup, fun r hr => ⟨(h.at_ r hr).1, (h.at_ r hr).2.1.keep (hb _ (h.at_ r hr).1), (h.at_ r hr).2.2⟩, fun W hW => by
    obtain ⟨h1, h2, h3⟩ := h.base W hW
    refine ⟨h1, ?_, fun b hb' => ⟨(h3 b hb').1, (hb b (h3 b hb').1).trans (h3 b hb').2⟩⟩
    have h4 := lt_same (b := W.heap.size - 1) (w := w) (w' := w') (by omega) (hb _ (h3 (W.heap.size - 1) (by omega)).1)
    omega⟩
abbrev rvC [ZW] (R : List Rw) : Chunk := @Chunk.mk (rvX R) true 0 []
def rowO : Option Rw → Option Sl
  | none => none
  | some r => some r.sl
def rowL : Option Rw → List Rw → List Rw
  | none, R => R
  | some r, R => r :: R
def rowN : Option Rw → Nat
  | none => 0
  | some r => r.n
def rowXs : Option Rw → List Value
  | none => []
  | some r => r.xs
theorem rowL_sub (o : Option Rw) (R : List Rw) : ∀ r ∈ R, r ∈ rowL o R := fun r hr => by
  cases o with
  | none => exact hr
  | some q => exact List.mem_cons_of_mem _ hr
theorem rowL_in (r : Rw) (R : List Rw) : r ∈ rowL (some r) R := List.mem_cons_self ..
structure Grew (o o' : Option Rw) (e : TypeId) (k m : Nat) (news : List Value) : Prop where
  n : rowN o' = rowN o + m
  xs : rowXs o' = rowXs o ++ news
  ty : ∀ r, o' = some r → r.e = e ∧ r.k = k ∧ r.w = true
  nil : o' = none ↔ o = none ∧ m = 0
  cap : ∀ r, o' = some r → r.n ≤ r.c
def SrcR (w : World) (v : Value) (m k : Nat) (news : List Value) : Prop :=
  (v = .slice none 0 0 ∧ m = 0 ∧ news = []) ∨ ∃ a c, v = .slice (some a) m c ∧ news.length = m * k ∧ ∀ j u, news[j]? = some u → w.cell? (a.add j) = some u
theorem new_row {w : World} {e : TypeId} {size n m cap : Nat} {z : Value} {olds news : List Value} (ho : olds.length = n * size) (hn : news.length = m * size) (hz : z.cells.size = size) (hge : n + m ≤ cap) (hcm : cap ≤ maxLen) :
    (w.drew.alloc (.cells (olds.toArray ++ news.toArray ++ Builtin.zeroCells z.cells (cap - (n + m))) e)).ownsRow 0 e size (.slice (some ⟨w.heap.size, 0, none⟩) (n + m) cap) (n + m) (olds ++ news) := by
  have hlen : (olds ++ news).length = (n + m) * size := by rw [List.length_append, ho, hn, Nat.add_mul]
  refine ⟨hlen, .inr ⟨w.heap.size, _, _, rfl, Nat.zero_le _, heap_alloc_new w.drew _, hge, hcm, ?_, ?_⟩⟩
  · simp only [Array.size_append, List.size_toArray, size_zeroCells, hz, ho, hn, ← Nat.add_mul]
    congr 1
    omega
  · simp only [Array.toList_append, List.append_assoc]
    rw [← List.append_assoc, ← hlen]
    exact List.take_left
section
variable {P : Program} {G : Tys} {o : Oper} {st : St}
theorem eff_appR [ZW] {x y : Operand} {t e : TypeId} {ei : TypeInfo} {z p : Value} {i : Nat} {own : Bool} {n : Nat} {ps : List (Nat × Nat × Value)} (oe : Option Rw) (R : List Rw) (m : Nat) (news : List Value) {K : Value → List (Nat × Chunk) → Prop}
    (ho : o.op = .call ⟨.builtin .append, #[x, y], #[t, t]⟩) (hx : EvTo x st p) (hp : ∀ ρ, den ρ p = uR (rowO oe))
    (h1 : P.underlying t = some (.slice e)) (h2 : P.info? e = some ei) (hz : ei.zero = some z) (hzs : z.cells.size = ei.size) (hs0 : 0 < ei.size)
    (hi : st.h[i]? = some (some (@Chunk.mk (rvX (rowL oe R)) own n ps))) (hoe : ∀ r, oe = some r → r.e = e ∧ r.k = ei.size ∧ r.w = true)
    (hsrc : ∀ X ρ a w, Rel X ρ st a w → SrcR w (a.eval y) m ei.size news) (hone : ∀ u ∈ news, u.oneCell' = true)
    (h63 : rowN oe + m ≤ 35184372088831) (hb : (rowN oe + m) * ei.bytes ≤ 140737488355328)
    (hK : ∀ oe', Grew oe oe' e ei.size m news → K (uV (rowO oe')) [(i, @Chunk.mk (rvX (rowL oe' R)) own n ps)]) : EffAll P o st K := fun X ρ a w Rl next Q hn => by
  have hx' : a.eval x = uR (rowO oe) := by rw [← (hx.den Rl).self, hp]
  obtain ⟨S, E⟩ := Rl.heap.ext
  have V : RvOK (rowL oe R) (ρ i) (S i) w := E.inv i _ hi
  have hpi := Rl.heap.lt i _ hi
  have fin : ∀ oe' w', (Builtin.append_ #[t, t] o.type #[a.eval x, a.eval y]).run P w = .ok (uR (rowO oe')) w' → HOK X ρ (st.h.set i (some (@Chunk.mk (rvX (rowL oe' R)) own n ps))) w' → Grew oe oe' e ei.size m news → o.wp P a w next Q := fun oe' w' hr H' hg => by
    have hrun2 := run_append_op (P := P) (o := o) (x := x) (y := y) (t := t) (a := a) ho hr
    unfold Oper.wp
    rw [hrun2]
    exact hn _ _ ρ _ _ (hK oe' hg) ⟨AgreeOn.refl _ _, H', fun r _ => uV_den _ r⟩
  have hcm : ∀ q old, q ≤ 35184372088831 → grownCap w q old e ≤ maxLen := fun q old hq => grownCap_le_maxLen w q old e (by simp only [maxLen]; omega)
  have turn : ∀ oe' w', RvOK (rowL oe' R) (ρ i) (fun b => S i b ∨ ∃ r', oe' = some r' ∧ b = r'.b) w' → w'.os = w.os → w'.tape = w.tape → w'.output = w.output → w.heap.size ≤ w'.heap.size → (∀ b, b < w.heap.size → ¬ S i b → w'.heap[b]? = w.heap[b]?) → (∀ r', oe' = some r' → S i r'.b ∨ w.heap.size ≤ r'.b) →
      HOK X ρ (st.h.set i (some (@Chunk.mk (rvX (rowL oe' R)) own n ps))) w' := fun oe' w' hv e1 e2 e3 e4 e5 e6 => by
    refine Rl.heap.turnX E hi (d := @Chunk.mk (rvX (rowL oe' R)) own n ps) (S' := fun b => S i b ∨ ∃ r', oe' = some r' ∧ b = r'.b) id (Nat.le_refl _) (fun j hj => rfl) e1 e2 e3 e4 e5 (fun b hb => ?_) hv
    rcases hb with hb | ⟨r', hr', rfl⟩
    · obtain ⟨m1, m2, m3⟩ := E.mine i _ b hi hb
      exact ⟨Nat.lt_of_lt_of_le m2 e4, m1, .inl hb⟩
    · have hlt : r'.b < w'.heap.size := by
        subst hr'
        exact ((hv.at_ r' (rowL_in r' R)).2.1).lt
      rcases e6 r' hr' with h | h
      · exact ⟨hlt, (E.mine i _ _ hi h).1, .inl h⟩
      · exact ⟨hlt, .inr (by omega), .inr h⟩
  by_cases hm0 : m = 0
  · subst hm0
    have hnews : news = [] := by
      rcases hsrc X ρ a w Rl with ⟨_, _, h⟩ | ⟨_, _, _, h, _⟩
      · exact h
      · exact List.length_eq_zero_iff.1 (by simpa using h)
    subst hnews
    have hset : st.h.set i (some (@Chunk.mk (rvX (rowL oe R)) own n ps)) = st.h := by
      refine List.ext_getElem? fun j => ?_
      by_cases e : i = j
      · subst e; rw [List.getElem?_set_self (List.getElem?_eq_some_iff.1 hi).1, hi]
      · rw [List.getElem?_set_ne e]
    have same : (Builtin.append_ #[t, t] o.type #[uR (rowO oe), a.eval y]).run P w = .ok (uR (rowO oe)) w := by
      have hown : w.ownsRow 0 e ei.size (uR (rowO oe)) (rowN oe) (rowXs oe) := by
        cases oe with
        | none => exact World.ownsRow_nil w 0 e ei.size
        | some r =>
          obtain ⟨q1, q2, q3⟩ := hoe r rfl
          obtain ⟨q4, this⟩ := ((V.at_ r (rowL_in r R)).2.1).own q3
          have e1 : uR (rowO (some r)) = .slice (some ⟨r.b, 0, none⟩) r.n r.c := by show Value.slice (some ⟨r.b, r.o, none⟩) r.n r.c = _; rw [q4]
          rw [e1, ← q1, ← q2]; exact this
      rcases hsrc X ρ a w Rl with ⟨hv, _, _⟩ | ⟨ad, c, hv, _, _⟩
      · rw [hv]; exact run_append_owned_none w 0 t o.type e ei ei.size h1 h2 _ _ _ hown
      · rw [hv]
        cases oe with
        | none =>
          simp [rowO, uR, Builtin.append_, run_underlying h1, sizeOf, typeInfo, h2, Builtin.lenOf, run_firstCells_some (P := P) w ei.size 0 ad 0 c [] (by simp) (by simp), storeCells]
        | some r =>
          have hc := ((V.at_ r (rowL_in r R)).2.1).cap
          simp [rowO, uR, Builtin.append_, run_underlying h1, sizeOf, typeInfo, h2, Builtin.lenOf, hc, run_firstCells_some (P := P) w ei.size 0 ad 0 c [] (by simp) (by simp), storeCells]
    refine fin oe w (by rw [hx']; exact same) (by rw [hset]; exact Rl.heap) ⟨rfl, by simp, hoe, by simp, fun r hr => by subst hr; exact ((V.at_ r (rowL_in r R)).2.1).cap⟩
  obtain ⟨ad, c, hv, hnl, hnc⟩ : ∃ ad c, a.eval y = .slice (some ad) m c ∧ news.length = m * ei.size ∧ ∀ j u, news[j]? = some u → w.cell? (ad.add j) = some u := by
    rcases hsrc X ρ a w Rl with ⟨_, h, _⟩ | h
    · exact absurd h hm0
    · exact h
  have fresh : ∀ (olds : List Value) (q old : Nat), oe = none ∧ q = 0 ∧ olds = [] ∨ (∃ r, oe = some r ∧ q = r.n ∧ olds = r.xs) → old < q + m →
      (Builtin.append_ #[t, t] o.type #[uR (rowO oe), a.eval y]).run P w = .ok (.slice (some ⟨w.heap.size, 0, none⟩) (q + m) (grownCap w (q + m) old e)) (w.drew.alloc (.cells (olds.toArray ++ news.toArray ++ Builtin.zeroCells z.cells (grownCap w (q + m) old e - (q + m))) e)) → olds.length = q * ei.size → q = rowN oe → o.wp P a w next Q := fun olds q old hq hold hr hol hqn => by
    have hge := grownCap_ge w (q + m) old e
    have hcap := hcm (q + m) old (by omega)
    have hrow := new_row (w := w) (e := e) hol hnl hzs hge hcap
    generalize hcc : grownCap w (q + m) old e = cap at hr hge hcap hrow
    have hB : Below w.heap.size w (w.drew.alloc (.cells (olds.toArray ++ news.toArray ++ Builtin.zeroCells z.cells (cap - (q + m))) e)) := ((Below.refl _ _).drew).alloc (Nat.le_refl _) _
    have hxs : rowXs oe = olds := by rcases hq with ⟨rfl, _, rfl⟩ | ⟨r, rfl, _, rfl⟩ <;> rfl
    refine fin (some ⟨true, e, ei.size, w.heap.size, 0, cap, q + m, olds ++ news⟩) _ (by rw [hx', hr]; rfl) (turn _ _ ?_ hB.os hB.tape hB.output hB.size (fun b hb _ => hB.block b hb) (fun r' hr' => by obtain rfl := Option.some.inj hr'; exact .inr (Nat.le_refl _))) ⟨by rw [← hqn]; rfl, by rw [hxs]; rfl, fun r hr => by obtain rfl := Option.some.inj hr; exact ⟨rfl, rfl, rfl⟩, ⟨(fun h => by cases h), fun h => absurd h.2 hm0⟩, fun r hr => by obtain rfl := Option.some.inj hr; exact hge⟩
    have hR : ∀ r ∈ R, S i r.b ∧ RwAt w r ∧ ∀ W, ZW.z = some W → W.heap.size ≤ r.b := fun r hr => V.at_ r (rowL_sub oe R r hr)
    have hnd : (R.map Rw.b).Nodup := by
      cases oe with
      | none => exact V.nodup
      | some r => have := V.nodup; rw [show rowL (some r) R = r :: R from rfl, List.map_cons, List.nodup_cons] at this; exact this.2
    refine ⟨?_, fun r hr => ?_, fun W hW => ?_⟩
    rotate_left 2
    · obtain ⟨b1, b2, b3⟩ := V.base W hW
      exact ⟨b1, Nat.le_trans b2 hB.size, fun b hb => ⟨.inl (b3 b hb).1, (hB.block b (Nat.lt_of_lt_of_le hb b2)).trans (b3 b hb).2⟩⟩
    · rw [show ∀ r, rowL (some r) R = r :: R from fun _ => rfl, List.map_cons, List.nodup_cons]
      refine ⟨fun hm => ?_, hnd⟩
      obtain ⟨r, hr, e'⟩ := List.mem_map.1 hm
      have := (hR r hr).2.1.lt
      have e' : r.b = w.heap.size := e'
      omega
    · rcases List.mem_cons.1 hr with rfl | hr
      · exact ⟨.inr ⟨_, rfl, rfl⟩, .of hrow, fun W hW => (V.base W hW).2.1⟩
      · exact ⟨.inl (hR r hr).1, (hR r hr).2.1.keep (hB.block _ (hR r hr).2.1.lt), (hR r hr).2.2⟩
  cases oe with
  | none =>
    have hr := run_append_nil (P := P) w t o.type e ei z h1 h2 hz ad m c news hnl hnc (by omega) (by simp only [rowN] at h63; omega) (by simp only [rowN, Nat.zero_add] at hb; omega)
    refine fresh [] 0 0 (.inl ⟨rfl, rfl, rfl⟩) (by omega) ?_ (by simp) rfl
    rw [hv]
    simpa [rowO, uR] using hr
  | some r =>
    obtain ⟨q1, q2, q3⟩ := hoe r rfl
    obtain ⟨q4, hat⟩ := ((V.at_ r (rowL_in r R)).2.1).own q3
    have hu : uR (rowO (some r)) = .slice (some ⟨r.b, 0, none⟩) r.n r.c := by show Value.slice (some ⟨r.b, r.o, none⟩) r.n r.c = _; rw [q4]
    have hS := (V.at_ r (rowL_in r R)).1
    have hown : w.ownsRow 0 e ei.size (.slice (some ⟨r.b, 0, none⟩) r.n r.c) r.n r.xs := by rw [← q1, ← q2]; exact hat
    by_cases hroom : r.n + m ≤ r.c
    · obtain ⟨w', hr, hown', hg⟩ := run_append_fits (P := P) w 0 t o.type e ei ei.size h1 h2 rfl r.b r.n r.c r.xs hown ad m c news hnl hnc hone hroom
      refine fin (some ⟨true, e, ei.size, r.b, 0, r.c, r.n + m, r.xs ++ news⟩) w' (by rw [hx', hv, hu]; exact hr) (turn _ _ ?_ hg.os hg.tape hg.output hg.size (fun b hb hnS => hg.block b hb (fun e' => by obtain rfl := Option.some.inj e'; exact hnS hS)) (fun r' hr' => by obtain rfl := Option.some.inj hr'; exact .inl hS)) ⟨rfl, rfl, fun r' hr' => by obtain rfl := Option.some.inj hr'; exact ⟨rfl, rfl, rfl⟩, ⟨(fun h => by cases h), fun h => absurd h.2 hm0⟩, fun r' hr' => by obtain rfl := Option.some.inj hr'; exact hroom⟩
      have hnd : r.b ∉ R.map Rw.b ∧ (R.map Rw.b).Nodup := by have := V.nodup; rw [show rowL (some r) R = r :: R from rfl, List.map_cons, List.nodup_cons] at this; exact this
      have hrb := (V.at_ r (rowL_in r R)).2.2
      refine ⟨?_, fun r' hr' => ?_, fun W hW => ?_⟩
      rotate_left 2
      · obtain ⟨b1, b2, b3⟩ := V.base W hW
        have := hrb W hW
        exact ⟨b1, Nat.le_trans b2 hg.size, fun b hb => ⟨.inl (b3 b hb).1, (hg.block b (Nat.lt_of_lt_of_le hb b2) fun e' => by have := Option.some.inj e'; omega).trans (b3 b hb).2⟩⟩
      · rw [show ∀ r, rowL (some r) R = r :: R from fun _ => rfl, List.map_cons, List.nodup_cons]; exact hnd
      · rcases List.mem_cons.1 hr' with rfl | hr'
        · exact ⟨.inl hS, .of hown', hrb⟩
        · obtain ⟨g1, g2, g3⟩ := V.at_ r' (rowL_sub _ _ _ hr')
          exact ⟨.inl g1, g2.keep (hg.block _ g2.lt fun e' => hnd.1 (List.mem_map.2 ⟨r', hr', Option.some.inj e'⟩)), g3⟩
    · have holds : ∀ j u, r.xs[j]? = some u → w.cell? ((⟨r.b, 0, none⟩ : Addr).add j) = some u := hown.cells (g := r.b) rfl
      have hr := run_append_grow (P := P) w t o.type e ei z h1 h2 hz ⟨r.b, 0, none⟩ r.n r.c r.xs hown.1 holds ad m c news hnl hnc (by omega) (by simp only [rowN] at h63; omega) (growslice_fits (by omega) hb)
      refine fresh r.xs r.n r.c (.inr ⟨r, rfl, rfl, rfl⟩) (by omega) ?_ hown.1 rfl
      rw [hv, hu]
      exact hr
def SrcN (y : Operand) (st : St) (hs : List Nat) (m k : Nat) (news : List Value) : Prop :=
  ∀ st₂ : St, (∀ u, EvTo y st u → EvTo y st₂ u) → (∀ i ∈ hs, st₂.h[i]? = st.h[i]?) → ∀ X ρ a w, Rel X ρ st₂ a w → SrcR w (a.eval y) m k news
theorem app_now [ZW] {x y : Operand} {t e : TypeId} {ei : TypeInfo} {z p : Value} {own : Bool} {n : Nat} {ps : List (Nat × Nat × Value)} {K : Value → List (Nat × Chunk) → Prop} (oe : Option Rw) (R : List Rw) (i m : Nat) (news : List Value)
    (ho : o.op = .call ⟨.builtin .append, #[x, y], #[t, t]⟩) (hx : EvTo x st p) (hp : ∀ ρ, den ρ p = uR (rowO oe))
    (h1 : P.underlying t = some (.slice e)) (h2 : P.info? e = some ei) (hz : ei.zero = some z) (hzs : z.cells.size = ei.size) (hs0 : 0 < ei.size)
    (hi : st.h[i]? = some (some (@Chunk.mk (rvX (rowL oe R)) own n ps))) (hoe : ∀ r, oe = some r → r.e = e ∧ r.k = ei.size ∧ r.w = true) (hs : List Nat) (hsrc : SrcN y st hs m ei.size news) (hone : ∀ u ∈ news, u.oneCell' = true)
    (h63 : rowN oe + m ≤ 35184372088831) (hb : (rowN oe + m) * ei.bytes ≤ 140737488355328)
    (hK : ∀ oe', Grew oe oe' e ei.size m news → K (uV (rowO oe')) [(i, @Chunk.mk (rvX (rowL oe' R)) own n ps)]) : N (EffAll P o st K) :=
  N.mk (eff_appR oe R m news ho hx hp h1 h2 hz hzs hs0 hi hoe (hsrc st (fun _ h => h) fun _ _ => rfl) hone h63 hb hK)
theorem app_multi [ZW] {x y : Operand} {t e : TypeId} {ei : TypeInfo} {z p : Value} {own : Bool} {n : Nat} {ps : List (Nat × Nat × Value)} {C : List Nat → Prop} {K : List Nat → Value → List (Nat × Chunk) → Prop} (oe : Option Rw) (R : List Rw) (i m : Nat) (news : List Value) (hs : List Nat)
    (ho : o.op = .call ⟨.builtin .append, #[x, y], #[t, t]⟩) (hx : EvTo x st p) (hp : ∀ ρ, den ρ p = uR (rowO oe))
    (h1 : P.underlying t = some (.slice e)) (h2 : P.info? e = some ei) (hz : ei.zero = some z) (hzs : z.cells.size = ei.size) (hs0 : 0 < ei.size)
    (hi : st.h[i]? = some (some (@Chunk.mk (rvX (rowL oe R)) own n ps))) (hoe : ∀ r, oe = some r → r.e = e ∧ r.k = ei.size ∧ r.w = true) (hsi : i ∈ hs) (hsrc : SrcN y st hs m ei.size news) (hone : ∀ u ∈ news, u.oneCell' = true)
    (h63 : rowN oe + m ≤ 35184372088831) (hb : (rowN oe + m) * ei.bytes ≤ 140737488355328) (hC : C hs)
    (hK : ∀ oe', Grew oe oe' e ei.size m news → K hs (uV (rowO oe')) [(i, @Chunk.mk (rvX (rowL oe' R)) own n ps)]) : N (MultiN P o st C K) :=
  N.mk ⟨hs, hC, fun st₂ ha hh => eff_appR oe R m news ho (ha x (by simp [ho, Op.operands, Call.operands]) _ hx) hp h1 h2 hz hzs hs0 ((hh i hsi).trans hi) hoe (hsrc st₂ (fun u hu => ha y (by simp [ho, Op.operands, Call.operands]) u hu) hh) hone h63 hb fun oe' hg => ⟨fun j hj => by
    have hj : j = i := by simpa using hj
    rw [hj]; exact hsi, hK oe' hg⟩⟩
theorem src_chunk {y : Operand} {j g u m q k : Nat} {cj : Chunk} {cs : List Value} (hs : List Nat) (hjs : j ∈ hs) (hy : EvTo y st (.slice (some ⟨j, g, some u⟩) m q)) (hj : st.h[j]? = some (some cj)) (hr : Reads cj g true (m * k) (.agg ⟨cs⟩)) (hp : cs.all plain1 = true) :
    SrcN y st hs m k cs := fun st₂ ha hh X ρ a w Rl => by
  have hj := (hh j hjs).trans hj
  have hy := ha _ hy
  have hy' : a.eval y = .slice (some ⟨(ρ j).1, (ρ j).2 + g, none⟩) m q := (hy.den Rl).self.symm
  obtain ⟨cs', e, hcl, hcc, hcd⟩ := reads_cells Rl.heap hj hr
  obtain rfl : cs = cs' := by simpa using e
  refine .inr ⟨_, q, hy', hcl, fun l v hv => hcc l v ?_⟩
  have hl := (List.getElem?_eq_some_iff.1 hv).1
  rw [List.getElem?_map, hv]
  have : plain1 v = true := List.all_eq_true.1 hp v (List.mem_of_getElem? hv)
  show some (den1 ρ v) = some v
  rw [den1_plain this]
theorem src_row [ZW] {y : Operand} {i : Nat} {own : Bool} {n : Nat} {ps : List (Nat × Nat × Value)} {R : List Rw} {r : Rw} {p m c k : Nat} (hs : List Nat) (his : i ∈ hs) {f : Nat} (hf : f = r.o + p) (hy : EvTo y st (uV (some ⟨r.b, f, m, c, none⟩))) (hi : st.h[i]? = some (some (@Chunk.mk (rvX R) own n ps))) (hr : r ∈ R) (hk : p + m * k ≤ r.xs.length) :
    SrcN y st hs m k ((r.xs.drop p).take (m * k)) := fun st₂ ha hh X ρ a w Rl => by
  have hi := (hh i his).trans hi
  have hy := ha _ hy
  subst hf
  have hy' : a.eval y = .slice (some ⟨r.b, r.o + p, none⟩) m c := by rw [← (hy.den Rl).self, uV_den]; rfl
  obtain ⟨S, E⟩ := Rl.heap.ext
  have V : RvOK R (ρ i) (S i) w := E.inv i _ hi
  refine .inr ⟨_, c, hy', by rw [List.length_take, List.length_drop]; omega, fun l v hv => ?_⟩
  rw [List.getElem?_take] at hv
  split at hv
  · rw [List.getElem?_drop] at hv
    rw [add_at, ← hv, Nat.add_assoc]
    exact (V.at_ r hr).2.1.cell _ (List.getElem?_eq_some_iff.1 hv).1
  · cases hv
theorem src_none {y : Operand} {k : Nat} (hs : List Nat) (hy : EvTo y st (uV none)) : SrcN y st hs 0 k [] := fun st₂ ha hh X ρ a w Rl => by
  have hy := ha _ hy
  have hy' : a.eval y = .slice none 0 0 := by rw [← (hy.den Rl).self, uV_den]; rfl
  exact .inl ⟨hy', rfl, rfl⟩
theorem ok_loadV [ZW] {t : TypeId} {x : Operand} {f i : Nat} {own : Bool} {n : Nat} {ps : List (Nat × Nat × Value)} {R : List Rw} (r : Rw) {v : Value} (p : Nat) (hG : TysOK P G) (ho : o.op = .load t x) (hx : EvTo x st (.pointer (some ⟨r.b, f, none⟩))) (hf : f = r.o + p) (hi : st.h[i]? = some (some (@Chunk.mk (rvX R) own n ps))) (hr : r ∈ R)
    (ht : lookT G t fun _ d => isAggD d = false) (hp : plain1 v = true) (hk : r.xs[p]? = some v) : OKs P o st v [] [i] := fun st₂ hs hh _ =>
  eff_pure fun X ρ a w R' => by
    have hi2 := (hh i (by simp)).trans hi
    have hx' := ev_real (hs x (by simp [ho, Op.operands]) _ hx) rfl R'
    obtain ⟨ti, d, _, h2, hd⟩ := lookT_out hG ht
    obtain ⟨S, E⟩ := R'.heap.ext
    have V : RvOK R (ρ i) (S i) w := E.inv i _ hi2
    have hy := ((V.at_ r hr).2.1.cell p (List.getElem?_eq_some_iff.1 hk).1).trans hk
    rw [← hf] at hy
    refine ⟨v, ?_, fun r _ => ?_⟩
    · simp only [execOp, ho, hx', Instr.loadAt, Instr.sureAddr, loadVar, Sem.run_bind, Sem.run_pure, Result.andThen_ok, run_isAgg h2, hd, Bool.false_eq_true, if_false, run_load, hy]
    · cases v <;> first | exact den_plain (by exact hp) r | (simp [plain1] at hp)
theorem ok_loadVA [ZW] {t : TypeId} {x : Operand} {f i sz : Nat} {own : Bool} {n : Nat} {ps : List (Nat × Nat × Value)} {R : List Rw} (r : Rw) (cs : List Value) (p : Nat) (hG : TysOK P G) (ho : o.op = .load t x) (hx : EvTo x st (.pointer (some ⟨r.b, f, none⟩))) (hf : f = r.o + p) (hi : st.h[i]? = some (some (@Chunk.mk (rvX R) own n ps))) (hr : r ∈ R)
    (ht : lookT G t fun ti d => isAggD d = true ∧ ti.size = sz) (hp : cs.all plain1 = true) (hl : cs.length = sz) (hk : ∀ j v, cs[j]? = some v → r.xs[p + j]? = some v) : OKs P o st (.agg ⟨cs⟩) [] [i] := fun st₂ hs hh _ =>
  eff_pure fun X ρ a w R' => by
    have hi2 := (hh i (by simp)).trans hi
    have hx' := ev_real (hs x (by simp [ho, Op.operands]) _ hx) rfl R'
    obtain ⟨ti, d, h1, h2, hd, rfl⟩ := lookT_out hG ht
    obtain ⟨S, E⟩ := R'.heap.ext
    have V : RvOK R (ρ i) (S i) w := E.inv i _ hi2
    have hcells : ∀ j v, cs[j]? = some v → w.cell? ((⟨r.b, f, none⟩ : Addr).add j) = some v := fun j v hv => by
      have h3 := hk j v hv
      rw [add_at, hf, Nat.add_assoc]; exact ((V.at_ r hr).2.1.cell _ (List.getElem?_eq_some_iff.1 h3).1).trans h3
    refine ⟨.agg ⟨cs⟩, ?_, Den.plain hp⟩
    simp only [execOp, ho, hx', Instr.loadAt, Instr.sureAddr, loadVar, Sem.run_bind, Sem.run_pure, Result.andThen_ok, run_isAgg h2, hd, if_true, run_sizeOf h1]
    rw [← hl, run_loadCells_list _ _ _ hcells]
    rfl
theorem ok_fieldR {t : TypeId} {x : Operand} {k b f g : Nat} (off : Nat) (hG : TysOK P G) (ho : o.op = .fieldAddr t x k) (hx : EvTo x st (.pointer (some ⟨b, f, none⟩)))
    (ht : lookT G t fun _ d => match d with | .struct fs => (match nthL fs.toList k with | some fl => (lookT G fl.type fun fi _ => Nat.beq fi.size 0 = false) ∧ fl.offset = off | none => False) | _ => False) (hg : g = f + off) : OKs P o st (.pointer (some ⟨b, g, none⟩)) [] [] := fun st₂ hs _ _ =>
  eff_pure fun X ρ a w R => by
    subst hg
    have hx' := ev_real (hs x (by simp [ho, Op.operands]) _ hx) rfl R
    obtain ⟨_, d, _, h1, hd⟩ := lookT_out hG ht
    split at hd
    · split at hd
      · rename_i fs x fl hfl
        obtain ⟨hft, rfl⟩ := hd
        obtain ⟨fi, _, h3, _, h4⟩ := lookT_out hG hft
        have h2' : fs[k]? = some fl := by rw [nthL_eq] at hfl; simpa using hfl
        have h4' : fi.size ≠ 0 := fun e => by rw [e] at h4; cases h4
        refine ⟨.pointer (some ⟨b, f + fl.offset, none⟩), ?_, Den.plain rfl⟩
        simp only [execOp, ho, hx', Instr.fieldAt, Instr.sureAddr, underlying, fieldPlace, Sem.run_bind, run_program, Result.andThen_ok, h1, h2', Sem.run_pure, run_sizeOf h3, h4', if_false, add_at, Nat.add_assoc]
      · exact hd.elim
    · exact hd.elim
theorem ok_sliceU {t e : TypeId} {x : Operand} {lo hi : Option Operand} {vl vh : Option Value} {b f l c p q : Nat} {ei : TypeInfo} (ho : o.op = .slice t x lo hi none) (hx : EvTo x st (uV (some ⟨b, f, l, c, none⟩))) (hl : OptTo st lo vl) (hh : OptTo st hi vh) (h1 : P.underlying t = some (.slice e)) (h2 : P.info? e = some ei)
    (hq : Bnd vh l c q) (hp : Bnd vl 0 q p) : OKs P o st (uV (some ⟨b, f + (if c = p then 0 else p * ei.size), q - p, c - p, none⟩)) [] [] := fun st₂ hs _ _ =>
  eff_pure fun X ρ a w R => by
    have hx' : a.eval x = .slice (some ⟨b, f, none⟩) l c := by rw [← ((hs x (by simp [ho, Op.operands]) _ hx).den R).self, uV_den]; rfl
    have e1 := opt_den R hl (fun y hy => hs y (by cases hy; simp [ho, Op.operands]))
    have e2 := opt_den R hh (fun y hy => hs y (by cases hy; simp [ho, Op.operands]))
    refine ⟨uR (some ⟨b, f + (if c = p then 0 else p * ei.size), q - p, c - p, none⟩), ?_, fun r _ => uV_den _ r⟩
    simp only [execOp, ho, hx', e1, e2, Instr.sliceAt, Instr.slice, underlying, Sem.run_bind, run_program, Result.andThen_ok, h1, Sem.run_pure, Option.map_none, run_bounds hq hp, run_sizeOf h2, Option.map_some, add_at, Nat.add_assoc]
    by_cases hc : c = p <;> simp [hc, uR]
theorem ok_sliceN {t e : TypeId} {x : Operand} {lo hi : Option Operand} {vl vh : Option Value} {ei : TypeInfo} (ho : o.op = .slice t x lo hi none) (hx : EvTo x st (uV none)) (hl : OptTo st lo vl) (hh : OptTo st hi vh) (h1 : P.underlying t = some (.slice e)) (h2 : P.info? e = some ei)
    (hq : Bnd vh 0 0 0) (hp : Bnd vl 0 0 0) : OKs P o st (uV none) [] [] := fun st₂ hs _ _ =>
  eff_pure fun X ρ a w R => by
    have hx' : a.eval x = .slice none 0 0 := by rw [← ((hs x (by simp [ho, Op.operands]) _ hx).den R).self, uV_den]; rfl
    have e1 := opt_den R hl (fun y hy => hs y (by cases hy; simp [ho, Op.operands]))
    have e2 := opt_den R hh (fun y hy => hs y (by cases hy; simp [ho, Op.operands]))
    refine ⟨uR none, ?_, fun r _ => uV_den _ r⟩
    simp only [execOp, ho, hx', e1, e2, Instr.sliceAt, Instr.slice, underlying, Sem.run_bind, run_program, Result.andThen_ok, h1, Sem.run_pure, Option.map_none, run_bounds hq hp, run_sizeOf h2, Option.map_some]
    simp [uR]
end
open Classical in
theorem rv_end [ZW] {ss : List Piece} {h : List (Option Chunk)} {v : Value} {K : Value → List (Option Chunk) → Prop} (i k : Nat) {R : List Rw} {d : Chunk} (e : TypeId) (z n c : Nat) (xs : List Value) (hi : h[i]? = some (some (rvC R))) (hk : h[k]? = some (some d)) (hd : d.own = true) (hdx : d.x = Ext.none) (hks : ss.length ≤ k)
    (hlen : xs.length = n * z) (hnc : n ≤ c) (hpos : 0 < xs.length) (hle : xs.length ≤ d.n) (hdf : ∀ j u, xs[j]? = some u → ∀ r, den1 r (d.f j) = u) (h' : Nat → Nat → List (Option Chunk))
    (hi' : ∀ b o, (h' b o)[i]? = some (some (rvC (⟨false, e, z, b, o, c, n, xs⟩ :: R)))) (hh : ∀ b o j d', j ≠ i → (h' b o)[j]? = some (some d') → j ≠ k ∧ ∃ c0, h[j]? = some (some c0) ∧ d'.own = c0.own ∧ d'.n = c0.n ∧ d'.x = c0.x ∧ ∀ q, q < d'.n → ∀ ρ ρ' : Nat → Nat × Nat, ρ k = (b, o) → AgreeOn (Fil (h' b o)) ρ ρ' → den1 ρ' (d'.f q) = den1 ρ (c0.f q))
    (hbs : ∀ b o j, j < ss.length → Fil (h' b o) j) (hv : ∀ b o, ∀ ρ ρ' : Nat → Nat × Nat, ρ k = (b, o) → AgreeOn (Fil (h' b o)) ρ ρ' → den ρ' v = den ρ v) (kk : ∀ b o, K v (h' b o)) : N (EndN ss h v K) := N.mk fun X ρ w x Td H hdn => by
  have hik : i ≠ k := fun e' => by
    subst e'
    rw [hi] at hk
    have : d.n = 0 := by
      have := Option.some.inj (Option.some.inj hk); rw [← this]
    omega
  let r : Rw := ⟨false, e, z, (ρ k).1, (ρ k).2, c, n, xs⟩
  have hρ : ρ k = (r.b, r.o) := rfl
  obtain ⟨S, E⟩ := H.ext
  have V : RvOK R (ρ i) (S i) w := E.inv i _ hi
  have hm : May X (ρ k).1 := Td.may H hk hd (by omega) hks
  refine ⟨v, h' r.b r.o, ρ, ?_, fun r' hr' => ?_, kk _ _⟩
  · have get : ∀ j f, (h' r.b r.o)[j]? = some (some f) → (j = i ∧ f = rvC (r :: R)) ∨ (j ≠ i ∧ j ≠ k ∧ ∃ c0, h[j]? = some (some c0) ∧ f.own = c0.own ∧ f.n = c0.n ∧ f.x = c0.x ∧ ∀ q, q < f.n → ∀ ρ', AgreeOn (Fil (h' r.b r.o)) ρ ρ' → den1 ρ' (f.f q) = den1 ρ (c0.f q)) := fun j f hf => by
      by_cases e1 : j = i
      · subst e1; rw [hi'] at hf; exact .inl ⟨rfl, (Option.some.inj (Option.some.inj hf)).symm⟩
      · obtain ⟨g1, c0, g2, g3, g4, g5, g6⟩ := hh r.b r.o j f e1 hf
        exact .inr ⟨e1, g1, c0, g2, g3, g4, g5, fun q hq ρ' ha => g6 q hq ρ ρ' hρ ha⟩
    have noS : ∀ b, ¬ S k b := by have := E.inv k d hk; rw [hdx] at this; exact this
    refine ⟨H.evo, fun j hj => ⟨hbs r.b r.o j (by have := Td.n0; omega), (H.base j hj).2⟩, fun j f hf => ?_, fun j f hf q hq => ?_, fun j f hf ho q hq => ?_, fun j f l g hf ho hl hne => ?_, fun j b => (j = i ∧ (S i b ∨ b = (ρ k).1)) ∨ (j ≠ i ∧ S j b), fun j f hf => ?_, fun j f b hf hS => ?_, fun j f b l g hf hS hl hne => ?_⟩
    · rcases get j f hf with ⟨rfl, rfl⟩ | ⟨e1, e2, c0, g2, _⟩
      · exact H.lt _ _ hi
      · exact H.lt _ _ g2
    · rcases get j f hf with ⟨rfl, rfl⟩ | ⟨e1, e2, c0, g2, g3, g4, g5, g6⟩
      · exact absurd hq (Nat.not_lt_zero q)
      · obtain ⟨y, hy1, hy2⟩ := H.cell _ _ g2 q (by omega)
        exact ⟨y, hy1, fun r' hr' => by rw [g6 q hq r' hr']; exact hy2 ρ (AgreeOn.refl _ _)⟩
    · rcases get j f hf with ⟨rfl, rfl⟩ | ⟨e1, e2, c0, g2, g3, g4, g5, g6⟩
      · exact absurd hq (Nat.not_lt_zero q)
      · exact H.own _ _ g2 (by rw [← g3]; exact ho) q (by omega)
    · rcases get j f hf with ⟨rfl, rfl⟩ | ⟨e1, e2, c0, g2, g3, _⟩ <;> rcases get l g hl with ⟨rfl, rfl⟩ | ⟨e3, e4, c1, p2, p3, _⟩
      · exact absurd rfl hne
      · exact H.sep _ _ _ _ hi rfl p2 hne
      · exact H.sep _ _ _ _ g2 (by rw [← g3]; exact ho) hi hne
      · exact H.sep _ _ _ _ g2 (by rw [← g3]; exact ho) p2 hne
    · rcases get j f hf with ⟨rfl, rfl⟩ | ⟨e1, e2, c0, g2, g3, g4, g5, g6⟩
      · refine ⟨?_, fun r' hr' => ?_, fun W hW => ?_⟩
        rotate_left 2
        · obtain ⟨b1, b2, b3⟩ := V.base W hW
          exact ⟨b1, b2, fun b hb => ⟨.inl ⟨rfl, .inl (b3 b hb).1⟩, (b3 b hb).2⟩⟩
        · rw [List.map_cons, List.nodup_cons]
          refine ⟨fun hm' => ?_, V.nodup⟩
          obtain ⟨q, hq, e'⟩ := List.mem_map.1 hm'
          have e' : q.b = (ρ k).1 := e'
          exact (E.apart _ _ _ _ _ hi (V.at_ q hq).1 hk (Ne.symm hik)).1 e'.symm
        · rcases List.mem_cons.1 hr' with rfl | hr'
          · refine ⟨.inl ⟨rfl, .inr rfl⟩, ⟨H.lt _ _ hk, hlen, hnc, fun q hq => ?_, fun h => by cases h⟩, fun W hW => ?_⟩
            rotate_left
            · rcases Nat.lt_or_ge (ρ k).1 W.heap.size with hlt | hge
              · exact absurd rfl (E.apart _ _ _ _ _ hi ((V.base W hW).2.2 _ hlt).1 hk (Ne.symm hik)).1
              · exact hge
            have hq : q < xs.length := hq
            obtain ⟨y, hy1, hy2⟩ := H.cell _ _ hk q (by omega)
            show w.cell? ⟨(ρ k).1, (ρ k).2 + q, none⟩ = xs[q]?
            rw [hy1, ← hy2 ρ (AgreeOn.refl _ _), hdf q xs[q] (List.getElem?_eq_getElem hq), List.getElem?_eq_getElem hq]
          · exact ⟨.inl ⟨rfl, .inl (V.at_ r' hr').1⟩, (V.at_ r' hr').2.1, (V.at_ r' hr').2.2⟩
      · have : (fun b => (j = i ∧ (S i b ∨ b = (ρ k).1)) ∨ (j ≠ i ∧ S j b)) = S j := by
          funext b; exact propext ⟨fun h => by rcases h with h | h; exact absurd h.1 e1; exact h.2, fun h => .inr ⟨e1, h⟩⟩
        rw [this, g5]; exact E.inv _ _ g2
    · rcases hS with ⟨rfl, hS⟩ | ⟨e1, hS⟩
      · rcases get j f hf with ⟨_, rfl⟩ | ⟨h1, _⟩
        · refine ⟨.inl rfl, ?_⟩
          rcases hS with hS | rfl
          · exact (E.mine _ _ _ hi hS).2
          · exact ⟨H.lt _ _ hk, hm⟩
        · exact absurd rfl h1
      · rcases get j f hf with ⟨h1, _⟩ | ⟨_, e2, c0, g2, g3, g4, g5, g6⟩
        · exact absurd h1 e1
        · rw [g4]; exact E.mine _ _ _ g2 hS
    · rcases hS with ⟨rfl, hS⟩ | ⟨e1, hS⟩
      · rcases get l g hl with ⟨h1, _⟩ | ⟨e3, e4, c1, p2, _⟩
        · exact absurd h1 hne
        · rcases hS with hS | rfl
          · obtain ⟨a1, a2⟩ := E.apart _ _ _ _ _ hi hS p2 hne
            refine ⟨a1, fun h => ?_⟩
            rcases h with h | h
            · exact e3 h.1
            · exact a2 h.2
          · refine ⟨fun hs => H.sep k d l c1 hk hd p2 (Ne.symm e4) hs.symm, fun h => ?_⟩
            · rcases h with h | h
              · exact e3 h.1
              · exact (E.apart _ _ _ _ _ p2 h.2 hk (Ne.symm e4)).1 rfl
      · rcases get j f hf with ⟨h1, _⟩ | ⟨_, e2, c0, g2, _⟩
        · exact absurd h1 e1
        · rcases get l g hl with ⟨rfl, _⟩ | ⟨e3, e4, c1, p2, _⟩
          · obtain ⟨a1, a2⟩ := E.apart _ _ _ _ _ g2 hS hi hne
            refine ⟨a1, fun h => ?_⟩
            rcases h with h | h
            · rcases h.2 with h | h
              · exact a2 h
              · exact (E.apart _ _ _ _ _ g2 hS hk (Ne.symm e2)).1 h.symm
            · exact h.1 rfl
          · obtain ⟨a1, a2⟩ := E.apart _ _ _ _ _ g2 hS p2 hne
            refine ⟨a1, fun h => ?_⟩
            rcases h with h | h
            · exact e3 h.1
            · exact a2 h.2
  · rw [hv r.b r.o ρ r' hρ hr']; exact hdn.self
end Go.Proofs.YtimccfnlcnlffaaGreat.Sx


namespace Go.Proofs.YtimccfnlcnlffaaGreat
def bw (i : Nat) : Nat := 4294967296 ^ i
theorem bw_succ (i : Nat) : bw (i + 1) = bw i * 4294967296 := Nat.pow_succ ..
theorem bw_pos (i : Nat) : 0 < bw i := Nat.pow_pos (by decide)
theorem bw_zero : bw 0 = 1 := rfl
theorem bw_add (i j : Nat) : bw (i + j) = bw i * bw j := Nat.pow_add ..
theorem bw_mono {i j : Nat} (h : i ≤ j) : bw i ≤ bw j := Nat.pow_le_pow_right (by decide) h
def lm (v j : Nat) : Nat := v / bw j % 4294967296
theorem lm_lt (v j : Nat) : lm v j < 4294967296 := Nat.mod_lt _ (by decide)
theorem lm_big {v j : Nat} (h : v < bw j) : lm v j = 0 := by unfold lm; rw [Nat.div_eq_of_lt h]
theorem up_word (v j : Nat) : v / bw j = v / bw (j + 1) * 4294967296 + lm v j := by
  unfold lm
  rw [bw_succ, ← Nat.div_div_eq_div_mul]
  have := Nat.div_add_mod (v / bw j) 4294967296
  omega
theorem low_word (v j : Nat) : v % bw (j + 1) = v % bw j + lm v j * bw j := by
  unfold lm
  rw [bw_succ, Nat.mod_mul, Nat.mul_comm (bw j)]
theorem lm_mod {v i j : Nat} (h : j < i) : lm (v % bw i) j = lm v j := by
  unfold lm
  obtain ⟨d, rfl⟩ : ∃ d, i = j + 1 + d := ⟨i - (j + 1), by omega⟩
  rw [bw_add, bw_succ, Nat.mul_assoc, Nat.mod_mul_right_div_self, Nat.mod_mul_right_mod]
theorem lm_add {v j : Nat} (u : Nat) {i : Nat} (h : j < i) : lm (v + u * bw i) j = lm v j := by
  rw [← lm_mod h (v := v + u * bw i), Nat.add_mul_mod_self_right, lm_mod h]
def nl : Nat → Nat
  | 0 => 0
  | v + 1 => nl ((v + 1) / 4294967296) + 1
decreasing_by exact Nat.div_lt_self (by omega) (by decide)
theorem nl_zero : nl 0 = 0 := by unfold nl; rfl
theorem nl_pos {v : Nat} (h : 0 < v) : nl v = nl (v / 4294967296) + 1 := by
  obtain ⟨u, rfl⟩ : ∃ u, v = u + 1 := ⟨v - 1, by omega⟩
  rw [nl]
theorem nl_le : ∀ {n v : Nat}, nl v ≤ n ↔ v < bw n
  | 0, v => by
    rw [bw_zero]
    rcases Nat.eq_zero_or_pos v with rfl | h
    · rw [nl_zero]; simp
    · rw [nl_pos h]; omega
  | n + 1, v => by
    rcases Nat.eq_zero_or_pos v with rfl | h
    · rw [nl_zero]; exact ⟨fun _ => bw_pos _, fun _ => Nat.zero_le _⟩
    · rw [nl_pos h, bw_succ]
      have ih := nl_le (n := n) (v := v / 4294967296)
      rw [Nat.div_lt_iff_lt_mul (by decide)] at ih
      rw [← ih]; omega
theorem nl_self (v : Nat) : v < bw (nl v) := nl_le.1 (Nat.le_refl _)
theorem nl_eq {v n : Nat} (h1 : v < bw (n + 1)) (h2 : bw n ≤ v) : nl v = n + 1 := by
  have := nl_le.2 h1
  have h3 : ¬ nl v ≤ n := fun h => by have := nl_le.1 h; omega
  omega
theorem nl_zero_iff {v : Nat} : nl v = 0 ↔ v = 0 := by
  constructor
  · intro h
    have := nl_le.1 (Nat.le_of_eq h)
    rw [bw_zero] at this; omega
  · rintro rfl; exact nl_zero
theorem trim_word {v l : Nat} (h : v < bw (l + 1)) : lm v l = 0 ↔ v < bw l := by
  constructor
  · intro h1
    have := up_word v l
    rw [Nat.div_eq_of_lt h, h1] at this
    rcases Nat.lt_or_ge v (bw l) with h2 | h2
    · exact h2
    · have := (Nat.le_div_iff_mul_le (bw_pos l)).2 (by rw [Nat.one_mul]; exact h2)
      omega
  · exact lm_big
theorem add_word (a b i : Nat) :
    let c := (a % bw i + b % bw i) / bw i; let t := c + lm a i + lm b i
    lm (a + b) i = t % 4294967296 ∧ (a % bw (i + 1) + b % bw (i + 1)) / bw (i + 1) = t / 4294967296 ∧ c ≤ 1 := by
  intro c t
  have hp := bw_pos i
  have hc : c ≤ 1 := by
    have h1 := Nat.mod_lt a hp
    have h2 := Nat.mod_lt b hp
    have : c < 2 := (Nat.div_lt_iff_lt_mul hp).2 (by omega)
    omega
  have he : (a + b) / bw i = c + a / bw i + b / bw i := by
    have h1 := Nat.div_add_mod a (bw i)
    have h2 := Nat.div_add_mod b (bw i)
    have h3 : a + b = (a % bw i + b % bw i) + (a / bw i + b / bw i) * bw i := by
      rw [Nat.add_mul, Nat.mul_comm (a / bw i), Nat.mul_comm (b / bw i)]; omega
    rw [h3, Nat.add_mul_div_right _ _ hp]; omega
  refine ⟨?_, ?_, hc⟩
  · show (a + b) / bw i % 4294967296 = (c + a / bw i % 4294967296 + b / bw i % 4294967296) % 4294967296
    rw [he]; omega
  · have h1 : (a % bw (i + 1) + b % bw (i + 1)) = (a % bw i + b % bw i) + (lm a i + lm b i) * bw i := by
      rw [low_word, low_word, Nat.add_mul]; omega
    rw [h1, bw_succ, ← Nat.div_div_eq_div_mul, Nat.add_mul_div_right _ _ hp]
    congr 1
    show c + _ = _
    omega
end Go.Proofs.YtimccfnlcnlffaaGreat


namespace Go.Proofs.YtimccfnlcnlffaaGreat
open Go Go.RowKit Sx
theorem i64n (n : Int) (h0 : -9223372036854775808 ≤ n) (h1 : n < 9223372036854775808) : IntKind.i64.wrap n = n := by rw [IntKind.wrap_i64]; omega
theorem re_eqn {ix : List (Nat × Nat)} {v u : Value} (h : v = u) (hp : plain3 v = true) : Re ix v u := by subst h; exact .plain hp
theorem inteq {k : IntKind} {a b : Int} (h : a = b) : Value.int k a = .int k b := by rw [h]
theorem re_sl {ix : List (Nat × Nat)} {i k l l' c : Nat} (h : ixK ix k = some i) (e : l = l') : Re ix (.slice (some ⟨i, 0, some 0⟩) l c) (.slice (some ⟨k, 0, some 0⟩) l' c) := by subst e; exact .one (.slice h)
theorem MakeN.mk1 {a b : Int} {bytes size : Nat} {K : Nat → Nat → Prop} {K0 : Prop} (n m : Nat) (ha : a = (n : Nat)) (hb : b = (n : Nat)) (h1 : bytes * n ≤ 281474976710656) (h2 : n ≤ 9223372036854775807) (hm : m = n * size) (k : K n m) : N (MakeN a b bytes size K K0) := N.mk (.inl ⟨n, m, ha, hb, h1, h2, hm, k⟩)
abbrev numC (o : Bool) (m v : Nat) : Chunk := ⟨o, m, [(0, m, .agg ⟨segL m (fun j => .int .u32 ((lm v j : Nat) : Int))⟩)]⟩
def IsNum (c : Chunk) (m v : Nat) : Prop := c.n = m ∧ ∀ j, j < m → c.f j = .int .u32 ((lm v j : Nat) : Int)
theorem isNum (o : Bool) (m v : Nat) : IsNum (numC o m v) m v := ⟨rfl, fun j hj => seg_cell hj⟩
theorem num_re {ix : List (Nat × Nat)} {c : Chunk} {o : Bool} {m v : Nat} (hc : IsNum c m v) : ChunkRe ix c (numC o m v) := fun j hj => by
  have hj : j < m := hj
  rw [seg_cell hj, hc.2 j hj]; exact .plain rfl
theorem reads_num {o : Bool} {m v p q : Nat} (h : p < m) (e : q = p) : Reads (numC o m v) q false 1 (.int .u32 ((lm v p : Nat) : Int)) := by
  subst e; exact reads_seg1 h rfl rfl
theorem N.bnd {lo hi : Option Value} {len cap : Nat} {K : Nat → Nat → Nat → Prop} (p q s : Nat) (h1 : Bnd hi len cap q) (h2 : Bnd lo 0 q p) (k : K p q s) : N (BndN lo hi len cap K) := N.mk ⟨p, q, s, h1, h2, k⟩
theorem sl_cut {i m x y : Nat} (h : y = x) : Value.slice (some ⟨i, 0 + (if m = 0 then 0 else 0 * 1), some 0⟩) (y - 0) (m - 0) = .slice (some ⟨i, 0, some 0⟩) x m := by
  subst h; simp
theorem cTrim (v m l i : Nat) (o : Chunk) (h : List (Option Chunk)) (hi : h[i]? = some (some o)) (hin : IsNum o m v) (hl : l ≤ m) (hm : m ≤ 1000000) (hv : v < bw l) :
    CallOK Tryz.prog 94 [.slice (some ⟨i, 0, some 0⟩) l m] h (.slice (some ⟨i, 0, some 0⟩) (nl v) m) [] [i] := by
  refine call_sub (G := tys) [⟨i, _, numC false m v, ⟨false, 0, []⟩⟩] [] [.slice (some ⟨0, 0, some 0⟩) l m] tysOK mixed Tryz.func94 (by rfl) (Tryz.call94) ⟨hi, trivial⟩ ⟨⟨fun h => (by cases h), Nat.le_of_eq hin.1.symm, num_re hin⟩, trivial⟩ (by simp [Apart]) trivial ⟨.slice rfl, trivial⟩ ?_
  repeat' (refine N.go ?_; first | with_reducible (first | refine N.obl (by decide) ?_ | refine N.eq ?_ | refine N.obl rfl ?_ | refine N.obl ⟨by kernel_rfl, by kernel_rfl⟩ ?_ | refine N.alt ?_ | refine N.forkT ?_ | refine N.forkF ?_) | fail)
  refine N.go ?_
  refine N.loop (α := Nat) (fun x => x ≤ l ∧ v < bw x) (fun x => x) (fun x => [(0, .slice (some ⟨0, 0, some 0⟩) x m)]) (fun _ => []) l ⟨Nat.le_refl _, hv⟩ ?_ ?_
  · repeat (refine N.go ?_; first | exact N.true | with_reducible (first | refine N.obl rfl ?_ | refine N.obl (ChunkLe.refl _) ?_) | refine N.obl (int_i64 (by rw [IntWalk.i64_in _ (by omega)]; rfl)) ?_ |  fail_if_success skip)
  · intro x hx
    obtain ⟨x1, x2⟩ := hx
    rcases Nat.eq_zero_or_pos x with rfl | hp
    · have hv0 : v = 0 := by rw [bw_zero] at x2; omega
      subst hv0
      repeat' (refine N.go ?_; first | with_reducible (first | refine N.obl (by decide) ?_ | refine N.eq ?_ | refine N.obl rfl ?_ | refine N.obl ⟨by kernel_rfl, by kernel_rfl⟩ ?_ | refine N.alt ?_ | refine N.forkT ?_ | refine N.forkF ?_) | refine N.forkNo (by decide) ?_ | refine N.forkYes (by decide) ?_ | refine N.obl (re_sl (by rfl) nl_zero) ?_ | refine N.obl trivial ?_ | exact N.true | fail)
    · obtain ⟨y, rfl⟩ : ∃ y, x = y + 1 := ⟨x - 1, by omega⟩
      have e1 : IntKind.i64.wrap (((y + 1 : Nat) : Int) - 1) = (y : Int) := by rw [i64n _ (by omega) (by omega)]; omega
      by_cases h0 : lm v y = 0
      · have x3 := (trim_word x2).1 h0
        repeat' (refine N.go ?_; first | with_reducible (first | refine N.obl (by decide) ?_ | refine N.eq ?_ | refine N.obl rfl ?_ | refine N.obl ⟨by kernel_rfl, by kernel_rfl⟩ ?_ | refine N.alt ?_ | refine N.forkT ?_ | refine N.forkF ?_) | refine N.idx y 1 e1 (by omega) ?_ | refine N.load _ (reads_num (p := y) (by omega) (by omega)) ?_ | refine N.forkYes (by rw [h0]; rfl) ?_ | refine N.forkYes (by rw [decide_eq_true_eq]; omega) ?_ | refine N.bnd 0 y 0 ⟨e1, by omega⟩ rfl ?_ | fail)
        refine N.go ?_
        refine N.next y ⟨⟨by omega, x3⟩, by omega⟩ ?_
        repeat (refine N.go ?_; first | exact N.true | with_reducible (first | refine N.obl rfl ?_ | refine N.obl (ChunkLe.refl _) ?_) | refine N.obl (int_i64 (by rw [IntWalk.i64_in _ (by omega)]; rfl)) ?_ | refine N.obl (sl_cut rfl) ?_ |  fail_if_success skip)
      · have x3 : nl v = y + 1 := nl_eq x2 (by rcases Nat.lt_or_ge v (bw y) with h | h; exact absurd (lm_big h) h0; exact h)
        repeat' (refine N.go ?_; first | with_reducible (first | refine N.obl (by decide) ?_ | refine N.eq ?_ | refine N.obl rfl ?_ | refine N.obl ⟨by kernel_rfl, by kernel_rfl⟩ ?_ | refine N.alt ?_ | refine N.forkT ?_ | refine N.forkF ?_) | refine N.idx y 1 e1 (by omega) ?_ | refine N.load _ (reads_num (p := y) (by omega) (by omega)) ?_ | refine N.forkNo (by rw [beq_eq_false_iff_ne]; omega) ?_ | refine N.forkYes (by rw [decide_eq_true_eq]; omega) ?_ | refine N.obl (re_sl (by rfl) x3) ?_ | refine N.obl trivial ?_ | exact N.true | fail)
def bn : Nat → Nat
  | 0 => 0
  | v + 1 => bn ((v + 1) / 2) + 1
decreasing_by exact Nat.div_lt_self (by omega) (by decide)
theorem bn_zero : bn 0 = 0 := by unfold bn; rfl
theorem bn_pos {v : Nat} (h : 0 < v) : bn v = bn (v / 2) + 1 := by
  obtain ⟨u, rfl⟩ : ∃ u, v = u + 1 := ⟨v - 1, by omega⟩
  rw [bn]
theorem bn_le : ∀ (n v : Nat), v < 2 ^ n → bn v ≤ n
  | 0, v, h => by
    obtain rfl : v = 0 := by simpa using h
    rw [bn_zero]; exact Nat.le_refl _
  | n + 1, v, h => by
    rcases Nat.eq_zero_or_pos v with rfl | hv
    · rw [bn_zero]; exact Nat.zero_le _
    · rw [bn_pos hv]
      have := bn_le n (v / 2) (by rw [Nat.pow_succ] at h; omega)
      omega
theorem fd1 (n : Nat) : ((n : Nat) : Int).fdiv (2 ^ sh 1 IntKind.u32) = ((n / 2 : Nat) : Int) := by
  rw [show sh 1 IntKind.u32 = 1 from by decide, Int.fdiv_eq_ediv_of_nonneg _ (by decide)]; omega
theorem fd32 (n : Nat) : ((n : Nat) : Int).fdiv (2 ^ sh 32 IntKind.u64) = ((n / 4294967296 : Nat) : Int) := by
  rw [show sh 32 IntKind.u64 = 32 from by decide, Int.fdiv_eq_ediv_of_nonneg _ (by decide)]; omega
def bitn (v : Nat) : Nat := if v = 0 then 0 else 32 * (nl v - 1) + bn (lm v (nl v - 1))
theorem bitn_le (v : Nat) : bitn v ≤ 32 * nl v := by
  unfold bitn
  split
  · exact Nat.zero_le _
  · rename_i h
    have h0 : nl v ≠ 0 := fun e => h (nl_zero_iff.1 e)
    have := bn_le 32 (lm v (nl v - 1)) (lm_lt v _)
    omega
theorem cBits32 (v m i : Nat) (o : Chunk) (h : List (Option Chunk)) (hi : h[i]? = some (some o)) (hin : IsNum o m v) (hl : nl v ≤ m) (hm : m ≤ 1000000) :
    CallOK Tryz.prog 95 [.slice (some ⟨i, 0, some 0⟩) (nl v) m] h (.int .i64 (bitn v : Nat)) [] [i] := by
  refine call_sub (G := tys) [⟨i, _, numC false m v, ⟨false, 0, []⟩⟩] [] [.slice (some ⟨0, 0, some 0⟩) (nl v) m] tysOK mixed Tryz.func95 (by rfl) (Tryz.call95) ⟨hi, trivial⟩ ⟨⟨fun h => (by cases h), Nat.le_of_eq hin.1.symm, num_re hin⟩, trivial⟩ (by simp [Apart]) trivial ⟨.slice rfl, trivial⟩ ?_
  rcases Nat.eq_zero_or_pos v with rfl | hp
  · rw [nl_zero]
    repeat' (refine N.go ?_; first | with_reducible (first | refine N.obl (by decide) ?_ | refine N.eq ?_ | refine N.obl rfl ?_ | refine N.obl ⟨by kernel_rfl, by kernel_rfl⟩ ?_ | refine N.alt ?_ | refine N.forkT ?_ | refine N.forkF ?_) | refine N.forkNo (by decide) ?_ | refine N.forkYes (by decide) ?_ | refine N.obl (re_eqn (inteq (by decide)) rfl) ?_ | refine N.obl trivial ?_ | exact N.true | fail)
  · have h0 : nl v ≠ 0 := fun e => by have := nl_zero_iff.1 e; omega
    have hbv : bitn v = 32 * (nl v - 1) + bn (lm v (nl v - 1)) := by unfold bitn; rw [if_neg (by omega)]
    have htop := lm_lt v (nl v - 1)
    obtain ⟨y, hy⟩ : ∃ y, nl v = y + 1 := ⟨nl v - 1, by omega⟩
    rw [hy] at hbv htop
    rw [show y + 1 - 1 = y from by omega] at hbv htop
    rw [hbv, hy]
    rw [hy] at hl
    generalize hT : lm v y = T at *
    have hbT := bn_le 32 T htop
    have e1 : IntKind.i64.wrap (((y + 1 : Nat) : Int) - 1) = (y : Int) := by rw [i64n _ (by omega) (by omega)]; omega
    repeat' (refine N.go ?_; first | with_reducible (first | refine N.obl (by decide) ?_ | refine N.eq ?_ | refine N.obl rfl ?_ | refine N.obl ⟨by kernel_rfl, by kernel_rfl⟩ ?_ | refine N.alt ?_ | refine N.forkT ?_ | refine N.forkF ?_) | refine N.forkNo (by rw [beq_eq_false_iff_ne]; omega) ?_ | refine N.idx y 1 e1 (by omega) ?_ | refine N.load _ (reads_num (p := y) (by omega) (by omega)) ?_ | fail)
    refine N.go ?_
    refine N.loop (α := Nat) (fun x => x < 4294967296 ∧ bn x ≤ bn T) (fun x => x) (fun x => [(3, .int .i64 ((32 * y + (bn T - bn x) : Nat) : Int)), (4, .int .u32 (x : Int))]) (fun _ => []) T ⟨htop, Nat.le_refl _⟩ ?_ ?_
    · repeat (refine N.go ?_; first | exact N.true | with_reducible (first | refine N.obl rfl ?_ | refine N.obl (ChunkLe.refl _) ?_) | refine N.obl (int_i64 (by rw [IntWalk.i64_in _ (by omega)]; rfl)) ?_ | refine N.obl (inteq (by rw [e1, i64n _ (by omega) (by omega)]; omega)) ?_ | refine N.obl (inteq (by rw [hT])) ?_ |  fail_if_success skip)
    · intro x hx
      obtain ⟨x1, x2⟩ := hx
      rcases Nat.eq_zero_or_pos x with rfl | hp
      · repeat' (refine N.go ?_; first | with_reducible (first | refine N.obl (by decide) ?_ | refine N.eq ?_ | refine N.obl rfl ?_ | refine N.obl ⟨by kernel_rfl, by kernel_rfl⟩ ?_ | refine N.alt ?_ | refine N.forkT ?_ | refine N.forkF ?_) | refine N.forkNo (by decide) ?_ | refine N.forkYes (by decide) ?_ | refine N.obl (re_eqn (inteq (by rw [bn_zero]; omega)) rfl) ?_ | refine N.obl trivial ?_ | exact N.true | fail)
      · have e2 := bn_pos hp
        repeat' (refine N.go ?_; first | with_reducible (first | refine N.obl (by decide) ?_ | refine N.eq ?_ | refine N.obl rfl ?_ | refine N.obl ⟨by kernel_rfl, by kernel_rfl⟩ ?_ | refine N.alt ?_ | refine N.forkT ?_ | refine N.forkF ?_) | refine N.forkNo (by simp; omega) ?_ | refine N.forkYes (by simp; omega) ?_ | fail)
        refine N.go ?_
        refine N.next (x / 2) ⟨⟨by omega, by omega⟩, by omega⟩ ?_
        repeat (refine N.go ?_; first | exact N.true | with_reducible (first | refine N.obl rfl ?_ | refine N.obl (ChunkLe.refl _) ?_) | refine N.obl (int_i64 (by rw [IntWalk.i64_in _ (by omega)]; rfl)) ?_ | refine N.obl (inteq (fd1 x)) ?_ | refine N.obl (inteq (by rw [i64n _ (by omega) (by omega)]; omega)) ?_ |  fail_if_success skip)
theorem cmp_word {a b y : Nat} (h : a / bw (y + 1) = b / bw (y + 1)) : (lm a y < lm b y → a < b) ∧ (lm a y = lm b y → a / bw y = b / bw y) := by
  have h1 := up_word a y
  have h2 := up_word b y
  refine ⟨fun h3 => ?_, fun h3 => by omega⟩
  have h4 : a / bw y < b / bw y := by omega
  rcases Nat.lt_or_ge a b with h5 | h5
  · exact h5
  · have := Nat.div_le_div_right (c := bw y) h5; omega
theorem nl_lt {a b : Nat} (h : nl a < nl b) : a < b := by
  have h1 := nl_self a
  rcases Nat.lt_or_ge b (bw (nl a)) with h2 | h2
  · have := nl_le.2 h2; omega
  · omega
def cmpN (a b : Nat) : Int := if a < b then -1 else if a = b then 0 else 1
theorem cCmp (a b m q i j : Nat) (o o2 : Chunk) (h : List (Option Chunk)) (hi : h[i]? = some (some o)) (hin : IsNum o m a) (hj : h[j]? = some (some o2)) (hjn : IsNum o2 q b) (hl : nl a ≤ m) (hm : m ≤ 1000000) (hl2 : nl b ≤ q) (hq : q ≤ 1000000) :
    CallOK Tryz.prog 106 [.slice (some ⟨i, 0, some 0⟩) (nl a) m, .slice (some ⟨j, 0, some 0⟩) (nl b) q] h (.int .i64 (cmpN a b)) [] [i, j] := by
  refine call_sub (G := tys) [⟨i, _, numC false m a, ⟨false, 0, []⟩⟩, ⟨j, _, numC false q b, ⟨false, 0, []⟩⟩] [] [.slice (some ⟨0, 0, some 0⟩) (nl a) m, .slice (some ⟨1, 0, some 0⟩) (nl b) q] tysOK mixed Tryz.func106 (by rfl) (Tryz.call106) ⟨hi, hj, trivial⟩ ⟨⟨fun h => (by cases h), Nat.le_of_eq hin.1.symm, num_re hin⟩, ⟨fun h => (by cases h), Nat.le_of_eq hjn.1.symm, num_re hjn⟩, trivial⟩ (by simp [Apart]) trivial ⟨.slice rfl, .slice rfl, trivial⟩ ?_
  by_cases hne : nl a = nl b
  · repeat' (refine N.go ?_; first | with_reducible (first | refine N.obl (by decide) ?_ | refine N.eq ?_ | refine N.obl rfl ?_ | refine N.obl ⟨by kernel_rfl, by kernel_rfl⟩ ?_ | refine N.alt ?_ | refine N.forkT ?_ | refine N.forkF ?_) | refine N.forkNo (by rw [hne]; simp) ?_ | fail)
    refine N.go ?_
    refine N.loop (α := Nat) (fun c => c ≤ nl a ∧ a / bw c = b / bw c) (fun x => x) (fun x => [(5, .int .i64 ((x : Int) - 1))]) (fun _ => []) (nl a) ⟨Nat.le_refl _, by rw [Nat.div_eq_of_lt (nl_self a), hne, Nat.div_eq_of_lt (nl_self b)]⟩ ?_ ?_
    · repeat (refine N.go ?_; first | exact N.true | with_reducible (first | refine N.obl rfl ?_ | refine N.obl (ChunkLe.refl _) ?_) | refine N.obl (int_i64 (by rw [IntWalk.i64_in _ (by omega)]; rfl)) ?_ | refine N.obl (inteq (by rw [i64n _ (by omega) (by omega)])) ?_ |  fail_if_success skip)
    · intro c hc
      obtain ⟨c1, c2⟩ := hc
      rcases Nat.eq_zero_or_pos c with rfl | hp
      · have he : a = b := by rw [bw_zero, Nat.div_one, Nat.div_one] at c2; exact c2
        have hr : cmpN a b = 0 := by unfold cmpN; rw [if_neg (by omega), if_pos he]
        repeat' (refine N.go ?_; first | with_reducible (first | refine N.obl (by decide) ?_ | refine N.eq ?_ | refine N.obl rfl ?_ | refine N.obl ⟨by kernel_rfl, by kernel_rfl⟩ ?_ | refine N.alt ?_ | refine N.forkT ?_ | refine N.forkF ?_) | refine N.forkNo (by decide) ?_ | refine N.forkYes (by decide) ?_ | refine N.forkYes (by rw [decide_eq_true_eq]; omega) ?_ | refine N.forkNo (by rw [decide_eq_false_iff_not]; omega) ?_ | refine N.obl (re_eqn (inteq hr) rfl) ?_ | refine N.obl trivial ?_ | exact N.true | fail)
      · obtain ⟨y, rfl⟩ : ∃ y, c = y + 1 := ⟨c - 1, by omega⟩
        have e1 : (((y + 1 : Nat) : Int) - 1) = (y : Int) := by omega
        have cw := cmp_word c2
        have cw2 := (cmp_word c2.symm).1
        by_cases h1 : lm a y = lm b y
        · repeat' (refine N.go ?_; first | with_reducible (first | refine N.obl (by decide) ?_ | refine N.eq ?_ | refine N.obl rfl ?_ | refine N.obl ⟨by kernel_rfl, by kernel_rfl⟩ ?_ | refine N.alt ?_ | refine N.forkT ?_ | refine N.forkF ?_) | refine N.idx y 1 e1 (by omega) ?_ | refine N.load _ (reads_num (p := y) (by omega) (by omega)) ?_ | refine N.forkYes (by rw [decide_eq_true_eq]; omega) ?_ | refine N.forkNo (by rw [decide_eq_false_iff_not]; omega) ?_ | refine N.forkNo (by rw [h1]; simp) ?_ | fail)
          refine N.go ?_
          refine N.next y ⟨⟨by omega, cw.2 h1⟩, by omega⟩ ?_
          repeat (refine N.go ?_; first | exact N.true | with_reducible (first | refine N.obl rfl ?_ | refine N.obl (ChunkLe.refl _) ?_) | refine N.obl (int_i64 (by rw [IntWalk.i64_in _ (by omega)]; rfl)) ?_ | refine N.obl (inteq (by rw [i64n _ (by omega) (by omega)]; omega)) ?_ |  fail_if_success skip)
        · rcases Nat.lt_or_ge (lm a y) (lm b y) with h2 | h2
          · have hr : cmpN a b = -1 := by unfold cmpN; rw [if_pos (cw.1 h2)]
            repeat' (refine N.go ?_; first | with_reducible (first | refine N.obl (by decide) ?_ | refine N.eq ?_ | refine N.obl rfl ?_ | refine N.obl ⟨by kernel_rfl, by kernel_rfl⟩ ?_ | refine N.alt ?_ | refine N.forkT ?_ | refine N.forkF ?_) | refine N.idx y 1 e1 (by omega) ?_ | refine N.load _ (reads_num (p := y) (by omega) (by omega)) ?_ | refine N.forkYes (by rw [decide_eq_true_eq]; omega) ?_ | refine N.forkNo (by rw [decide_eq_false_iff_not]; omega) ?_ | refine N.forkYes (by simp; omega) ?_ | refine N.forkNo (by simp; omega) ?_ | refine N.obl (re_eqn (inteq hr) rfl) ?_ | refine N.obl trivial ?_ | exact N.true | fail)
          · have := cw2 (by omega)
            have hr : cmpN a b = 1 := by unfold cmpN; rw [if_neg (by omega), if_neg (by omega)]
            repeat' (refine N.go ?_; first | with_reducible (first | refine N.obl (by decide) ?_ | refine N.eq ?_ | refine N.obl rfl ?_ | refine N.obl ⟨by kernel_rfl, by kernel_rfl⟩ ?_ | refine N.alt ?_ | refine N.forkT ?_ | refine N.forkF ?_) | refine N.idx y 1 e1 (by omega) ?_ | refine N.load _ (reads_num (p := y) (by omega) (by omega)) ?_ | refine N.forkYes (by rw [decide_eq_true_eq]; omega) ?_ | refine N.forkNo (by rw [decide_eq_false_iff_not]; omega) ?_ | refine N.forkYes (by simp; omega) ?_ | refine N.forkNo (by simp; omega) ?_ | refine N.obl (re_eqn (inteq hr) rfl) ?_ | refine N.obl trivial ?_ | exact N.true | fail)
  · rcases Nat.lt_or_ge (nl a) (nl b) with h2 | h2
    · have := nl_lt h2
      have hr : cmpN a b = -1 := by unfold cmpN; rw [if_pos (by omega)]
      repeat' (refine N.go ?_; first | with_reducible (first | refine N.obl (by decide) ?_ | refine N.eq ?_ | refine N.obl rfl ?_ | refine N.obl ⟨by kernel_rfl, by kernel_rfl⟩ ?_ | refine N.alt ?_ | refine N.forkT ?_ | refine N.forkF ?_) | refine N.forkYes (by rw [decide_eq_true_eq]; omega) ?_ | refine N.forkNo (by rw [decide_eq_false_iff_not]; omega) ?_ | refine N.forkYes (by simp; omega) ?_ | refine N.forkNo (by simp; omega) ?_ | refine N.obl (re_eqn (inteq hr) rfl) ?_ | refine N.obl trivial ?_ | exact N.true | fail)
    · have := nl_lt (show nl b < nl a by omega)
      have hr : cmpN a b = 1 := by unfold cmpN; rw [if_neg (by omega), if_neg (by omega)]
      repeat' (refine N.go ?_; first | with_reducible (first | refine N.obl (by decide) ?_ | refine N.eq ?_ | refine N.obl rfl ?_ | refine N.obl ⟨by kernel_rfl, by kernel_rfl⟩ ?_ | refine N.alt ?_ | refine N.forkT ?_ | refine N.forkF ?_) | refine N.forkYes (by rw [decide_eq_true_eq]; omega) ?_ | refine N.forkNo (by rw [decide_eq_false_iff_not]; omega) ?_ | refine N.forkYes (by simp; omega) ?_ | refine N.forkNo (by simp; omega) ?_ | refine N.obl (re_eqn (inteq hr) rfl) ?_ | refine N.obl trivial ?_ | exact N.true | fail)
end Go.Proofs.YtimccfnlcnlffaaGreat


namespace Go.Proofs.YtimccfnlcnlffaaGreat
open Go Go.RowKit Sx
theorem re_big {ix : List (Nat × Nat)} {i k l l' c : Nat} {r b : Bool} (h : ixK ix k = some i) (e : b = r) (e2 : l = l') : Re ix (.agg ⟨[.bool r, .bool false, .slice (some ⟨i, 0, some 0⟩) l c]⟩) (.agg ⟨[.bool b, .bool false, .slice (some ⟨k, 0, some 0⟩) l' c]⟩) := by
  subst e e2; exact .one (.agg ⟨.plain rfl, .plain rfl, .slice h, trivial⟩)
theorem cMade32 (v m l i : Nat) (s r : Bool) (hr : r = (s && decide (0 < v))) (o : Chunk) (h : List (Option Chunk)) (hi : h[i]? = some (some o)) (hin : IsNum o m v) (hl : l ≤ m) (hm : m ≤ 31) (hv : v < bw l) :
    CallOK Tryz.prog 72 [.bool s, .slice (some ⟨i, 0, some 0⟩) l m] h (.agg #[.bool r, .bool false, .slice (some ⟨i, 0, some 0⟩) (nl v) m]) [] [i] := by
  have hn : nl v ≤ l := nl_le.2 hv
  have hb := bitn_le v
  refine call_sub (G := tys) [⟨i, _, numC false m v, ⟨false, 0, []⟩⟩] [] [.bool s, .slice (some ⟨0, 0, some 0⟩) l m] tysOK mixed Tryz.func72 (by rfl) (Tryz.call72) ⟨hi, trivial⟩ ⟨⟨fun h => (by cases h), Nat.le_of_eq hin.1.symm, num_re hin⟩, trivial⟩ (by simp [Apart]) trivial ⟨.plain rfl, .slice rfl, trivial⟩ ?_
  cases s with
  | false =>
    rw [Bool.false_and] at hr; subst hr
    repeat' (refine N.go ?_; first | with_reducible (first | refine N.obl (by decide) ?_ | refine N.eq ?_ | refine N.obl rfl ?_ | refine N.obl ⟨by kernel_rfl, by kernel_rfl⟩ ?_ | refine N.alt ?_ | refine N.forkT ?_ | refine N.forkF ?_) | refine N.call (cTrim v m l _ _ _ (by rfl) (isNum _ _ _) hl (by omega) hv) ?_ | refine N.call (cBits32 v m _ _ _ (by rfl) (isNum _ _ _) (by omega) (by omega)) ?_ | refine N.forkNo (by decide) ?_ | refine N.forkYes (by decide) ?_ | refine N.forkYes (by rw [decide_eq_true_eq]; omega) ?_ | refine N.forkNo (by rw [decide_eq_false_iff_not]; omega) ?_ | refine N.obl (.one (.agg ⟨.plain (by rfl), .plain rfl, .slice (by rfl), trivial⟩)) ?_ | refine N.obl trivial ?_ | exact N.true | fail)
  | true =>
    rw [Bool.true_and] at hr
    rcases Nat.eq_zero_or_pos v with hz | hp
    · have hr : r = false := by rw [hr, hz]; rfl
      subst hr
      have h0 : nl v = 0 := nl_zero_iff.2 hz
      repeat' (refine N.go ?_; first | with_reducible (first | refine N.obl (by decide) ?_ | refine N.eq ?_ | refine N.obl rfl ?_ | refine N.obl ⟨by kernel_rfl, by kernel_rfl⟩ ?_ | refine N.alt ?_ | refine N.forkT ?_ | refine N.forkF ?_) | refine N.call (cTrim v m l _ _ _ (by rfl) (isNum _ _ _) hl (by omega) hv) ?_ | refine N.call (cBits32 v m _ _ _ (by rfl) (isNum _ _ _) (by omega) (by omega)) ?_ | refine N.forkNo (by decide) ?_ | refine N.forkYes (by decide) ?_ | refine N.forkYes (by rw [decide_eq_true_eq]; omega) ?_ | refine N.forkNo (by rw [decide_eq_false_iff_not]; omega) ?_ | refine N.obl (re_big (by rfl) (by rw [decide_eq_false_iff_not]; omega) rfl) ?_ | refine N.obl trivial ?_ | exact N.true | fail)
    · rw [decide_eq_true hp] at hr
      subst hr
      have h0 : nl v ≠ 0 := fun e => by have := nl_zero_iff.1 e; omega
      repeat' (refine N.go ?_; first | with_reducible (first | refine N.obl (by decide) ?_ | refine N.eq ?_ | refine N.obl rfl ?_ | refine N.obl ⟨by kernel_rfl, by kernel_rfl⟩ ?_ | refine N.alt ?_ | refine N.forkT ?_ | refine N.forkF ?_) | refine N.call (cTrim v m l _ _ _ (by rfl) (isNum _ _ _) hl (by omega) hv) ?_ | refine N.call (cBits32 v m _ _ _ (by rfl) (isNum _ _ _) (by omega) (by omega)) ?_ | refine N.forkNo (by decide) ?_ | refine N.forkYes (by decide) ?_ | refine N.forkYes (by rw [decide_eq_true_eq]; omega) ?_ | refine N.forkNo (by rw [decide_eq_false_iff_not]; omega) ?_ | refine N.obl (re_big (by rfl) (by rw [decide_eq_true_eq]; omega) rfl) ?_ | refine N.obl trivial ?_ | exact N.true | fail)
theorem two_words {n : Nat} (h : n < 18446744073709551616) : n < bw 2 ∧ nl n ≤ 2 := by
  have : bw 2 = 18446744073709551616 := by decide
  exact ⟨by omega, nl_le.2 (by omega)⟩
theorem isNum2 {o : Bool} {n : Nat} {x y : Int} (hx : x = ((n % 4294967296 : Nat) : Int)) (hy : y = ((n / 4294967296 % 4294967296 : Nat) : Int)) : IsNum ⟨o, 2, [(0, 2, .agg ⟨[.int .u32 x, .int .u32 y]⟩)]⟩ 2 n := ⟨rfl, fun j hj => by
  subst hx hy
  match j, hj with
  | 0, _ => unfold lm; rw [bw_zero, Nat.div_one]; rfl
  | 1, _ => rfl⟩
theorem post_num {ix : List (Nat × Nat)} {h : List (Option Chunk)} {k m v : Nat} {c : Chunk} (hh : h[k]? = some (some c)) (ho : c.own = true) (hc : IsNum c m v) : PostC ix h k (numC true m v) :=
  ⟨c, hh, fun _ => ho, Nat.le_of_eq hc.1.symm, fun j hj => by
    have hj : j < m := hj
    rw [seg_cell hj, hc.2 j hj]; exact .plain rfl⟩
theorem w32 (n : Nat) : IntKind.u32.wrap (n : Int) = ((n % 4294967296 : Nat) : Int) := by rw [IntKind.wrap_u32]; omega
theorem w64 {n : Nat} (h : n < 18446744073709551616) : IntKind.u64.wrap (n : Int) = (n : Int) := by rw [IntKind.wrap_u64]; omega
theorem cROf (n K : Nat) (h : List (Option Chunk)) (h0 : h[K]? = some none) (hn : n < 9223372036854775808) :
    CallOK Tryz.prog 64 [.int .i64 (n : Int)] h (.agg #[.bool false, .bool false, .slice (some ⟨K, 0, some 0⟩) (nl n) 2]) [(K, numC true 2 n)] [] := by
  have h2 := two_words (n := n) (by omega)
  refine call_sub (G := tys) [] [⟨K, 1, numC true 2 n⟩] [.int .i64 (n : Int)] tysOK mixed Tryz.func64 (by rfl) (Tryz.call64) trivial trivial trivial ⟨⟨h0, rfl, by show 0 < 2; decide, by simp⟩, trivial⟩ ⟨.plain rfl, trivial⟩ ?_
  repeat' (refine N.go ?_; first | with_reducible (first | refine N.obl (by decide) ?_ | refine N.eq ?_ | refine N.obl rfl ?_ | refine N.obl ⟨by kernel_rfl, by kernel_rfl⟩ ?_ | refine N.alt ?_ | refine N.forkT ?_ | refine N.forkF ?_) | refine N.call (cMade32 n 2 2 _ false false rfl _ _ (by rfl) (isNum2 (by rw [w64 (by omega), w32]) (by rw [w64 (by omega), fd32, w32])) (by omega) (by omega) h2.1) ?_ | refine N.forkNo (by decide) ?_ | refine N.forkYes (by decide) ?_ | refine N.forkYes (by rw [decide_eq_true_eq]; omega) ?_ | refine N.forkNo (by rw [decide_eq_false_iff_not]; omega) ?_ | refine N.obl (.one (.agg ⟨.plain (by rfl), .plain rfl, .slice (by rfl), trivial⟩)) ?_ | refine N.obl ⟨⟨Nat.zero_le _, post_num (by rfl) rfl (isNum2 (by rw [w64 (by omega), w32]) (by rw [w64 (by omega), fd32, w32]))⟩, trivial⟩ ?_ | refine N.obl trivial ?_ | exact N.true | fail)
theorem zeros_num {o : Bool} {m : Nat} : ChunkLe (numC o m 0) ⟨o, m, [(0, m, .agg ⟨segL m (repZ 1 (.int .u32 0))⟩)]⟩ := .mk id (Nat.le_refl _) fun j hj => by
  have hj : j < m := hj
  rw [seg_cell hj, seg_cell hj]
  unfold repZ lm
  rw [Nat.mod_one, Nat.zero_div]; rfl
end Go.Proofs.YtimccfnlcnlffaaGreat


namespace Go.Proofs.YtimccfnlcnlffaaGreat
open Go Go.RowKit Sx
theorem lm_up (v i j : Nat) (h : i ≤ j) : lm (v % bw i) j = 0 := lm_big (Nat.lt_of_lt_of_le (Nat.mod_lt _ (bw_pos i)) (bw_mono h))
theorem writes_next {m v i q : Nat} {x : Int} (e : q = i) (h : i < m) (hx : x = ((lm v i : Nat) : Int)) : Writes (numC true m (v % bw i)) q 1 (.int .u32 x) (numC true m (v % bw (i + 1))) := by
  subst e hx
  refine ⟨rfl, by show q + 1 ≤ m; omega, rfl, fun j hj => ?_⟩
  have hj : j < m := hj
  rw [seg_cell hj, seg_cell hj]
  rcases Nat.lt_trichotomy j q with h1 | h1 | h1
  · rw [if_neg (by omega), lm_mod h1, lm_mod (by omega)]
  · subst h1; rw [if_pos (by omega), Nat.sub_self, lm_mod (by omega)]; rfl
  · rw [if_neg (by omega), lm_up _ _ _ (by omega), lm_up _ _ _ (by omega)]
theorem lm_down (v i j : Nat) : lm (v / bw i * bw i) j = if i ≤ j then lm v j else 0 := by
  by_cases h : i ≤ j
  · rw [if_pos h]
    unfold lm
    obtain ⟨d, rfl⟩ : ∃ d, j = i + d := ⟨j - i, by omega⟩
    rw [bw_add, ← Nat.div_div_eq_div_mul, Nat.mul_div_cancel _ (bw_pos i), Nat.div_div_eq_div_mul]
  · rw [if_neg h]
    unfold lm
    obtain ⟨d, rfl⟩ : ∃ d, i = j + 1 + d := ⟨i - (j + 1), by omega⟩
    rw [bw_add, bw_succ]
    generalize v / (bw j * 4294967296 * bw d) = q
    rw [show q * (bw j * 4294967296 * bw d) = q * bw d * 4294967296 * bw j from by rw [Nat.mul_assoc (bw j), Nat.mul_comm (bw j), ← Nat.mul_assoc, Nat.mul_comm 4294967296, ← Nat.mul_assoc], Nat.mul_div_cancel _ (bw_pos j)]
    exact Nat.mul_mod_left _ _
end Go.Proofs.YtimccfnlcnlffaaGreat


namespace Go.Proofs.YtimccfnlcnlffaaGreat
open Go Go.RowKit Sx
theorem lm_mix (p q k j : Nat) : lm (p % bw k + q / bw k * bw k) j = if j < k then lm p j else lm q j := by
  by_cases h : j < k
  · rw [if_pos h, lm_add _ h, lm_mod h]
  · rw [if_neg h]
    have h1 : lm (p % bw k + q / bw k * bw k) j = lm (q / bw k * bw k) j := by
      unfold lm
      obtain ⟨d, rfl⟩ : ∃ d, j = k + d := ⟨j - k, by omega⟩
      rw [bw_add, ← Nat.div_div_eq_div_mul, ← Nat.div_div_eq_div_mul, Nat.add_mul_div_right _ _ (bw_pos k), Nat.div_eq_of_lt (Nat.mod_lt _ (bw_pos k)), Nat.zero_add, Nat.mul_div_cancel _ (bw_pos k)]
    rw [h1, lm_down, if_pos (by omega)]
theorem writes_mix {m p p' q k r : Nat} {x : Int} (e : r = k) (h : k < m) (hx : x = ((lm p' k : Nat) : Int)) (hp : p' % bw k = p % bw k) : Writes (numC true m (p % bw k + q / bw k * bw k)) r 1 (.int .u32 x) (numC true m (p' % bw (k + 1) + q / bw (k + 1) * bw (k + 1))) := by
  subst e hx
  refine ⟨rfl, by show r + 1 ≤ m; omega, rfl, fun j hj => ?_⟩
  have hj : j < m := hj
  rw [seg_cell hj, seg_cell hj, lm_mix, lm_mix]
  rcases Nat.lt_trichotomy j r with h1 | h1 | h1
  · rw [if_neg (show ¬ (r ≤ j ∧ j < r + 1) by omega), if_pos (show j < r + 1 by omega), if_pos h1, ← lm_mod h1, hp, lm_mod h1]
  · subst h1; rw [if_pos (show j ≤ j ∧ j < j + 1 by omega), if_pos (show j < j + 1 by omega), Nat.sub_self]; rfl
  · rw [if_neg (show ¬ (r ≤ j ∧ j < r + 1) by omega), if_neg (show ¬ j < r + 1 by omega), if_neg (show ¬ j < r by omega)]
theorem mul_nl2 (a b : Nat) : a * b < bw (nl a + nl b) ∨ a * b = 0 := by
  rcases Nat.eq_zero_or_pos (a * b) with h | h
  · exact .inr h
  · left
    rw [bw_add]
    have ha := nl_self a
    have hb := nl_self b
    have hb0 : 0 < b := Nat.pos_of_ne_zero fun e => by rw [e, Nat.mul_zero] at h; omega
    exact Nat.lt_of_lt_of_le (Nat.mul_lt_mul_of_pos_right ha hb0) (Nat.mul_le_mul_left _ (Nat.le_of_lt hb))
theorem mul_nl3 (a b : Nat) : a * b < bw (nl a + nl b) := by
  rcases mul_nl2 a b with h | h
  · exact h
  · rw [h]; exact bw_pos _
theorem row_word (S x b i j C : Nat) (hx : x < 4294967296) (hC : C < 4294967296) (h : (S + x * (b % bw j) * bw i) / bw (i + j) = C + S / bw (i + j)) :
    lm (S + x * (b % bw (j + 1)) * bw i) (i + j) = (C + (x * lm b j + lm S (i + j))) % 4294967296 ∧
    (S + x * (b % bw (j + 1)) * bw i) / bw (i + j + 1) = (C + (x * lm b j + lm S (i + j))) / 4294967296 + S / bw (i + j + 1) ∧
    C + (x * lm b j + lm S (i + j)) < 18446744073709551616 ∧ (C + (x * lm b j + lm S (i + j))) / 4294967296 < 4294967296 ∧
    (S + x * (b % bw (j + 1)) * bw i) % bw (i + j) = (S + x * (b % bw j) * bw i) % bw (i + j) := by
  have hb := lm_lt b j
  have hS := lm_lt S (i + j)
  have hxy : x * lm b j ≤ 4294967295 * 4294967295 := Nat.mul_le_mul (by omega) (by omega)
  have hV : S + x * (b % bw (j + 1)) * bw i = (S + x * (b % bw j) * bw i) + x * lm b j * bw (i + j) := by
    rw [low_word, Nat.mul_add, Nat.add_mul, bw_add, Nat.mul_comm (bw i) (bw j), ← Nat.mul_assoc, ← Nat.mul_assoc, Nat.add_assoc]
  have hd : (S + x * (b % bw (j + 1)) * bw i) / bw (i + j) = (C + (x * lm b j + lm S (i + j))) + S / bw (i + j + 1) * 4294967296 := by
    rw [hV, Nat.add_mul_div_right _ _ (bw_pos _), h, up_word S (i + j)]; omega
  refine ⟨?_, ?_, by omega, by omega, ?_⟩
  · show (S + x * (b % bw (j + 1)) * bw i) / bw (i + j) % 4294967296 = _
    rw [hd, Nat.add_mul_mod_self_right]
  · rw [bw_succ (i + j), ← Nat.div_div_eq_div_mul, hd, Nat.add_mul_div_right _ _ (by decide), ← bw_succ]
  · rw [hV, Nat.add_mul_mod_self_right]
def brw (a b i : Nat) : Int := if a % bw i < b % bw i then -1 else 0
theorem sub_word (a b i : Nat) (h : b ≤ a) : ((brw a b i + (lm a i : Nat)) - (lm b i : Nat)) % 4294967296 = (lm (a - b) i : Nat) ∧ ((brw a b i + (lm a i : Nat)) - (lm b i : Nat)).fdiv 4294967296 = brw a b (i + 1) ∧ -1 ≤ brw a b i ∧ brw a b i ≤ 0 := by
  have hD := bw_pos i
  have ha := Nat.div_add_mod a (bw i)
  have hb := Nat.div_add_mod b (bw i)
  have hA := Nat.mod_lt a hD
  have hB := Nat.mod_lt b hD
  have hqq : ∀ {x y : Nat}, x < y → bw i * x + bw i ≤ bw i * y := fun {x y} hxy => by
    have := Nat.mul_le_mul_left (bw i) (show x + 1 ≤ y by omega)
    rwa [Nat.mul_add, Nat.mul_one] at this
  have key : (((a - b) / bw i : Nat) : Int) = brw a b i + ((a / bw i : Nat) : Int) - ((b / bw i : Nat) : Int) := by
    unfold brw
    generalize a / bw i = qa at *
    generalize b / bw i = qb at *
    generalize a % bw i = A at *
    generalize b % bw i = B at *
    by_cases hlt : A < B
    · rw [if_pos hlt]
      have hq : qb < qa := by
        refine Nat.lt_of_not_le fun hle => ?_
        have : bw i * qa ≤ bw i * qb := Nat.mul_le_mul_left _ hle
        omega
      have e : a - b = (bw i + A - B) + (qa - qb - 1) * bw i := by
        obtain ⟨d, rfl⟩ : ∃ d, qa = qb + 1 + d := ⟨qa - (qb + 1), by omega⟩
        rw [show qb + 1 + d - qb - 1 = d from by omega, Nat.mul_comm d]
        rw [Nat.mul_add, Nat.mul_add, Nat.mul_one] at ha
        omega
      rw [e, Nat.add_mul_div_right _ _ hD, Nat.div_eq_of_lt (by omega)]
      omega
    · rw [if_neg hlt]
      have hq : qb ≤ qa := by
        refine Nat.le_of_not_lt fun hle => ?_
        have := hqq hle
        omega
      have e : a - b = (A - B) + (qa - qb) * bw i := by
        obtain ⟨d, rfl⟩ : ∃ d, qa = qb + d := ⟨qa - qb, by omega⟩
        rw [show qb + d - qb = d from by omega, Nat.mul_comm d]
        rw [Nat.mul_add] at ha
        omega
      rw [e, Nat.add_mul_div_right _ _ hD, Nat.div_eq_of_lt (by omega)]
      omega
  have hb1 : -1 ≤ brw a b i ∧ brw a b i ≤ 0 := by unfold brw; split <;> omega
  have hx := lm_lt a i
  have hy := lm_lt b i
  refine ⟨?_, ?_, hb1.1, hb1.2⟩
  · unfold lm at hx hy ⊢
    omega
  · have h1 : brw a b (i + 1) = if a % bw i + lm a i * bw i < b % bw i + lm b i * bw i then -1 else 0 := by
      unfold brw; rw [low_word, low_word]
    rw [h1]
    unfold brw at hb1 ⊢
    generalize a % bw i = A at *
    generalize b % bw i = B at *
    generalize lm a i = x at *
    generalize lm b i = y at *
    have hf : ∀ z : Int, z.fdiv 4294967296 = z / 4294967296 := fun z => Int.fdiv_eq_ediv_of_nonneg _ (by decide)
    rw [hf]
    rcases Nat.lt_trichotomy x y with hxy | hxy | hxy
    · have := hqq hxy
      rw [if_pos (show A + x * bw i < B + y * bw i by rw [Nat.mul_comm x, Nat.mul_comm y]; omega)]
      split <;> omega
    · subst hxy
      by_cases hlt : A < B
      · rw [if_pos hlt, if_pos (by omega)]; omega
      · rw [if_neg hlt, if_neg (by omega)]; omega
    · have := hqq hxy
      rw [if_neg (show ¬ A + x * bw i < B + y * bw i by rw [Nat.mul_comm x, Nat.mul_comm y]; omega)]
      split <;> omega
theorem cTimesN (a b m q i j K : Nat) (o o2 : Chunk) (h : List (Option Chunk)) (hi : h[i]? = some (some o)) (hin : IsNum o m a) (hj : h[j]? = some (some o2)) (hjn : IsNum o2 q b) (hl : nl a ≤ m) (hm : m ≤ 31) (hl2 : nl b ≤ q) (hq : q ≤ 31) (hp : 0 < nl a + nl b) (h0 : h[K]? = some none) :
    CallOK Tryz.prog 93 [.slice (some ⟨i, 0, some 0⟩) (nl a) m, .slice (some ⟨j, 0, some 0⟩) (nl b) q] h (.slice (some ⟨K, 0, some 0⟩) (nl (a * b)) (nl a + nl b)) [(K, numC true (nl a + nl b) (a * b))] [i, j] := by
  have hab := mul_nl3 a b
  refine call_sub (G := tys) [⟨i, _, numC false m a, ⟨false, 0, []⟩⟩, ⟨j, _, numC false q b, ⟨false, 0, []⟩⟩] [⟨K, 10, numC true (nl a + nl b) (a * b)⟩] [.slice (some ⟨0, 0, some 0⟩) (nl a) m, .slice (some ⟨1, 0, some 0⟩) (nl b) q] tysOK mixed Tryz.func93 (by rfl) (Tryz.call93) ⟨hi, hj, trivial⟩ ⟨⟨fun h => (by cases h), Nat.le_of_eq hin.1.symm, num_re hin⟩, ⟨fun h => (by cases h), Nat.le_of_eq hjn.1.symm, num_re hjn⟩, trivial⟩ (by simp [Apart]) ⟨⟨h0, rfl, by show 0 < nl a + nl b; exact hp, by simp⟩, trivial⟩ ⟨.slice rfl, .slice rfl, trivial⟩ ?_
  repeat' (refine N.go ?_; first | with_reducible (first | refine N.obl (by decide) ?_ | refine N.eq ?_ | refine N.obl rfl ?_ | refine N.obl ⟨by kernel_rfl, by kernel_rfl⟩ ?_ | refine N.alt ?_ | refine N.forkT ?_ | refine N.forkF ?_) | refine MakeN.mk1 (nl a + nl b) (nl a + nl b) (by rw [i64n _ (by omega) (by omega)]; rfl) (by rw [i64n _ (by omega) (by omega)]; rfl) (by show 4 * (nl a + nl b) ≤ _; omega) (by omega) (Nat.mul_one _).symm ?_ | refine N.forkNo (by decide) ?_ | refine N.forkYes (by decide) ?_ | refine N.forkYes (by rw [decide_eq_true_eq]; omega) ?_ | refine N.forkNo (by rw [decide_eq_false_iff_not]; omega) ?_ | refine N.obl trivial ?_ | exact N.true | fail)
  refine N.go ?_
  refine N.loop (α := Nat) (fun i => i ≤ nl a) (fun i => nl a - i) (fun i => [(19, .int .i64 (i : Int))]) (fun i => [(10, numC true (nl a + nl b) (a % bw i * b))]) 0 (Nat.zero_le _) ?_ ?_
  · repeat (refine N.go ?_; first | exact N.true | with_reducible (first | refine N.obl rfl ?_ | refine N.obl (ChunkLe.refl _) ?_) | refine N.obl (int_i64 (by rw [IntWalk.i64_in _ (by omega)]; rfl)) ?_ | refine N.obl (by rw [bw_zero, Nat.mod_one, Nat.zero_mul]; exact zeros_num) ?_ |  fail_if_success skip)
  · intro i hi'
    have hi' : i ≤ nl a := hi'
    rcases Nat.lt_or_ge i (nl a) with hlt | hge
    · have hx := lm_lt a i
      have hSlt : a % bw i * b < bw (i + nl b) := by
        rw [bw_add]
        rcases Nat.eq_zero_or_pos b with e | e
        · subst e; rw [Nat.mul_zero]; exact Nat.mul_pos (bw_pos _) (bw_pos _)
        · exact Nat.lt_of_lt_of_le (Nat.mul_lt_mul_of_pos_right (Nat.mod_lt _ (bw_pos i)) e) (Nat.mul_le_mul_left _ (Nat.le_of_lt (nl_self b)))
      have hV : a % bw (i + 1) * b = a % bw i * b + lm a i * (b % bw (nl b)) * bw i := by
        rw [low_word, Nat.add_mul, Nat.mod_eq_of_lt (nl_self b), Nat.mul_right_comm]
      have hVlt : a % bw (i + 1) * b < bw (i + nl b + 1) := by
        have hbb := bw_add (i + 1) (nl b)
        rw [show i + nl b + 1 = (i + 1) + nl b from by omega, hbb]
        rcases Nat.eq_zero_or_pos b with e | e
        · rw [e, Nat.mul_zero]; exact Nat.mul_pos (bw_pos _) (bw_pos _)
        · exact Nat.lt_of_lt_of_le (Nat.mul_lt_mul_of_pos_right (Nat.mod_lt _ (bw_pos _)) e) (Nat.mul_le_mul_left _ (Nat.le_of_lt (nl_self b)))
      generalize hS : a % bw i * b = S at *
      generalize hX : lm a i = x at *
      repeat' (refine N.go ?_; first | with_reducible (first | refine N.obl (by decide) ?_ | refine N.eq ?_ | refine N.obl rfl ?_ | refine N.obl ⟨by kernel_rfl, by kernel_rfl⟩ ?_ | refine N.alt ?_ | refine N.forkT ?_ | refine N.forkF ?_) | refine N.idx i 1 (by first | rfl | exact i64n _ (by omega) (by omega) | (rw [i64n _ (by omega) (by omega)]; omega)) (by omega) ?_ | refine N.load (.int .u32 ((x : Nat) : Int)) (by rw [← hX]; exact reads_num (p := i) (by omega) (by omega)) ?_ | refine N.forkNo (by decide) ?_ | refine N.forkYes (by decide) ?_ | refine N.forkYes (by rw [decide_eq_true_eq]; omega) ?_ | refine N.forkNo (by rw [decide_eq_false_iff_not]; omega) ?_ | refine N.obl trivial ?_ | exact N.true | fail)
      refine N.go ?_
      refine N.loop (α := Nat × Nat) (fun s => s.1 ≤ nl b ∧ s.2 < 4294967296 ∧ (S + x * (b % bw s.1) * bw i) / bw (i + s.1) = s.2 + S / bw (i + s.1)) (fun s => nl b - s.1) (fun s => [(26, .int .i64 (s.1 : Int)), (8, .int .u64 (s.2 : Int))]) (fun s => [(10, numC true (nl a + nl b) ((S + x * (b % bw s.1) * bw i) % bw (i + s.1) + S / bw (i + s.1) * bw (i + s.1)))]) (0, 0) ⟨Nat.zero_le _, by decide, by rw [bw_zero, Nat.mod_one, Nat.mul_zero, Nat.zero_mul, Nat.add_zero, Nat.zero_add]⟩ ?_ ?_
      · repeat (refine N.go ?_; first | exact N.true | with_reducible (first | refine N.obl rfl ?_ | refine N.obl (ChunkLe.refl _) ?_) | refine N.obl (int_i64 (by rw [IntWalk.i64_in _ (by omega)]; rfl)) ?_ | refine N.obl (by rw [bw_zero, Nat.mod_one, Nat.mul_zero, Nat.zero_mul, Nat.add_zero, Nat.add_zero, Nat.mod_add_div' ]; exact ChunkLe.refl _) ?_ |  fail_if_success skip)
      · rintro ⟨j, C⟩ ⟨hj', hC, hrel⟩
        have hj' : j ≤ nl b := hj'
        have hC : C < 4294967296 := hC
        have hrel : (S + x * (b % bw j) * bw i) / bw (i + j) = C + S / bw (i + j) := hrel
        rcases Nat.lt_or_ge j (nl b) with hjl | hjg
        · obtain ⟨m1, m2, m3, m4, m5⟩ := row_word S x b i j C hx hC hrel
          have hy := lm_lt b j
          have hz := lm_lt S (i + j)
          have hold : lm ((S + x * (b % bw j) * bw i) % bw (i + j) + S / bw (i + j) * bw (i + j)) (i + j) = lm S (i + j) := by rw [lm_mix, if_neg (Nat.lt_irrefl _)]
          have hxy : x * lm b j ≤ 4294967295 * 4294967295 := Nat.mul_le_mul (by omega) (by omega)
          have ev : IntKind.u64.wrap ((C : Int) + IntKind.u64.wrap (IntKind.u64.wrap (IntKind.u64.wrap ((x : Nat) : Int) * IntKind.u64.wrap ((lm b j : Nat) : Int)) + IntKind.u64.wrap ((lm ((S + x * (b % bw j) * bw i) % bw (i + j) + S / bw (i + j) * bw (i + j)) (i + j) : Nat) : Int))) = ((C + (x * lm b j + lm S (i + j)) : Nat) : Int) := by
            rw [hold, w64 (n := x) (by omega), w64 (n := lm b j) (by omega), w64 (n := lm S (i + j)) (by omega), ← Int.natCast_mul, w64 (n := x * lm b j) (by omega), ← Int.natCast_add, w64 (n := x * lm b j + lm S (i + j)) (by omega), ← Int.natCast_add, w64 m3]
          generalize hT : C + (x * lm b j + lm S (i + j)) = T at *
          repeat' (refine N.go ?_; first | with_reducible (first | refine N.obl (by decide) ?_ | refine N.eq ?_ | refine N.obl rfl ?_ | refine N.obl ⟨by kernel_rfl, by kernel_rfl⟩ ?_ | refine N.alt ?_ | refine N.forkT ?_ | refine N.forkF ?_) | refine N.idx j 1 (by first | rfl | exact i64n _ (by omega) (by omega) | (rw [i64n _ (by omega) (by omega)]; omega)) (by omega) ?_ | refine N.load _ (reads_num (p := j) (by omega) (by omega)) ?_ | refine N.idx (i + j) 1 (by first | rfl | exact i64n _ (by omega) (by omega) | (rw [i64n _ (by omega) (by omega)]; omega)) (by omega) ?_ | refine N.load _ (reads_num (p := i + j) (by omega) (by omega)) ?_ | refine N.store _ (writes_mix (p' := S + x * (b % bw (j + 1)) * bw i) (by omega) (by omega) (by rw [ev, w32, m1]) m5) ?_ | refine N.forkNo (by decide) ?_ | refine N.forkYes (by decide) ?_ | refine N.forkYes (by rw [decide_eq_true_eq]; omega) ?_ | refine N.forkNo (by rw [decide_eq_false_iff_not]; omega) ?_ | refine N.obl trivial ?_ | exact N.true | fail)
          refine N.go ?_
          refine N.next ((j + 1, T / 4294967296) : Nat × Nat) ⟨⟨by show j + 1 ≤ nl b; omega, m4, m2⟩, by show nl b - (j + 1) < nl b - j; omega⟩ ?_
          repeat (refine N.go ?_; first | exact N.true | with_reducible (first | refine N.obl rfl ?_ | refine N.obl (ChunkLe.refl _) ?_) | refine N.obl (int_i64 (by rw [IntWalk.i64_in _ (by omega)]; rfl)) ?_ | refine N.obl (inteq (by rw [i64n _ (by omega) (by omega)]; rfl)) ?_ | refine N.obl (inteq (by rw [ev, fd32])) ?_ |  fail_if_success skip)
        · obtain rfl : j = nl b := by omega
          have hq0 : S / bw (i + nl b) = 0 := Nat.div_eq_of_lt hSlt
          have hCe : (C : Int) = ((lm (a % bw (i + 1) * b) (i + nl b) : Nat) : Int) := by
            rw [hq0, Nat.add_zero, ← hV] at hrel
            unfold lm; rw [hrel, Nat.mod_eq_of_lt hC]
          have hch : (S + x * (b % bw (nl b)) * bw i) % bw (i + nl b) + S / bw (i + nl b) * bw (i + nl b) = (a % bw (i + 1) * b) % bw (i + nl b) := by rw [hq0, Nat.zero_mul, Nat.add_zero, ← hV]
          have hme : a % bw (i + 1) * b = a % bw (i + 1) * b % bw (i + nl b + 1) := (Nat.mod_eq_of_lt hVlt).symm
          rw [hch]
          repeat' (refine N.go ?_; first | with_reducible (first | refine N.obl (by decide) ?_ | refine N.eq ?_ | refine N.obl rfl ?_ | refine N.obl ⟨by kernel_rfl, by kernel_rfl⟩ ?_ | refine N.alt ?_ | refine N.forkT ?_ | refine N.forkF ?_) | refine N.idx (i + nl b) 1 (by first | rfl | exact i64n _ (by omega) (by omega) | (rw [i64n _ (by omega) (by omega)]; omega)) (by omega) ?_ | refine N.store _ (writes_next (v := a % bw (i + 1) * b) (by omega) (by omega) (by rw [w32, Nat.mod_eq_of_lt hC]; exact hCe)) ?_ | refine N.forkNo (by decide) ?_ | refine N.forkYes (by decide) ?_ | refine N.forkYes (by rw [decide_eq_true_eq]; omega) ?_ | refine N.forkNo (by rw [decide_eq_false_iff_not]; omega) ?_ | refine N.obl trivial ?_ | exact N.true | fail)
          refine N.go ?_
          refine N.next (i + 1) ⟨by show i + 1 ≤ nl a; omega, by show nl a - (i + 1) < nl a - i; omega⟩ ?_
          repeat (refine N.go ?_; first | exact N.true | with_reducible (first | refine N.obl rfl ?_ | refine N.obl (ChunkLe.refl _) ?_) | refine N.obl (int_i64 (by rw [IntWalk.i64_in _ (by omega)]; rfl)) ?_ | refine N.obl (inteq (by rw [i64n _ (by omega) (by omega)]; rfl)) ?_ | refine N.obl (by rw [← hme]; exact ChunkLe.refl _) ?_ |  fail_if_success skip)
    · obtain rfl : i = nl a := by omega
      have he : a % bw (nl a) * b = a * b := by rw [Nat.mod_eq_of_lt (nl_self a)]
      repeat' (refine N.go ?_; first | with_reducible (first | refine N.obl (by decide) ?_ | refine N.eq ?_ | refine N.obl rfl ?_ | refine N.obl ⟨by kernel_rfl, by kernel_rfl⟩ ?_ | refine N.alt ?_ | refine N.forkT ?_ | refine N.forkF ?_) | refine N.call (cTrim (a * b) (nl a + nl b) (nl a + nl b) _ _ _ (by rfl) (by rw [he]; exact isNum _ _ _) (by omega) (by omega) hab) ?_ | refine N.obl (re_sl (by rfl) rfl) ?_ | refine N.obl ⟨⟨by show 2 ≤ 10; decide, post_num (by rfl) rfl (by rw [he]; exact isNum _ _ _)⟩, trivial⟩ ?_ | refine N.forkNo (by decide) ?_ | refine N.forkYes (by decide) ?_ | refine N.forkYes (by rw [decide_eq_true_eq]; omega) ?_ | refine N.forkNo (by rw [decide_eq_false_iff_not]; omega) ?_ | refine N.obl trivial ?_ | exact N.true | fail)
theorem cMinus (a b m q i j K : Nat) (o o2 : Chunk) (h : List (Option Chunk)) (hi : h[i]? = some (some o)) (hin : IsNum o m a) (hj : h[j]? = some (some o2)) (hjn : IsNum o2 q b) (hl : nl a ≤ m) (hm : m ≤ 31) (hl2 : nl b ≤ q) (hq : q ≤ 31) (hba : b ≤ a) (hp : 0 < nl a) (h0 : h[K]? = some none) :
    CallOK Tryz.prog 107 [.slice (some ⟨i, 0, some 0⟩) (nl a) m, .slice (some ⟨j, 0, some 0⟩) (nl b) q] h (.slice (some ⟨K, 0, some 0⟩) (nl (a - b)) (nl a)) [(K, numC true (nl a) (a - b))] [i, j] := by
  have hs : a - b < bw (nl a) := Nat.lt_of_le_of_lt (Nat.sub_le _ _) (nl_self a)
  refine call_sub (G := tys) [⟨i, _, numC false m a, ⟨false, 0, []⟩⟩, ⟨j, _, numC false q b, ⟨false, 0, []⟩⟩] [⟨K, 6, numC true (nl a) (a - b)⟩] [.slice (some ⟨0, 0, some 0⟩) (nl a) m, .slice (some ⟨1, 0, some 0⟩) (nl b) q] tysOK mixed Tryz.func107 (by rfl) (Tryz.call107) ⟨hi, hj, trivial⟩ ⟨⟨fun h => (by cases h), Nat.le_of_eq hin.1.symm, num_re hin⟩, ⟨fun h => (by cases h), Nat.le_of_eq hjn.1.symm, num_re hjn⟩, trivial⟩ (by simp [Apart]) ⟨⟨h0, rfl, by show 0 < nl a; exact hp, by simp⟩, trivial⟩ ⟨.slice rfl, .slice rfl, trivial⟩ ?_
  repeat' (refine N.go ?_; first | with_reducible (first | refine N.obl (by decide) ?_ | refine N.eq ?_ | refine N.obl rfl ?_ | refine N.obl ⟨by kernel_rfl, by kernel_rfl⟩ ?_ | refine N.alt ?_ | refine N.forkT ?_ | refine N.forkF ?_) | refine MakeN.mk1 (nl a) (nl a) rfl rfl (by show 4 * (nl a) ≤ _; omega) (by omega) (Nat.mul_one _).symm ?_ | refine N.forkNo (by decide) ?_ | refine N.forkYes (by decide) ?_ | refine N.forkYes (by rw [decide_eq_true_eq]; omega) ?_ | refine N.forkNo (by rw [decide_eq_false_iff_not]; omega) ?_ | refine N.obl trivial ?_ | exact N.true | fail)
  refine N.go ?_
  refine N.loop (α := Nat) (fun i => i ≤ nl a) (fun i => nl a - i) (fun i => [(13, .int .i64 (i : Int)), (6, .int .i64 (brw a b i))]) (fun i => [(6, numC true (nl a) ((a - b) % bw i))]) 0 (Nat.zero_le _) ?_ ?_
  · repeat (refine N.go ?_; first | exact N.true | with_reducible (first | refine N.obl rfl ?_ | refine N.obl (ChunkLe.refl _) ?_) | refine N.obl (int_i64 (by rw [IntWalk.i64_in _ (by omega)]; rfl)) ?_ | refine N.obl (by rw [bw_zero, Nat.mod_one]; exact zeros_num) ?_ | refine N.obl (inteq (by unfold brw; rw [bw_zero, Nat.mod_one, Nat.mod_one]; rfl)) ?_ |  fail_if_success skip)
  · intro i hi'
    have hi' : i ≤ nl a := hi'
    rcases Nat.lt_or_ge i (nl a) with hlt | hge
    · obtain ⟨m1, m2, m3, m4⟩ := sub_word a b i hba
      have hx := lm_lt a i
      have hy := lm_lt b i
      have hsh : ∀ z : Int, z.fdiv (2 ^ sh 32 IntKind.i64) = z.fdiv 4294967296 := fun z => rfl
      generalize hc0 : brw a b i = C at *
      have ev : IntKind.i64.wrap (IntKind.i64.wrap (C + IntKind.i64.wrap ((lm a i : Nat) : Int)) - IntKind.i64.wrap ((lm b i : Nat) : Int)) = C + (lm a i : Nat) - (lm b i : Nat) := by
        rw [i64n (lm a i : Nat) (by omega) (by omega), i64n (lm b i : Nat) (by omega) (by omega), i64n (C + (lm a i : Nat)) (by omega) (by omega), i64n _ (by omega) (by omega)]
      rcases Nat.lt_or_ge i (nl b) with hib | hib
      · repeat' (refine N.go ?_; first | with_reducible (first | refine N.obl (by decide) ?_ | refine N.eq ?_ | refine N.obl rfl ?_ | refine N.obl ⟨by kernel_rfl, by kernel_rfl⟩ ?_ | refine N.alt ?_ | refine N.forkT ?_ | refine N.forkF ?_) | refine N.idx i 1 (by first | rfl | exact i64n _ (by omega) (by omega) | (rw [i64n _ (by omega) (by omega)]; omega)) (by omega) ?_ | refine N.load _ (reads_num (p := i) (by omega) (by omega)) ?_ | refine N.store _ (writes_next rfl (by omega) (by rw [ev, IntKind.wrap_u32, m1])) ?_ | refine N.forkNo (by decide) ?_ | refine N.forkYes (by decide) ?_ | refine N.forkYes (by rw [decide_eq_true_eq]; omega) ?_ | refine N.forkNo (by rw [decide_eq_false_iff_not]; omega) ?_ | refine N.obl trivial ?_ | exact N.true | fail)
        refine N.go ?_
        refine N.next (i + 1) ⟨by show i + 1 ≤ nl a; omega, by show nl a - (i + 1) < nl a - i; omega⟩ ?_
        repeat (refine N.go ?_; first | exact N.true | with_reducible (first | refine N.obl rfl ?_ | refine N.obl (ChunkLe.refl _) ?_) | refine N.obl (int_i64 (by rw [IntWalk.i64_in _ (by omega)]; rfl)) ?_ | refine N.obl (inteq (by rw [i64n _ (by omega) (by omega)]; rfl)) ?_ | refine N.obl (inteq (by rw [ev, hsh, m2])) ?_ |  fail_if_success skip)
      · have hz : lm b i = 0 := lm_big (Nat.lt_of_lt_of_le (nl_self b) (bw_mono hib))
        have ev0 : IntKind.i64.wrap (C + IntKind.i64.wrap ((lm a i : Nat) : Int)) = C + (lm a i : Nat) - (lm b i : Nat) := by
          rw [hz, i64n (lm a i : Nat) (by omega) (by omega), i64n _ (by omega) (by omega)]; omega
        repeat' (refine N.go ?_; first | with_reducible (first | refine N.obl (by decide) ?_ | refine N.eq ?_ | refine N.obl rfl ?_ | refine N.obl ⟨by kernel_rfl, by kernel_rfl⟩ ?_ | refine N.alt ?_ | refine N.forkT ?_ | refine N.forkF ?_) | refine N.idx i 1 (by first | rfl | exact i64n _ (by omega) (by omega) | (rw [i64n _ (by omega) (by omega)]; omega)) (by omega) ?_ | refine N.load _ (reads_num (p := i) (by omega) (by omega)) ?_ | refine N.store _ (writes_next rfl (by omega) (by rw [ev0, IntKind.wrap_u32, m1])) ?_ | refine N.forkNo (by decide) ?_ | refine N.forkYes (by decide) ?_ | refine N.forkYes (by rw [decide_eq_true_eq]; omega) ?_ | refine N.forkNo (by rw [decide_eq_false_iff_not]; omega) ?_ | refine N.obl trivial ?_ | exact N.true | fail)
        refine N.go ?_
        refine N.next (i + 1) ⟨by show i + 1 ≤ nl a; omega, by show nl a - (i + 1) < nl a - i; omega⟩ ?_
        repeat (refine N.go ?_; first | exact N.true | with_reducible (first | refine N.obl rfl ?_ | refine N.obl (ChunkLe.refl _) ?_) | refine N.obl (int_i64 (by rw [IntWalk.i64_in _ (by omega)]; rfl)) ?_ | refine N.obl (inteq (by rw [i64n _ (by omega) (by omega)]; rfl)) ?_ | refine N.obl (inteq (by rw [ev0, hsh, m2])) ?_ |  fail_if_success skip)
    · obtain rfl : i = nl a := by omega
      have he : (a - b) % bw (nl a) = a - b := Nat.mod_eq_of_lt hs
      repeat' (refine N.go ?_; first | with_reducible (first | refine N.obl (by decide) ?_ | refine N.eq ?_ | refine N.obl rfl ?_ | refine N.obl ⟨by kernel_rfl, by kernel_rfl⟩ ?_ | refine N.alt ?_ | refine N.forkT ?_ | refine N.forkF ?_) | refine N.call (cTrim (a - b) (nl a) (nl a) _ _ _ (by rfl) (by rw [he]; exact isNum _ _ _) (by omega) (by omega) hs) ?_ | refine N.obl (re_sl (by rfl) rfl) ?_ | refine N.obl ⟨⟨by show 2 ≤ 6; decide, post_num (by rfl) rfl (by rw [he]; exact isNum _ _ _)⟩, trivial⟩ ?_ | refine N.forkNo (by decide) ?_ | refine N.forkYes (by decide) ?_ | refine N.forkYes (by rw [decide_eq_true_eq]; omega) ?_ | refine N.forkNo (by rw [decide_eq_false_iff_not]; omega) ?_ | refine N.obl trivial ?_ | exact N.true | fail)
theorem cPlusA (a b m q i j K : Nat) (o o2 : Chunk) (h : List (Option Chunk)) (hi : h[i]? = some (some o)) (hin : IsNum o m a) (hj : h[j]? = some (some o2)) (hjn : IsNum o2 q b) (hl : nl a ≤ m) (hm : m ≤ 31) (hl2 : nl b ≤ q) (hq : q ≤ 31) (hba : nl b ≤ nl a) (h0 : h[K]? = some none) :
    CallOK Tryz.prog 105 [.slice (some ⟨i, 0, some 0⟩) (nl a) m, .slice (some ⟨j, 0, some 0⟩) (nl b) q] h (.slice (some ⟨K, 0, some 0⟩) (nl (a + b)) (nl a + 1)) [(K, numC true (nl a + 1) (a + b))] [i, j] := by
  have hs : a + b < bw (nl a + 1) := by
    rw [bw_succ]
    have h1 := nl_self a
    have h2 := nl_le.1 (show nl b ≤ nl a by omega)
    omega
  refine call_sub (G := tys) [⟨i, _, numC false m a, ⟨false, 0, []⟩⟩, ⟨j, _, numC false q b, ⟨false, 0, []⟩⟩] [⟨K, 6, numC true (nl a + 1) (a + b)⟩] [.slice (some ⟨0, 0, some 0⟩) (nl a) m, .slice (some ⟨1, 0, some 0⟩) (nl b) q] tysOK mixed Tryz.func105 (by rfl) (Tryz.call105) ⟨hi, hj, trivial⟩ ⟨⟨fun h => (by cases h), Nat.le_of_eq hin.1.symm, num_re hin⟩, ⟨fun h => (by cases h), Nat.le_of_eq hjn.1.symm, num_re hjn⟩, trivial⟩ (by simp [Apart]) ⟨⟨h0, rfl, by show 0 < nl a + 1; omega, by simp⟩, trivial⟩ ⟨.slice rfl, .slice rfl, trivial⟩ ?_
  repeat' (refine N.go ?_; first | with_reducible (first | refine N.obl (by decide) ?_ | refine N.eq ?_ | refine N.obl rfl ?_ | refine N.obl ⟨by kernel_rfl, by kernel_rfl⟩ ?_ | refine N.alt ?_ | refine N.forkT ?_ | refine N.forkF ?_) | refine MakeN.mk1 (nl a + 1) (nl a + 1) (by rw [i64n _ (by omega) (by omega)]; rfl) (by rw [i64n _ (by omega) (by omega)]; rfl) (by show 4 * (nl a + 1) ≤ _; omega) (by omega) (Nat.mul_one _).symm ?_ | refine N.forkNo (by decide) ?_ | refine N.forkYes (by decide) ?_ | refine N.forkYes (by rw [decide_eq_true_eq]; omega) ?_ | refine N.forkNo (by rw [decide_eq_false_iff_not]; omega) ?_ | refine N.obl trivial ?_ | exact N.true | fail)
  refine N.go ?_
  refine N.loop (α := Nat) (fun i => i ≤ nl a) (fun i => nl a - i) (fun i => [(21, .int .i64 (i : Int)), (6, .int .u64 (((a % bw i + b % bw i) / bw i : Nat) : Int))]) (fun i => [(6, numC true (nl a + 1) ((a + b) % bw i))]) 0 (Nat.zero_le _) ?_ ?_
  · repeat (refine N.go ?_; first | exact N.true | with_reducible (first | refine N.obl rfl ?_ | refine N.obl (ChunkLe.refl _) ?_) | refine N.obl (int_i64 (by rw [IntWalk.i64_in _ (by omega)]; rfl)) ?_ | refine N.obl (by rw [bw_zero, Nat.mod_one]; exact zeros_num) ?_ | refine N.obl (inteq (by rw [bw_zero, Nat.mod_one, Nat.mod_one]; rfl)) ?_ |  fail_if_success skip)
  · intro i hi'
    have hi' : i ≤ nl a := hi'
    have hcm : a + b = a + b := by omega
    rcases Nat.lt_or_ge i (nl a) with hlt | hge
    · obtain ⟨m1, m2, m3⟩ := add_word a b i
      rw [hcm] at m1
      generalize hC : (a % bw i + b % bw i) / bw i = C at *
      have hx := lm_lt a i
      have hy := lm_lt b i
      have ev : IntKind.u64.wrap (IntKind.u64.wrap ((C : Int) + IntKind.u64.wrap ((lm a i : Nat) : Int)) + IntKind.u64.wrap ((lm b i : Nat) : Int)) = ((C + lm a i + lm b i : Nat) : Int) := by
        rw [w64 (n := lm a i) (by omega), w64 (n := lm b i) (by omega), ← Int.natCast_add, w64 (n := C + lm a i) (by omega), ← Int.natCast_add, w64 (by omega)]
      have ev0 : IntKind.u64.wrap ((C : Int) + IntKind.u64.wrap ((lm a i : Nat) : Int)) = ((C + lm a i : Nat) : Int) := by
        rw [w64 (n := lm a i) (by omega), ← Int.natCast_add, w64 (n := C + lm a i) (by omega)]
      rcases Nat.lt_or_ge i (nl b) with hib | hib
      · repeat' (refine N.go ?_; first | with_reducible (first | refine N.obl (by decide) ?_ | refine N.eq ?_ | refine N.obl rfl ?_ | refine N.obl ⟨by kernel_rfl, by kernel_rfl⟩ ?_ | refine N.alt ?_ | refine N.forkT ?_ | refine N.forkF ?_) | refine N.store _ (writes_next rfl (by omega) (by rw [ev, w32, m1])) ?_ | refine N.idx i 1 rfl (by omega) ?_ | refine N.load _ (reads_num (p := i) (by omega) (by omega)) ?_ | refine N.forkNo (by decide) ?_ | refine N.forkYes (by decide) ?_ | refine N.forkYes (by rw [decide_eq_true_eq]; omega) ?_ | refine N.forkNo (by rw [decide_eq_false_iff_not]; omega) ?_ | refine N.obl trivial ?_ | exact N.true | fail)
        refine N.go ?_
        refine N.next (i + 1) ⟨by show i + 1 ≤ nl a; omega, by omega⟩ ?_
        repeat (refine N.go ?_; first | exact N.true | with_reducible (first | refine N.obl rfl ?_ | refine N.obl (ChunkLe.refl _) ?_) | refine N.obl (int_i64 (by rw [IntWalk.i64_in _ (by omega)]; rfl)) ?_ | refine N.obl (inteq (by rw [i64n _ (by omega) (by omega)]; omega)) ?_ | refine N.obl (inteq (by rw [ev, fd32, m2])) ?_ |  fail_if_success skip)
      · have hz : lm b i = 0 := lm_big (Nat.lt_of_lt_of_le (nl_self b) (bw_mono hib))
        repeat' (refine N.go ?_; first | with_reducible (first | refine N.obl (by decide) ?_ | refine N.eq ?_ | refine N.obl rfl ?_ | refine N.obl ⟨by kernel_rfl, by kernel_rfl⟩ ?_ | refine N.alt ?_ | refine N.forkT ?_ | refine N.forkF ?_) | refine N.store _ (writes_next rfl (by omega) (by rw [ev0, w32, m1, hz]; rfl)) ?_ | refine N.idx i 1 rfl (by omega) ?_ | refine N.load _ (reads_num (p := i) (by omega) (by omega)) ?_ | refine N.forkNo (by decide) ?_ | refine N.forkYes (by decide) ?_ | refine N.forkYes (by rw [decide_eq_true_eq]; omega) ?_ | refine N.forkNo (by rw [decide_eq_false_iff_not]; omega) ?_ | refine N.obl trivial ?_ | exact N.true | fail)
        refine N.go ?_
        refine N.next (i + 1) ⟨by show i + 1 ≤ nl a; omega, by omega⟩ ?_
        repeat (refine N.go ?_; first | exact N.true | with_reducible (first | refine N.obl rfl ?_ | refine N.obl (ChunkLe.refl _) ?_) | refine N.obl (int_i64 (by rw [IntWalk.i64_in _ (by omega)]; rfl)) ?_ | refine N.obl (inteq (by rw [i64n _ (by omega) (by omega)]; omega)) ?_ | refine N.obl (inteq (by rw [ev0, fd32, m2, hz]; rfl)) ?_ |  fail_if_success skip)
    · obtain rfl : i = nl a := by omega
      have ha := nl_self a
      have hb := nl_le.1 (show nl b ≤ nl a by omega)
      have hc : ((a % bw (nl a) + b % bw (nl a)) / bw (nl a)) = lm (a + b) (nl a) := by
        rw [Nat.mod_eq_of_lt ha, Nat.mod_eq_of_lt hb, hcm]
        unfold lm
        rw [Nat.mod_eq_of_lt ((Nat.div_lt_iff_lt_mul (bw_pos _)).2 (by rw [Nat.mul_comm, ← bw_succ]; exact hs))]
      have hlt := lm_lt (a + b) (nl a)
      have he : (a + b) % bw (nl a + 1) = a + b := Nat.mod_eq_of_lt hs
      repeat' (refine N.go ?_; first | with_reducible (first | refine N.obl (by decide) ?_ | refine N.eq ?_ | refine N.obl rfl ?_ | refine N.obl ⟨by kernel_rfl, by kernel_rfl⟩ ?_ | refine N.alt ?_ | refine N.forkT ?_ | refine N.forkF ?_) | refine N.idx (nl a) 1 rfl (by omega) ?_ | refine N.store _ (writes_next rfl (by omega) (by rw [w32, hc]; omega)) ?_ | refine N.call (cTrim (a + b) (nl a + 1) (nl a + 1) _ _ _ (by rfl) (by rw [he]; exact isNum _ _ _) (by omega) (by omega) hs) ?_ | refine N.obl (re_sl (by rfl) rfl) ?_ | refine N.obl ⟨⟨by show 2 ≤ 6; decide, post_num (by rfl) rfl (by rw [he]; exact isNum _ _ _)⟩, trivial⟩ ?_ | refine N.forkNo (by decide) ?_ | refine N.forkYes (by decide) ?_ | refine N.forkYes (by rw [decide_eq_true_eq]; omega) ?_ | refine N.forkNo (by rw [decide_eq_false_iff_not]; omega) ?_ | refine N.obl trivial ?_ | exact N.true | fail)
theorem cPlusB (a b m q i j K : Nat) (o o2 : Chunk) (h : List (Option Chunk)) (hi : h[i]? = some (some o)) (hin : IsNum o m a) (hj : h[j]? = some (some o2)) (hjn : IsNum o2 q b) (hl : nl a ≤ m) (hm : m ≤ 31) (hl2 : nl b ≤ q) (hq : q ≤ 31) (hba : nl a < nl b) (h0 : h[K]? = some none) :
    CallOK Tryz.prog 105 [.slice (some ⟨i, 0, some 0⟩) (nl a) m, .slice (some ⟨j, 0, some 0⟩) (nl b) q] h (.slice (some ⟨K, 0, some 0⟩) (nl (a + b)) (nl b + 1)) [(K, numC true (nl b + 1) (a + b))] [i, j] := by
  have hs : a + b < bw (nl b + 1) := by
    rw [bw_succ]
    have h1 := nl_self b
    have h2 := nl_le.1 (show nl a ≤ nl b by omega)
    omega
  refine call_sub (G := tys) [⟨i, _, numC false m a, ⟨false, 0, []⟩⟩, ⟨j, _, numC false q b, ⟨false, 0, []⟩⟩] [⟨K, 6, numC true (nl b + 1) (a + b)⟩] [.slice (some ⟨0, 0, some 0⟩) (nl a) m, .slice (some ⟨1, 0, some 0⟩) (nl b) q] tysOK mixed Tryz.func105 (by rfl) (Tryz.call105) ⟨hi, hj, trivial⟩ ⟨⟨fun h => (by cases h), Nat.le_of_eq hin.1.symm, num_re hin⟩, ⟨fun h => (by cases h), Nat.le_of_eq hjn.1.symm, num_re hjn⟩, trivial⟩ (by simp [Apart]) ⟨⟨h0, rfl, by show 0 < nl b + 1; omega, by simp⟩, trivial⟩ ⟨.slice rfl, .slice rfl, trivial⟩ ?_
  repeat' (refine N.go ?_; first | with_reducible (first | refine N.obl (by decide) ?_ | refine N.eq ?_ | refine N.obl rfl ?_ | refine N.obl ⟨by kernel_rfl, by kernel_rfl⟩ ?_ | refine N.alt ?_ | refine N.forkT ?_ | refine N.forkF ?_) | refine MakeN.mk1 (nl b + 1) (nl b + 1) (by rw [i64n _ (by omega) (by omega)]; rfl) (by rw [i64n _ (by omega) (by omega)]; rfl) (by show 4 * (nl b + 1) ≤ _; omega) (by omega) (Nat.mul_one _).symm ?_ | refine N.forkNo (by decide) ?_ | refine N.forkYes (by decide) ?_ | refine N.forkYes (by rw [decide_eq_true_eq]; omega) ?_ | refine N.forkNo (by rw [decide_eq_false_iff_not]; omega) ?_ | refine N.obl trivial ?_ | exact N.true | fail)
  refine N.go ?_
  refine N.loop (α := Nat) (fun i => i ≤ nl b) (fun i => nl b - i) (fun i => [(21, .int .i64 (i : Int)), (6, .int .u64 (((b % bw i + a % bw i) / bw i : Nat) : Int))]) (fun i => [(6, numC true (nl b + 1) ((a + b) % bw i))]) 0 (Nat.zero_le _) ?_ ?_
  · repeat (refine N.go ?_; first | exact N.true | with_reducible (first | refine N.obl rfl ?_ | refine N.obl (ChunkLe.refl _) ?_) | refine N.obl (int_i64 (by rw [IntWalk.i64_in _ (by omega)]; rfl)) ?_ | refine N.obl (by rw [bw_zero, Nat.mod_one]; exact zeros_num) ?_ | refine N.obl (inteq (by rw [bw_zero, Nat.mod_one, Nat.mod_one]; rfl)) ?_ |  fail_if_success skip)
  · intro i hi'
    have hi' : i ≤ nl b := hi'
    have hcm : b + a = a + b := by omega
    rcases Nat.lt_or_ge i (nl b) with hlt | hge
    · obtain ⟨m1, m2, m3⟩ := add_word b a i
      rw [hcm] at m1
      generalize hC : (b % bw i + a % bw i) / bw i = C at *
      have hx := lm_lt b i
      have hy := lm_lt a i
      have ev : IntKind.u64.wrap (IntKind.u64.wrap ((C : Int) + IntKind.u64.wrap ((lm b i : Nat) : Int)) + IntKind.u64.wrap ((lm a i : Nat) : Int)) = ((C + lm b i + lm a i : Nat) : Int) := by
        rw [w64 (n := lm b i) (by omega), w64 (n := lm a i) (by omega), ← Int.natCast_add, w64 (n := C + lm b i) (by omega), ← Int.natCast_add, w64 (by omega)]
      have ev0 : IntKind.u64.wrap ((C : Int) + IntKind.u64.wrap ((lm b i : Nat) : Int)) = ((C + lm b i : Nat) : Int) := by
        rw [w64 (n := lm b i) (by omega), ← Int.natCast_add, w64 (n := C + lm b i) (by omega)]
      rcases Nat.lt_or_ge i (nl a) with hib | hib
      · repeat' (refine N.go ?_; first | with_reducible (first | refine N.obl (by decide) ?_ | refine N.eq ?_ | refine N.obl rfl ?_ | refine N.obl ⟨by kernel_rfl, by kernel_rfl⟩ ?_ | refine N.alt ?_ | refine N.forkT ?_ | refine N.forkF ?_) | refine N.store _ (writes_next rfl (by omega) (by rw [ev, w32, m1])) ?_ | refine N.idx i 1 rfl (by omega) ?_ | refine N.load _ (reads_num (p := i) (by omega) (by omega)) ?_ | refine N.forkNo (by decide) ?_ | refine N.forkYes (by decide) ?_ | refine N.forkYes (by rw [decide_eq_true_eq]; omega) ?_ | refine N.forkNo (by rw [decide_eq_false_iff_not]; omega) ?_ | refine N.obl trivial ?_ | exact N.true | fail)
        refine N.go ?_
        refine N.next (i + 1) ⟨by show i + 1 ≤ nl b; omega, by omega⟩ ?_
        repeat (refine N.go ?_; first | exact N.true | with_reducible (first | refine N.obl rfl ?_ | refine N.obl (ChunkLe.refl _) ?_) | refine N.obl (int_i64 (by rw [IntWalk.i64_in _ (by omega)]; rfl)) ?_ | refine N.obl (inteq (by rw [i64n _ (by omega) (by omega)]; omega)) ?_ | refine N.obl (inteq (by rw [ev, fd32, m2])) ?_ |  fail_if_success skip)
      · have hz : lm a i = 0 := lm_big (Nat.lt_of_lt_of_le (nl_self a) (bw_mono hib))
        repeat' (refine N.go ?_; first | with_reducible (first | refine N.obl (by decide) ?_ | refine N.eq ?_ | refine N.obl rfl ?_ | refine N.obl ⟨by kernel_rfl, by kernel_rfl⟩ ?_ | refine N.alt ?_ | refine N.forkT ?_ | refine N.forkF ?_) | refine N.store _ (writes_next rfl (by omega) (by rw [ev0, w32, m1, hz]; rfl)) ?_ | refine N.idx i 1 rfl (by omega) ?_ | refine N.load _ (reads_num (p := i) (by omega) (by omega)) ?_ | refine N.forkNo (by decide) ?_ | refine N.forkYes (by decide) ?_ | refine N.forkYes (by rw [decide_eq_true_eq]; omega) ?_ | refine N.forkNo (by rw [decide_eq_false_iff_not]; omega) ?_ | refine N.obl trivial ?_ | exact N.true | fail)
        refine N.go ?_
        refine N.next (i + 1) ⟨by show i + 1 ≤ nl b; omega, by omega⟩ ?_
        repeat (refine N.go ?_; first | exact N.true | with_reducible (first | refine N.obl rfl ?_ | refine N.obl (ChunkLe.refl _) ?_) | refine N.obl (int_i64 (by rw [IntWalk.i64_in _ (by omega)]; rfl)) ?_ | refine N.obl (inteq (by rw [i64n _ (by omega) (by omega)]; omega)) ?_ | refine N.obl (inteq (by rw [ev0, fd32, m2, hz]; rfl)) ?_ |  fail_if_success skip)
    · obtain rfl : i = nl b := by omega
      have ha := nl_self b
      have hb := nl_le.1 (show nl a ≤ nl b by omega)
      have hc : ((b % bw (nl b) + a % bw (nl b)) / bw (nl b)) = lm (a + b) (nl b) := by
        rw [Nat.mod_eq_of_lt ha, Nat.mod_eq_of_lt hb, hcm]
        unfold lm
        rw [Nat.mod_eq_of_lt ((Nat.div_lt_iff_lt_mul (bw_pos _)).2 (by rw [Nat.mul_comm, ← bw_succ]; exact hs))]
      have hlt := lm_lt (a + b) (nl b)
      have he : (a + b) % bw (nl b + 1) = a + b := Nat.mod_eq_of_lt hs
      repeat' (refine N.go ?_; first | with_reducible (first | refine N.obl (by decide) ?_ | refine N.eq ?_ | refine N.obl rfl ?_ | refine N.obl ⟨by kernel_rfl, by kernel_rfl⟩ ?_ | refine N.alt ?_ | refine N.forkT ?_ | refine N.forkF ?_) | refine N.idx (nl b) 1 rfl (by omega) ?_ | refine N.store _ (writes_next rfl (by omega) (by rw [w32, hc]; omega)) ?_ | refine N.call (cTrim (a + b) (nl b + 1) (nl b + 1) _ _ _ (by rfl) (by rw [he]; exact isNum _ _ _) (by omega) (by omega) hs) ?_ | refine N.obl (re_sl (by rfl) rfl) ?_ | refine N.obl ⟨⟨by show 2 ≤ 6; decide, post_num (by rfl) rfl (by rw [he]; exact isNum _ _ _)⟩, trivial⟩ ?_ | refine N.forkNo (by decide) ?_ | refine N.forkYes (by decide) ?_ | refine N.forkYes (by rw [decide_eq_true_eq]; omega) ?_ | refine N.forkNo (by rw [decide_eq_false_iff_not]; omega) ?_ | refine N.obl trivial ?_ | exact N.true | fail)
theorem zX_selfish : Selfish zX := fun p S w h => (h.1 _).2 rfl
theorem zc_num : IsNum zC 0 0 := ⟨rfl, fun j hj => absurd hj (Nat.not_lt_zero j)⟩
theorem nl0 {a : Nat} (h : nl a = 0) : a = 0 := nl_zero_iff.1 h
theorem post_z {ix : List (Nat × Nat)} {h : List (Option Chunk)} {k : Nat} (hh : h[k]? = some (some zC)) : PostC ix h k zC := ⟨zC, hh, id, Nat.le_refl _, fun j hj => absurd hj (Nat.not_lt_zero j)⟩
theorem cTimes0 (a b m q i j K : Nat) (o o2 : Chunk) (h : List (Option Chunk)) (hi : h[i]? = some (some o)) (hin : IsNum o m a) (hj : h[j]? = some (some o2)) (hjn : IsNum o2 q b) (hl : nl a ≤ m) (hm : m ≤ 31) (hl2 : nl b ≤ q) (hq : q ≤ 31) (hz : nl a + nl b = 0) (h0 : h[K]? = some none) :
    CallOK Tryz.prog 93 [.slice (some ⟨i, 0, some 0⟩) (nl a) m, .slice (some ⟨j, 0, some 0⟩) (nl b) q] h (.slice (some ⟨K, 0, some 0⟩) 0 0) [(K, zC)] [i, j] := by
  have ha0 : nl a = 0 := by omega
  have hb0 : nl b = 0 := by have := nl0 ha0; omega
  refine call_res (G := tys) (fun _ : Unit => True) (fun _ => partH [⟨i, _, numC false m a, ⟨false, 0, []⟩⟩, ⟨j, _, numC false q b, ⟨false, 0, []⟩⟩]) [⟨i, _, numC false m a, ⟨false, 0, []⟩⟩, ⟨j, _, numC false q b, ⟨false, 0, []⟩⟩] [⟨K, 10, zC⟩] [.slice (some ⟨0, 0, some 0⟩) (nl a) m, .slice (some ⟨1, 0, some 0⟩) (nl b) q] tysOK mixed Tryz.func93 (by rfl) (Tryz.call93) ⟨hi, hj, trivial⟩ ⟨⟨fun h => (by cases h), Nat.le_of_eq hin.1.symm, num_re hin⟩, ⟨fun h => (by cases h), Nat.le_of_eq hjn.1.symm, num_re hjn⟩, trivial⟩ (by simp [Apart]) ⟨.inl rfl, .inl rfl, trivial⟩ ⟨⟨h0, rfl, .inr zX_selfish, by simp⟩, trivial⟩ ⟨.slice rfl, .slice rfl, trivial⟩ Opens.same (fun _ _ => ?_)
  repeat' (refine N.go ?_; first | with_reducible (first | refine N.obl (by decide) ?_ | refine N.eq ?_ | refine N.obl rfl ?_ | refine N.obl ⟨by kernel_rfl, by kernel_rfl⟩ ?_ | refine N.alt ?_ | refine N.forkT ?_ | refine N.forkF ?_) | refine N.mk (.inr ⟨by rw [ha0, hb0]; rfl, by rw [ha0, hb0]; rfl, ?_⟩) | refine N.roll 1 ?_ | refine N.forkNo (by rw [ha0]; rfl) ?_ | refine N.call (cTrim 0 0 0 _ _ _ (by rfl) zc_num (Nat.le_refl _) (by omega) (by rw [bw_zero]; decide)) ?_ | refine N.endSame ?_ | refine N.obl (re_sl (by rfl) (by rw [nl_zero])) ?_ | refine N.obl ⟨⟨by show 2 ≤ 10; decide, post_z (by rfl)⟩, trivial⟩ ?_ | refine N.obl ⟨⟨.inl rfl, .inl rfl, trivial⟩, ⟨.inr ⟨_, by rfl, rfl⟩, trivial⟩⟩ ?_ | refine N.forkNo (by decide) ?_ | refine N.forkYes (by decide) ?_ | refine N.obl trivial ?_ | exact N.true | fail)
theorem cMinus0 (a b m q i j K : Nat) (o o2 : Chunk) (h : List (Option Chunk)) (hi : h[i]? = some (some o)) (hin : IsNum o m a) (hj : h[j]? = some (some o2)) (hjn : IsNum o2 q b) (hl : nl a ≤ m) (hm : m ≤ 31) (hl2 : nl b ≤ q) (hq : q ≤ 31) (hz : nl a = 0) (hba : b ≤ a) (h0 : h[K]? = some none) :
    CallOK Tryz.prog 107 [.slice (some ⟨i, 0, some 0⟩) (nl a) m, .slice (some ⟨j, 0, some 0⟩) (nl b) q] h (.slice (some ⟨K, 0, some 0⟩) 0 0) [(K, zC)] [i, j] := by
  have ha0 : nl a = 0 := by omega
  have hb0 : nl b = 0 := by have := nl0 ha0; have hb : b = 0 := (by omega); rw [hb, nl_zero]
  refine call_res (G := tys) (fun _ : Unit => True) (fun _ => partH [⟨i, _, numC false m a, ⟨false, 0, []⟩⟩, ⟨j, _, numC false q b, ⟨false, 0, []⟩⟩]) [⟨i, _, numC false m a, ⟨false, 0, []⟩⟩, ⟨j, _, numC false q b, ⟨false, 0, []⟩⟩] [⟨K, 6, zC⟩] [.slice (some ⟨0, 0, some 0⟩) (nl a) m, .slice (some ⟨1, 0, some 0⟩) (nl b) q] tysOK mixed Tryz.func107 (by rfl) (Tryz.call107) ⟨hi, hj, trivial⟩ ⟨⟨fun h => (by cases h), Nat.le_of_eq hin.1.symm, num_re hin⟩, ⟨fun h => (by cases h), Nat.le_of_eq hjn.1.symm, num_re hjn⟩, trivial⟩ (by simp [Apart]) ⟨.inl rfl, .inl rfl, trivial⟩ ⟨⟨h0, rfl, .inr zX_selfish, by simp⟩, trivial⟩ ⟨.slice rfl, .slice rfl, trivial⟩ Opens.same (fun _ _ => ?_)
  repeat' (refine N.go ?_; first | with_reducible (first | refine N.obl (by decide) ?_ | refine N.eq ?_ | refine N.obl rfl ?_ | refine N.obl ⟨by kernel_rfl, by kernel_rfl⟩ ?_ | refine N.alt ?_ | refine N.forkT ?_ | refine N.forkF ?_) | refine N.mk (.inr ⟨by rw [ha0]; rfl, by rw [ha0]; rfl, ?_⟩) | refine N.roll 1 ?_ | refine N.forkNo (by rw [ha0]; rfl) ?_ | refine N.call (cTrim 0 0 0 _ _ _ (by rfl) zc_num (Nat.le_refl _) (by omega) (by rw [bw_zero]; decide)) ?_ | refine N.endSame ?_ | refine N.obl (re_sl (by rfl) (by rw [nl_zero])) ?_ | refine N.obl ⟨⟨by show 2 ≤ 6; decide, post_z (by rfl)⟩, trivial⟩ ?_ | refine N.obl ⟨⟨.inl rfl, .inl rfl, trivial⟩, ⟨.inr ⟨_, by rfl, rfl⟩, trivial⟩⟩ ?_ | refine N.forkNo (by decide) ?_ | refine N.forkYes (by decide) ?_ | refine N.obl trivial ?_ | exact N.true | fail)
end Go.Proofs.YtimccfnlcnlffaaGreat


namespace Go.Proofs.YtimccfnlcnlffaaGreat
open Go Go.RowKit Sx
structure Nm where
  v : Nat
  b : Nat
  o : Nat
  c : Nat
abbrev Nm.sl (e : Nm) : Value := .slice (some ⟨e.b, e.o, none⟩) (nl e.v) e.c
abbrev Nm.big (s : Bool) (e : Nm) : Value := .agg #[.bool s, .bool false, .slice (some ⟨e.b, e.o, none⟩) (nl e.v) e.c]
structure NumAt (w : World) (e : Nm) : Prop where
  lt : e.b < w.heap.size
  len : nl e.v ≤ e.c
  cap : e.c ≤ 31
  cell : ∀ j, j < e.c → w.cell? ⟨e.b, e.o + j, none⟩ = some (.int .u32 ((lm e.v j : Nat) : Int))
theorem cell_same {w w' : World} {b o : Nat} (h : w'.heap[b]? = w.heap[b]?) : w'.cell? ⟨b, o, none⟩ = w.cell? ⟨b, o, none⟩ := by
  simp only [World.cell?, h]
theorem NumAt.keep {w w' : World} {e : Nm} (h : NumAt w e) (hb : w'.heap[e.b]? = w.heap[e.b]?) : NumAt w' e := by
  refine ⟨?_, h.len, h.cap, fun j hj => (cell_same hb).trans (h.cell j hj)⟩
  have hlt := h.lt
  have : w.heap[e.b]? = some (w.heap[e.b]'hlt) := Array.getElem?_eq_getElem hlt
  rw [this] at hb
  exact (Array.getElem?_eq_some_iff.1 hb).1
theorem NumAt.below {w w' : World} {e : Nm} (h : NumAt w e) (hb : Below w.heap.size w w') : NumAt w' e := h.keep (hb.block e.b h.lt)
abbrev arX (L : List Nm) : Ext where
  inv := fun p S w => ∀ e ∈ L, S e.b ∧ NumAt w e
  keep := fun h hb e he => ⟨(h e he).1, (h e he).2.keep (hb _ (h e he).1)⟩
abbrev arC (L : List Nm) : Chunk := @Chunk.mk (arX L) true 0 []
section
variable {X : Ctx} {ρ : Nat → Nat × Nat} {h : List (Option Chunk)} {w w' : World}
theorem ar_new {K : Nat} {es : List Nm} {e0 : Nm} (H : HOK X ρ h w) (hi : h[K]? = some none) (hB : Below w.heap.size w w') (h0 : e0 ∈ es) (hes : ∀ e ∈ es, NumAt w' e ∧ w.heap.size ≤ e.b) : ∃ ρ', AgreeOn (Fil h) ρ ρ' ∧ HOK X ρ' (h.set K (some (arC es))) w' := by
  obtain ⟨ρ', h1, _, h2⟩ := H.newX hi (d := arC es) (b0 := e0.b) (S' := fun b => ∃ e ∈ es, b = e.b) rfl hB ⟨(hes e0 h0).2, (hes e0 h0).1.lt⟩ (fun b ⟨e, he, hb⟩ => by subst hb; exact ⟨(hes e he).2, (hes e he).1.lt⟩) (fun e he => ⟨⟨e, he, rfl⟩, (hes e he).1⟩)
  exact ⟨ρ', h1, h2⟩
theorem ar_more {i : Nat} {L es : List Nm} (H : HOK X ρ h w) (hi : h[i]? = some (some (arC L))) (hB : Below w.heap.size w w') (hes : ∀ e ∈ es, NumAt w' e ∧ w.heap.size ≤ e.b) : HOK X ρ (h.set i (some (arC (es ++ L)))) w' := by
  obtain ⟨S, E⟩ := H.ext
  have hin := E.inv i _ hi
  refine H.turnX E hi (d := arC (es ++ L)) (S' := fun b => S i b ∨ ∃ e ∈ es, b = e.b) id (Nat.le_refl _) (fun j hj => absurd hj (Nat.not_lt_zero j)) hB.os hB.tape hB.output hB.size (fun b hb _ => hB.block b hb) (fun b hb => ?_) (fun e he => ?_)
  · rcases hb with hb | ⟨e, he, rfl⟩
    · exact ⟨Nat.lt_of_lt_of_le (E.mine i _ b hi hb).2.1 hB.size, .inl rfl, .inl hb⟩
    · exact ⟨(hes e he).1.lt, .inl rfl, .inr (hes e he).2⟩
  · rcases List.mem_append.1 he with he | he
    · exact ⟨.inr ⟨e, he, rfl⟩, (hes e he).1⟩
    · exact ⟨.inl (hin e he).1, (hin e he).2.below hB⟩
end
inductive SrcS (h : List (Option Chunk)) (L : List Nm) : Value → Nat → Prop
  | ar {e : Nm} (he : e ∈ L) : SrcS h L (.slice (some ⟨e.b, e.o, none⟩) (nl e.v) e.c) e.v
  | ch {j v c : Nat} {o : Chunk} (hj : h[j]? = some (some o)) (hn : IsNum o c v) (hl : nl v ≤ c) (hm : c ≤ 31) : SrcS h L (.slice (some ⟨j, 0, some 0⟩) (nl v) c) v
inductive AV where
  | at_ (e : Nm)
  | bigat (s : Bool) (e : Nm)
  | pl (v : Value)
  | sl (v : Nat)
  | big (s : Bool) (v : Nat)
inductive ArgS (h : List (Option Chunk)) (L : List Nm) : Value → AV → Prop
  | at_ {e : Nm} (he : e ∈ L) : ArgS h L (.slice (some ⟨e.b, e.o, none⟩) (nl e.v) e.c) (.at_ e)
  | bigat {s : Bool} {e : Nm} (he : e ∈ L) : ArgS h L (.agg #[.bool s, .bool false, .slice (some ⟨e.b, e.o, none⟩) (nl e.v) e.c]) (.bigat s e)
  | pl {v : Value} (hp : plain2 v = true) : ArgS h L v (.pl v)
  | sl {sv : Value} {v : Nat} (s : SrcS h L sv v) : ArgS h L sv (.sl v)
  | big {b : Bool} {sv : Value} {v : Nat} (s : SrcS h L sv v) : ArgS h L (.agg #[.bool b, .bool false, sv]) (.big b v)
inductive AR (w : World) : AV → Value → Prop
  | at_ {e : Nm} (ha : NumAt w e) : AR w (.at_ e) e.sl
  | bigat {s : Bool} {e : Nm} (ha : NumAt w e) : AR w (.bigat s e) (e.big s)
  | pl {v : Value} (hp : plain2 v = true) : AR w (.pl v) v
  | sl {e : Nm} {v : Nat} (ha : NumAt w e) (hv : e.v = v) : AR w (.sl v) e.sl
  | big {s : Bool} {e : Nm} {v : Nat} (ha : NumAt w e) (hv : e.v = v) : AR w (.big s v) (e.big s)
theorem SrcS.at {X : Ctx} {ρ : Nat → Nat × Nat} {h : List (Option Chunk)} {w : World} {L : List Nm} {sv : Value} {v : Nat} (H : HOK X ρ h w) (ha : ∀ e ∈ L, NumAt w e) (s : SrcS h L sv v) :
    ∃ e : Nm, NumAt w e ∧ e.v = v ∧ den ρ sv = e.sl ∧ den0 ρ sv = e.sl ∧ den1 ρ sv = e.sl := by
  cases s with
  | ar he => rename_i e; exact ⟨e, ha e he, rfl, rfl, rfl, rfl⟩
  | ch hj hn hl hm =>
    rename_i j c o
    refine ⟨⟨v, (ρ j).1, (ρ j).2, c⟩, ⟨H.lt j o hj, hl, hm, fun k hk => ?_⟩, rfl, rfl, rfl, rfl⟩
    obtain ⟨x, hx, hd⟩ := H.cell j o hj k (by rw [hn.1]; exact hk)
    rw [hn.2 k hk] at hd
    show w.cell? ⟨(ρ j).1, (ρ j).2 + k, none⟩ = _
    rw [hx, ← hd.self]; rfl
theorem args_at {X : Ctx} {ρ : Nat → Nat × Nat} {h : List (Option Chunk)} {w : World} {L : List Nm} (H : HOK X ρ h w) (ha : ∀ e ∈ L, NumAt w e) : ∀ {vs : List Value} {qs : List AV} {xs : List Value}, All2 (ArgS h L) vs qs → All2 (Den (Fil h) ρ) vs xs → All2 (AR w) qs xs
  | [], [], [], _, _ => trivial
  | [], [], _ :: _, _, h => h.elim
  | [], _ :: _, _, h, _ => h.elim
  | _ :: _, [], _, h, _ => h.elim
  | _ :: _, _ :: _, [], _, h => h.elim
  | v :: vs, a :: qs, x :: xs, h1, h2 => by
    refine ⟨?_, args_at H ha h1.2 h2.2⟩
    have hd := h2.1.self
    cases h1.1 with
    | at_ he => rename_i e; rw [← hd]; exact .at_ (ha e he)
    | bigat he =>
      rename_i s e
      rw [den_plain (v := Nm.big s e) rfl] at hd
      rw [← hd]; exact .bigat (ha e he)
    | pl hp => rw [den_plain hp] at hd; rw [← hd]; exact .pl hp
    | sl s =>
      obtain ⟨e, h1, h2, h3, _⟩ := s.at H ha
      rw [h3] at hd; rw [← hd]; exact .sl h1 h2
    | big s =>
      rename_i b sv u
      obtain ⟨e, h1, h2, _, _, h3⟩ := s.at H ha
      have e1 : den ρ (.agg #[.bool b, .bool false, sv]) = .agg #[den1 ρ (.bool b), den1 ρ (.bool false), den1 ρ sv] := by
        simp only [den, den2, List.map_toArray, List.map_cons, List.map_nil]
      rw [e1, h3] at hd
      rw [← hd]; exact .big h1 h2
section
variable {P : Program} {G : Tys}
theorem call_arM {g : FuncId} {vs : List Value} {qs : List AV} {h : List (Option Chunk)} {L : List Nm} {α : Type} (i : Nat) (hi : h[i]? = some (some (arC L))) (ok : α → Prop) (V : α → Value) (es : α → List Nm) (hr : ∀ xs w, (callFunc g xs).run P w = .ok (.enter g xs) w) (ha : All2 (ArgS h L) vs qs) (hV : ∀ κ, ok κ → plain3 (V κ) = true)
    (hc : ∀ w xs, All2 (AR w) qs xs → Calls P g ⟨xs⟩ w fun e w' => ∃ κ, ok κ ∧ e = .returned (V κ) ∧ Below w.heap.size w w' ∧ ∀ n ∈ es κ, NumAt w' n ∧ w.heap.size ≤ n.b) :
    CallAll P g vs h fun v ms => ∃ κ, ok κ ∧ v = V κ ∧ ms = [(i, arC (es κ ++ L))] := fun X ρ w xs H hx => by
  obtain ⟨S, E⟩ := H.ext
  have hL : ∀ e ∈ L, NumAt w e := fun e he => ((E.inv i _ hi) e he).2
  refine .inr ⟨hr _ w, (hc w xs (args_at H hL ha hx)).mono ?_⟩
  rintro e w' ⟨κ, hok, rfl, hB, hes⟩
  exact ⟨V κ, rfl, V κ, _, ρ, ⟨κ, hok, rfl, rfl⟩, AgreeOn.refl _ _, ar_more H hi hB hes, fun r _ => den_plain3 (hV κ hok) r⟩
theorem call_arN {g : FuncId} {vs : List Value} {qs : List AV} {h : List (Option Chunk)} {α : Type} (K : Nat) (hi : h[K]? = some none) (ok : α → Prop) (V : α → Value) (es : α → List Nm) (hr : ∀ xs w, (callFunc g xs).run P w = .ok (.enter g xs) w) (ha : All2 (ArgS h []) vs qs) (hV : ∀ κ, ok κ → plain3 (V κ) = true) (h0 : ∀ κ, ok κ → es κ ≠ [])
    (hc : ∀ w xs, All2 (AR w) qs xs → Calls P g ⟨xs⟩ w fun e w' => ∃ κ, ok κ ∧ e = .returned (V κ) ∧ Below w.heap.size w w' ∧ ∀ n ∈ es κ, NumAt w' n ∧ w.heap.size ≤ n.b) :
    CallAll P g vs h fun v ms => ∃ κ, ok κ ∧ v = V κ ∧ ms = [(K, arC (es κ))] := fun X ρ w xs H hx => by
  refine .inr ⟨hr _ w, (hc w xs (args_at H (fun e he => by cases he) ha hx)).mono ?_⟩
  rintro e w' ⟨κ, hok, rfl, hB, hes⟩
  obtain ⟨e0, he0⟩ := List.exists_mem_of_ne_nil _ (h0 κ hok)
  obtain ⟨ρ', h1, h2⟩ := ar_new H hi hB he0 hes
  exact ⟨V κ, rfl, V κ, _, ρ', ⟨κ, hok, rfl, rfl⟩, h1, h2, fun r _ => den_plain3 (hV κ hok) r⟩
theorem call_arP {g : FuncId} {vs : List Value} {qs : List AV} {h : List (Option Chunk)} {L : List Nm} {V : Value} (rh : List Nat) (i : Nat) (hi : h[i]? = some (some (arC L)) ∨ L = []) (hrh : i ∈ rh ∨ L = []) (hr : ∀ xs w, (callFunc g xs).run P w = .ok (.enter g xs) w) (ha : ∀ h₂ : List (Option Chunk), (∀ i ∈ rh, h₂[i]? = h[i]?) → All2 (ArgS h₂ L) vs qs) (hV : plain3 V = true)
    (hc : ∀ w xs, All2 (AR w) qs xs → Calls P g ⟨xs⟩ w fun e w' => e = .returned V ∧ Below w.heap.size w w') :
    CallOK P g vs h V [] rh := fun h₂ hrr _ X ρ w xs H hx => by
  obtain ⟨S, E⟩ := H.ext
  have hL : ∀ e ∈ L, NumAt w e := fun e he => by
    rcases hi with hi | hi
    · rcases hrh with h1 | h1
      · exact ((E.inv i _ ((hrr i h1).trans hi)) e he).2
      · rw [h1] at he; cases he
    · rw [hi] at he; cases he
  refine .inr ⟨hr _ w, (hc w xs (args_at H hL (ha h₂ hrr) hx)).mono ?_⟩
  rintro e w' ⟨rfl, hB⟩
  exact ⟨V, rfl, ρ, AgreeOn.refl _ _, H.frame hB, fun r _ => den_plain3 hV r⟩
def numH (es : List Nm) : List (Option Chunk) := es.map fun e => some (numC false e.c e.v)
def numρ (es : List Nm) (k : Nat) : Nat × Nat := match es[k]? with
  | some e => (e.b, e.o)
  | none => (0, 0)
theorem num_hok {es : List Nm} {w : World} (m : Nat) (he : ∀ e ∈ es, NumAt w e) : HOK ⟨w, fun _ => False, 0, numρ es⟩ (numρ es) (numH es ++ List.replicate m none) w := by
  have getP : ∀ (k : Nat) (c : Chunk), (numH es ++ List.replicate m none)[k]? = some (some c) → ∃ e : Nm, es[k]? = some e ∧ numC false e.c e.v = c := fun k c hk => by
    have hlen : (numH es).length = es.length := by simp [numH]
    rcases Nat.lt_or_ge k es.length with hlt | hge
    · rw [List.getElem?_append_left (by omega)] at hk
      simp only [numH, List.getElem?_map] at hk
      cases e : es[k]? with
      | none => rw [e] at hk; cases hk
      | some s => rw [e] at hk; exact ⟨s, rfl, by simpa using hk⟩
    · rw [List.getElem?_append_right (by omega), List.getElem?_replicate] at hk
      split at hk
      · cases hk
      · cases hk
  have hρ : ∀ (k : Nat) (e : Nm), es[k]? = some e → numρ es k = (e.b, e.o) := fun k e hk => by unfold numρ; rw [hk]
  refine ⟨Evo.refl _ _, fun i hi => absurd hi (by simp), fun k c hk => ?_, fun k c hk j hj => ?_, fun k c hk ho => ?_, fun k c l d hk ho => ?_, ExtOK.nil fun k c hk => ?_⟩
  · obtain ⟨e, hs, rfl⟩ := getP k c hk
    rw [hρ k e hs]; exact (he e (List.mem_of_getElem? hs)).lt
  · obtain ⟨e, hs, rfl⟩ := getP k c hk
    have hj : j < e.c := hj
    rw [hρ k e hs, seg_cell hj]
    exact ⟨_, (he e (List.mem_of_getElem? hs)).cell j hj, Den1.plain rfl⟩
  · obtain ⟨e, hs, rfl⟩ := getP k c hk; cases ho
  · obtain ⟨e, hs, rfl⟩ := getP k c hk; cases ho
  · obtain ⟨e, hs, rfl⟩ := getP k c hk; rfl
inductive NArg (es : List Nm) : Value → Value → Prop
  | pl {v : Value} (hp : plain2 v = true) : NArg es v v
  | sl {k : Nat} {e : Nm} (h : es[k]? = some e) : NArg es (.slice (some ⟨k, 0, some 0⟩) (nl e.v) e.c) e.sl
  | big {k : Nat} {e : Nm} {s : Bool} (h : es[k]? = some e) : NArg es (.agg #[.bool s, .bool false, .slice (some ⟨k, 0, some 0⟩) (nl e.v) e.c]) (e.big s)
theorem narg_den {es : List Nm} {m : Nat} : ∀ {vs xs : List Value}, All2 (NArg es) vs xs → All2 (Den (Fil (numH es ++ List.replicate m none)) (numρ es)) vs xs
  | [], [], _ => trivial
  | [], _ :: _, h => h.elim
  | _ :: _, [], h => h.elim
  | v :: vs, x :: xs, h => by
    refine ⟨?_, narg_den h.2⟩
    have fil : ∀ (k : Nat) (e : Nm), es[k]? = some e → Fil (numH es ++ List.replicate m none) k := fun k e hk => ⟨numC false e.c e.v, by
      rw [List.getElem?_append_left (by simp [numH]; exact (List.getElem?_eq_some_iff.1 hk).1)]
      simp only [numH, List.getElem?_map, hk]; rfl⟩
    have hρ : ∀ (k : Nat) (e : Nm), es[k]? = some e → numρ es k = (e.b, e.o) := fun k e hk => by unfold numρ; rw [hk]
    cases h.1 with
    | pl hp => exact Den.plain hp
    | sl hk =>
      intro r hr
      have e1 := hr _ (fil _ _ hk)
      rw [hρ _ _ hk] at e1
      simp only [den, den2, den1, den0, denA, e1]; rfl
    | big hk =>
      intro r hr
      have e1 := hr _ (fil _ _ hk)
      rw [hρ _ _ hk] at e1
      simp only [den, den2, List.map_toArray, List.map_cons, List.map_nil, den1, den0, denA, e1]; rfl
theorem num_new {g : FuncId} {vs xs : List Value} {es : List Nm} {m v : Nat} {V : Nat → Value} {rh : List Nat} {w : World} (hr : ∀ xs w, (callFunc g xs).run P w = .ok (.enter g xs) w) (he : ∀ e ∈ es, NumAt w e) (hx : All2 (NArg es) vs xs) (hm : 0 < m ∧ m ≤ 31) (hl : nl v ≤ m) (W : Nm → Value)
    (hW : ∀ (r : Nat → Nat × Nat), den r (V es.length) = W ⟨v, (r es.length).1, (r es.length).2, m⟩)
    (hc : CallOK P g vs (numH es ++ [none]) (V es.length) [(es.length, numC true m v)] rh) : Calls P g ⟨xs⟩ w fun e w' => ∃ κ : Nm, κ.v = v ∧ e = .returned (W κ) ∧ Below w.heap.size w w' ∧ NumAt w' κ ∧ w.heap.size ≤ κ.b := by
  rcases hc _ (fun _ _ => rfl) (fun _ _ => rfl) _ _ w xs (num_hok 1 he) (narg_den (m := 1) hx) with ⟨x, w', hrun, _⟩ | ⟨_, hcl⟩
  · rw [hr] at hrun; cases hrun
  refine hcl.mono ?_
  rintro e w' ⟨x, rfl, ρ', _, H, hd⟩
  have hk : (modH (numH es ++ [none]) [(es.length, numC true m v)])[es.length]? = some (some (numC true m v)) := by
    show ((numH es ++ [none]).set es.length _)[es.length]? = _
    rw [List.getElem?_set_self (by simp [numH])]
  refine ⟨⟨v, (ρ' es.length).1, (ρ' es.length).2, m⟩, rfl, ?_, H.evo.below, ⟨H.lt _ _ hk, hl, hm.2, fun j hj => ?_⟩, ?_⟩
  · rw [← hW ρ', hd.self]
  · obtain ⟨y, hy, hyd⟩ := H.cell _ _ hk j hj
    rw [seg_cell hj] at hyd
    rw [hy, ← hyd.self]; rfl
  · rcases (H.own _ _ hk rfl 0 hm.1).2 with h1 | h1
    · exact h1
    · exact h1.elim
theorem num_same {g : FuncId} {vs xs : List Value} {es : List Nm} {V : Value} {rh : List Nat} {w : World} (hr : ∀ xs w, (callFunc g xs).run P w = .ok (.enter g xs) w) (he : ∀ e ∈ es, NumAt w e) (hx : All2 (NArg es) vs xs) (W : Value)
    (hW : All2 (NArg es) [V] [W]) (hc : CallOK P g vs (numH es ++ []) V [] rh) : Calls P g ⟨xs⟩ w fun e w' => e = .returned W ∧ Below w.heap.size w w' := by
  rcases hc _ (fun _ _ => rfl) (fun _ _ => rfl) _ _ w xs (num_hok 0 he) (narg_den (m := 0) hx) with ⟨x, w', hrun, _⟩ | ⟨_, hcl⟩
  · rw [hr] at hrun; cases hrun
  refine hcl.mono ?_
  rintro e w' ⟨x, rfl, ρ', ha, H, hd⟩
  refine ⟨?_, H.evo.below⟩
  have h1 := (narg_den (m := 0) hW).1 ρ' ha
  rw [← h1, hd.self]
theorem num_new0 {g : FuncId} {vs xs : List Value} {es : List Nm} {V : Nat → Value} {rh : List Nat} {w : World} (hr : ∀ xs w, (callFunc g xs).run P w = .ok (.enter g xs) w) (he : ∀ e ∈ es, NumAt w e) (hx : All2 (NArg es) vs xs) (W : Nm → Value)
    (hW : ∀ (r : Nat → Nat × Nat), den r (V es.length) = W ⟨0, (r es.length).1, (r es.length).2, 0⟩)
    (hc : CallOK P g vs (numH es ++ [none]) (V es.length) [(es.length, zC)] rh) : Calls P g ⟨xs⟩ w fun e w' => ∃ κ : Nm, κ.v = 0 ∧ e = .returned (W κ) ∧ Below w.heap.size w w' ∧ NumAt w' κ ∧ w.heap.size ≤ κ.b := by
  rcases hc _ (fun _ _ => rfl) (fun _ _ => rfl) _ _ w xs (num_hok 1 he) (narg_den (m := 1) hx) with ⟨x, w', hrun, _⟩ | ⟨_, hcl⟩
  · rw [hr] at hrun; cases hrun
  refine hcl.mono ?_
  rintro e w' ⟨x, rfl, ρ', _, H, hd⟩
  have hk : (modH (numH es ++ [none]) [(es.length, zC)])[es.length]? = some (some zC) := by
    show ((numH es ++ [none]).set es.length _)[es.length]? = _
    rw [List.getElem?_set_self (by simp [numH])]
  obtain ⟨S, E⟩ := H.ext
  obtain ⟨hS, _⟩ := E.inv _ _ hk
  refine ⟨⟨0, (ρ' es.length).1, (ρ' es.length).2, 0⟩, rfl, ?_, H.evo.below, ⟨H.lt _ _ hk, by rw [nl_zero]; exact Nat.le_refl _, by show (0 : Nat) ≤ 31; omega, fun j hj => absurd hj (Nat.not_lt_zero j)⟩, ?_⟩
  · rw [← hW ρ', hd.self]
  · rcases (E.mine _ _ _ hk ((hS _).2 rfl)).2.2 with h1 | h1
    · exact h1
    · exact h1.1.elim
theorem N_callM {g : FuncId} {vs : List Value} {h : List (Option Chunk)} {slot : Nat} {C : List Nat → Prop} {K : List Nat → Value → List (Nat × Chunk) → Prop} (hs : List Nat) (R : Value → List (Nat × Chunk) → Prop) (hC : C hs) (hc : ∀ h₂ : List (Option Chunk), (∀ q ∈ hs, h₂[q]? = h[q]?) → CallAll P g vs h₂ R) (k : ∀ v ms, R v ms → (∀ q ∈ ms.map (·.1), q ∈ hs) ∧ K hs v ms) : N (CallM P g vs h slot C K) := N.mk ⟨hs, R, hC, hc, k⟩
def Mk (P : Program) (g : FuncId) (xs : List Value) (w : World) (v : Nat) (W : Nm → Value) : Prop := Calls P g ⟨xs⟩ w fun e w' => ∃ κ : Nm, κ.v = v ∧ e = .returned (W κ) ∧ Below w.heap.size w w' ∧ NumAt w' κ ∧ w.heap.size ≤ κ.b
theorem mk_arM {g : FuncId} {vs : List Value} {qs : List AV} {h : List (Option Chunk)} {L : List Nm} (i : Nat) (hi : h[i]? = some (some (arC L))) (v : Nat) (W : Nm → Value) (hr : ∀ xs w, (callFunc g xs).run P w = .ok (.enter g xs) w) (ha : All2 (ArgS h L) vs qs) (hW : ∀ κ : Nm, plain3 (W κ) = true) (hc : ∀ w xs, All2 (AR w) qs xs → Mk P g xs w v W) :
    CallAll P g vs h fun x ms => ∃ κ : Nm, κ.v = v ∧ x = W κ ∧ ms = [(i, arC (κ :: L))] :=
  call_arM i hi (fun κ : Nm => κ.v = v) W (fun κ => [κ]) hr ha (fun κ _ => hW κ) fun w xs hx => (hc w xs hx).mono fun e w' ⟨κ, h1, h2, h3, h4, h5⟩ => ⟨κ, h1, h2, h3, fun n hn => by rw [List.mem_singleton.1 hn]; exact ⟨h4, h5⟩⟩
theorem mk_arN {g : FuncId} {vs : List Value} {qs : List AV} {h : List (Option Chunk)} (K : Nat) (hi : h[K]? = some none) (v : Nat) (W : Nm → Value) (hr : ∀ xs w, (callFunc g xs).run P w = .ok (.enter g xs) w) (ha : All2 (ArgS h []) vs qs) (hW : ∀ κ : Nm, plain3 (W κ) = true) (hc : ∀ w xs, All2 (AR w) qs xs → Mk P g xs w v W) :
    CallAll P g vs h fun x ms => ∃ κ : Nm, κ.v = v ∧ x = W κ ∧ ms = [(K, arC [κ])] :=
  call_arN K hi (fun κ : Nm => κ.v = v) W (fun κ => [κ]) hr ha (fun κ _ => hW κ) (fun _ _ => by simp) fun w xs hx => (hc w xs hx).mono fun e w' ⟨κ, h1, h2, h3, h4, h5⟩ => ⟨κ, h1, h2, h3, fun n hn => by rw [List.mem_singleton.1 hn]; exact ⟨h4, h5⟩⟩
def EndM (h : List (Option Chunk)) (x : Value) (v : Nat) (W : Nm → Value) : Prop := ∃ (κ : Nm) (i : Nat) (L : List Nm), κ.v = v ∧ x = W κ ∧ h[i]? = some (some (arC L)) ∧ κ ∈ L
theorem N.endM {h : List (Option Chunk)} {x : Value} {v : Nat} {W : Nm → Value} (κ : Nm) (i : Nat) {L : List Nm} (h1 : κ.v = v) (h2 : x = W κ) (h3 : h[i]? = some (some (arC L))) (h4 : κ ∈ L) : N (EndM h x v W) := N.mk ⟨κ, i, L, h1, h2, h3, h4⟩
theorem calls_nums {f : FuncId} {fn : Func} {c : Code} {vs xs : List Value} {es : List Nm} {v : Nat} {W : Nm → Value} (w : World) (hG : TysOK P G) (hm : P.follows .mixedOrders = true) (hf : P.funcs[f]? = some fn) (hb : fn.body = some c) (he : ∀ e ∈ es, NumAt w e) (hx : All2 (NArg es) vs xs) (hW : ∀ κ : Nm, plain3 (W κ) = true)
    (hwp : initK vs fn.ntmps fun t => wpC P G 0 c (bodyQ P G fn fun x st => N (EndM st.h x v W)) ⟨t, numH es⟩) : Mk P f xs w v W := by
  have H := num_hok (w := w) 0 he
  have hd := narg_den (m := 0) hx
  simp only [List.replicate_zero, List.append_nil] at H hd
  refine (calls_sx (args := ⟨xs⟩) hG hm hf hb H hd hwp).mono ?_
  rintro e w' ⟨ρ', x, st, y, rfl, H', hdx, hq⟩
  obtain ⟨κ, i, L, h1, h2, h3, h4⟩ := hq.out
  obtain ⟨S, E⟩ := H'.ext
  obtain ⟨g1, g2⟩ := E.inv i _ h3 κ h4
  refine ⟨κ, h1, ?_, H'.evo.below, g2, ?_⟩
  · rw [← hdx.self, h2, den_plain3 (hW κ)]
  · rcases (E.mine _ _ _ h3 g1).2.2 with h5 | h5
    · exact h5
    · exact h5.1.elim
end
end Go.Proofs.YtimccfnlcnlffaaGreat


namespace Go.Proofs.YtimccfnlcnlffaaGreat
open Go Go.RowKit Sx
abbrev bz (z : Int) : AV := .big (decide (z < 0)) z.natAbs
abbrev bzW (z : Int) (κ : Nm) : Value := .agg #[.bool (decide (z < 0)), .bool false, .slice (some ⟨κ.b, κ.o, none⟩) (nl κ.v) κ.c]
theorem ar_sl2 {w : World} {a b : Nat} {xs : List Value} (hx : All2 (AR w) [.sl a, .sl b] xs) : ∃ e e' : Nm, xs = [e.sl, e'.sl] ∧ NumAt w e ∧ e.v = a ∧ NumAt w e' ∧ e'.v = b := by
  rcases xs with _ | ⟨x, _ | ⟨y, _ | ⟨z, xs⟩⟩⟩ <;> first | exact hx.elim | exact hx.2.elim | exact hx.2.2.elim | skip
  obtain ⟨h1, h2, _⟩ := hx
  cases h1 with
  | sl a1 v1 => cases h2 with
    | sl a2 v2 => exact ⟨_, _, rfl, a1, v1, a2, v2⟩
theorem ar_big2 {w : World} {s u : Bool} {a b : Nat} {xs : List Value} (hx : All2 (AR w) [.big s a, .big u b] xs) : ∃ e e' : Nm, xs = [e.big s, e'.big u] ∧ NumAt w e ∧ e.v = a ∧ NumAt w e' ∧ e'.v = b := by
  rcases xs with _ | ⟨x, _ | ⟨y, _ | ⟨z, xs⟩⟩⟩ <;> first | exact hx.elim | exact hx.2.elim | exact hx.2.2.elim | skip
  obtain ⟨h1, h2, _⟩ := hx
  cases h1 with
  | big a1 v1 => cases h2 with
    | big a2 v2 => exact ⟨_, _, rfl, a1, v1, a2, v2⟩
theorem ar_big3 {w : World} {s u r : Bool} {a b c : Nat} {xs : List Value} (hx : All2 (AR w) [.big s a, .big u b, .big r c] xs) : ∃ e e' e'' : Nm, xs = [e.big s, e'.big u, e''.big r] ∧ NumAt w e ∧ e.v = a ∧ NumAt w e' ∧ e'.v = b ∧ NumAt w e'' ∧ e''.v = c := by
  rcases xs with _ | ⟨x, _ | ⟨y, _ | ⟨z, _ | ⟨z', xs⟩⟩⟩⟩ <;> first | exact hx.elim | exact hx.2.elim | exact hx.2.2.elim | exact hx.2.2.2.elim | skip
  obtain ⟨h1, h2, h3, _⟩ := hx
  cases h1 with
  | big a1 v1 => cases h2 with
    | big a2 v2 => cases h3 with
      | big a3 v3 => exact ⟨_, _, _, rfl, a1, v1, a2, v2, a3, v3⟩
theorem ar_pl1 {w : World} {v : Value} {xs : List Value} (hx : All2 (AR w) [.pl v] xs) : xs = [v] := by
  rcases xs with _ | ⟨x, _ | ⟨y, xs⟩⟩ <;> first | exact hx.elim | exact hx.2.elim | skip
  obtain ⟨h1, _⟩ := hx
  cases h1; rfl
theorem two_at {w : World} {e e' : Nm} (h : NumAt w e) (h' : NumAt w e') : ∀ x ∈ [e, e'], NumAt w x := fun x hx => by
  rcases List.mem_cons.1 hx with rfl | hx
  · exact h
  · rw [List.mem_singleton.1 hx]; exact h'
theorem one_at {w : World} {e : Nm} (h : NumAt w e) : ∀ x ∈ [e], NumAt w x := fun x hx => by rw [List.mem_singleton.1 hx]; exact h
theorem three_at {w : World} {e e' e'' : Nm} (h : NumAt w e) (h' : NumAt w e') (h'' : NumAt w e'') : ∀ x ∈ [e, e', e''], NumAt w x := fun x hx => by
  rcases List.mem_cons.1 hx with rfl | hx
  · exact h
  · exact two_at h' h'' x hx
theorem wTimes (a b : Nat) (hb : nl a + nl b ≤ 31) (w : World) (xs : List Value) (hx : All2 (AR w) [.sl a, .sl b] xs) : Mk Tryz.prog 93 xs w (a * b) Nm.sl := by
  obtain ⟨e, e', rfl, h1, v1, h2, v2⟩ := ar_sl2 hx
  subst v1 v2
  by_cases hz : nl e.v + nl e'.v = 0
  · have e0 : e.v * e'.v = 0 := by rw [nl0 (show nl e.v = 0 by omega)]; simp
    rw [e0]
    exact num_new0 (V := fun K => .slice (some ⟨K, 0, some 0⟩) 0 0) (es := [e, e']) (Tryz.call93) (two_at h1 h2) (vs := [.slice (some ⟨0, 0, some 0⟩) (nl e.v) e.c, .slice (some ⟨1, 0, some 0⟩) (nl e'.v) e'.c]) (xs := [e.sl, e'.sl]) ⟨.sl rfl, .sl rfl, trivial⟩ Nm.sl (fun r => by show _ = Value.slice _ (nl 0) 0; rw [nl_zero]; rfl) (cTimes0 e.v e'.v e.c e'.c 0 1 2 _ _ _ rfl (isNum _ _ _) rfl (isNum _ _ _) h1.len h1.cap h2.len h2.cap hz rfl)
  · exact num_new (V := fun K => .slice (some ⟨K, 0, some 0⟩) (nl (e.v * e'.v)) (nl e.v + nl e'.v)) (es := [e, e']) (Tryz.call93) (two_at h1 h2) (vs := [.slice (some ⟨0, 0, some 0⟩) (nl e.v) e.c, .slice (some ⟨1, 0, some 0⟩) (nl e'.v) e'.c]) (xs := [e.sl, e'.sl]) ⟨.sl rfl, .sl rfl, trivial⟩ ⟨by omega, by omega⟩ (nl_le.2 (mul_nl3 _ _)) Nm.sl (fun r => rfl) (cTimesN e.v e'.v e.c e'.c 0 1 2 _ _ _ rfl (isNum _ _ _) rfl (isNum _ _ _) h1.len h1.cap h2.len h2.cap (by omega) rfl)
theorem wMinus (a b : Nat) (hba : b ≤ a) (w : World) (xs : List Value) (hx : All2 (AR w) [.sl a, .sl b] xs) : Mk Tryz.prog 107 xs w (a - b) Nm.sl := by
  obtain ⟨e, e', rfl, h1, v1, h2, v2⟩ := ar_sl2 hx
  subst v1 v2
  by_cases hz : nl e.v = 0
  · have e0 : e.v - e'.v = 0 := by rw [nl0 (show nl e.v = 0 by omega)]; simp
    rw [e0]
    exact num_new0 (V := fun K => .slice (some ⟨K, 0, some 0⟩) 0 0) (es := [e, e']) (Tryz.call107) (two_at h1 h2) (vs := [.slice (some ⟨0, 0, some 0⟩) (nl e.v) e.c, .slice (some ⟨1, 0, some 0⟩) (nl e'.v) e'.c]) (xs := [e.sl, e'.sl]) ⟨.sl rfl, .sl rfl, trivial⟩ Nm.sl (fun r => by show _ = Value.slice _ (nl 0) 0; rw [nl_zero]; rfl) (cMinus0 e.v e'.v e.c e'.c 0 1 2 _ _ _ rfl (isNum _ _ _) rfl (isNum _ _ _) h1.len h1.cap h2.len h2.cap hz hba rfl)
  · have hl := h1.len
    have hc := h1.cap
    exact num_new (V := fun K => .slice (some ⟨K, 0, some 0⟩) (nl (e.v - e'.v)) (nl e.v)) (es := [e, e']) (Tryz.call107) (two_at h1 h2) (vs := [.slice (some ⟨0, 0, some 0⟩) (nl e.v) e.c, .slice (some ⟨1, 0, some 0⟩) (nl e'.v) e'.c]) (xs := [e.sl, e'.sl]) ⟨.sl rfl, .sl rfl, trivial⟩ ⟨by omega, by omega⟩ (nl_le.2 (Nat.lt_of_le_of_lt (Nat.sub_le _ _) (nl_self _))) Nm.sl (fun r => rfl) (cMinus e.v e'.v e.c e'.c 0 1 2 _ _ _ rfl (isNum _ _ _) rfl (isNum _ _ _) h1.len h1.cap h2.len h2.cap hba (by omega) rfl)
theorem wPlus (a b : Nat) (ha : nl a ≤ 30) (hb : nl b ≤ 30) (w : World) (xs : List Value) (hx : All2 (AR w) [.sl a, .sl b] xs) : Mk Tryz.prog 105 xs w (a + b) Nm.sl := by
  obtain ⟨e, e', rfl, h1, v1, h2, v2⟩ := ar_sl2 hx
  subst v1 v2
  by_cases hz : nl e.v < nl e'.v
  · exact num_new (V := fun K => .slice (some ⟨K, 0, some 0⟩) (nl (e.v + e'.v)) (nl e'.v + 1)) (es := [e, e']) (Tryz.call105) (two_at h1 h2) (vs := [.slice (some ⟨0, 0, some 0⟩) (nl e.v) e.c, .slice (some ⟨1, 0, some 0⟩) (nl e'.v) e'.c]) (xs := [e.sl, e'.sl]) ⟨.sl rfl, .sl rfl, trivial⟩ ⟨by omega, by omega⟩ (nl_le.2 (by rw [bw_succ]; have q1 := nl_self e.v; have q2 := nl_self e'.v; have q3 := bw_mono (show nl e.v ≤ nl e'.v by omega); omega)) Nm.sl (fun r => rfl) (cPlusB e.v e'.v e.c e'.c 0 1 2 _ _ _ rfl (isNum _ _ _) rfl (isNum _ _ _) h1.len h1.cap h2.len h2.cap hz rfl)
  · exact num_new (V := fun K => .slice (some ⟨K, 0, some 0⟩) (nl (e.v + e'.v)) (nl e.v + 1)) (es := [e, e']) (Tryz.call105) (two_at h1 h2) (vs := [.slice (some ⟨0, 0, some 0⟩) (nl e.v) e.c, .slice (some ⟨1, 0, some 0⟩) (nl e'.v) e'.c]) (xs := [e.sl, e'.sl]) ⟨.sl rfl, .sl rfl, trivial⟩ ⟨by omega, by omega⟩ (nl_le.2 (by rw [bw_succ]; have q1 := nl_self e.v; have q2 := nl_self e'.v; have q3 := bw_mono (show nl e'.v ≤ nl e.v by omega); omega)) Nm.sl (fun r => rfl) (cPlusA e.v e'.v e.c e'.c 0 1 2 _ _ _ rfl (isNum _ _ _) rfl (isNum _ _ _) h1.len h1.cap h2.len h2.cap (by omega) rfl)
theorem wMade (s : Bool) (e : Nm) (w : World) (h1 : NumAt w e) : Calls Tryz.prog 72 ⟨[.bool s, e.sl]⟩ w fun e' w' => e' = .returned (e.big (s && decide (0 < e.v))) ∧ Below w.heap.size w w' :=
  num_same (es := [e]) (Tryz.call72) (one_at h1) (vs := [.bool s, .slice (some ⟨0, 0, some 0⟩) (nl e.v) e.c]) (xs := [.bool s, e.sl]) ⟨.pl rfl, .sl rfl, trivial⟩ (e.big (s && decide (0 < e.v))) (V := .agg #[.bool (s && decide (0 < e.v)), .bool false, .slice (some ⟨0, 0, some 0⟩) (nl e.v) e.c]) ⟨.big rfl, trivial⟩ (cMade32 e.v e.c (nl e.v) 0 s _ rfl _ _ rfl (isNum _ _ _) h1.len h1.cap (nl_self _))
theorem cAMade (s : Bool) (κ : Nm) (i : Nat) {L : List Nm} {h : List (Option Chunk)} (hi : h[i]? = some (some (arC L))) (hκ : κ ∈ L) :
    CallOK Tryz.prog 72 [.bool s, .slice (some ⟨κ.b, κ.o, none⟩) (nl κ.v) κ.c] h (.agg #[.bool (s && decide (0 < κ.v)), .bool false, .slice (some ⟨κ.b, κ.o, none⟩) (nl κ.v) κ.c]) [] [i] :=
  call_arP (qs := [.pl (.bool s), .at_ κ]) [i] i (.inl hi) (.inl (List.mem_singleton.2 rfl)) (Tryz.call72) (fun _ _ => ⟨.pl rfl, .at_ hκ, trivial⟩) rfl fun w xs hx => by
    rcases xs with _ | ⟨x, _ | ⟨y, _ | ⟨z, xs⟩⟩⟩ <;> first | exact hx.elim | exact hx.2.elim | exact hx.2.2.elim | skip
    obtain ⟨h1, h2, _⟩ := hx
    cases h1 with
    | pl hp => cases h2 with
      | at_ ha => exact wMade s κ w ha
theorem cROfNeg (n K : Nat) (h : List (Option Chunk)) (h0 : h[K]? = some none) (hn : n ≤ 9223372036854775808) (hp : 0 < n) :
    CallOK Tryz.prog 64 [.int .i64 (-(n : Int))] h (.agg #[.bool true, .bool false, .slice (some ⟨K, 0, some 0⟩) (nl n) 2]) [(K, numC true 2 n)] [] := by
  have h2 := two_words (n := n) (by omega)
  have hu : IntKind.u64.wrap (0 - IntKind.u64.wrap (-(n : Int))) = (n : Int) := by rw [IntKind.wrap_u64, IntKind.wrap_u64]; omega
  refine call_sub (G := tys) [] [⟨K, 1, numC true 2 n⟩] [.int .i64 (-(n : Int))] tysOK mixed Tryz.func64 (by rfl) (Tryz.call64) trivial trivial trivial ⟨⟨h0, rfl, by show 0 < 2; decide, by simp⟩, trivial⟩ ⟨.plain rfl, trivial⟩ ?_
  repeat' (refine N.go ?_; first | with_reducible (first | refine N.obl (by decide) ?_ | refine N.eq ?_ | refine N.obl rfl ?_ | refine N.obl ⟨by kernel_rfl, by kernel_rfl⟩ ?_ | refine N.alt ?_ | refine N.forkT ?_ | refine N.forkF ?_) | refine N.call (cMade32 n 2 2 _ (decide (-(n : Int) < 0)) true (by rw [decide_eq_true (show -(n : Int) < 0 by omega), decide_eq_true hp]; rfl) _ _ (by rfl) (isNum2 (by rw [hu, w32]) (by rw [hu, fd32, w32])) (by omega) (by omega) h2.1) ?_ | refine N.forkNo (by decide) ?_ | refine N.forkYes (by decide) ?_ | refine N.forkYes (by rw [decide_eq_true_eq]; omega) ?_ | refine N.forkNo (by rw [decide_eq_false_iff_not]; omega) ?_ | refine N.obl (.one (.agg ⟨.plain (by rfl), .plain rfl, .slice (by rfl), trivial⟩)) ?_ | refine N.obl ⟨⟨Nat.zero_le _, post_num (by rfl) rfl (isNum2 (by rw [hu, w32]) (by rw [hu, fd32, w32]))⟩, trivial⟩ ?_ | refine N.obl trivial ?_ | exact N.true | fail)
theorem wOf (z : Int) (hz : -9223372036854775808 ≤ z ∧ z < 9223372036854775808) (w : World) (xs : List Value) (hx : All2 (AR w) [.pl (.int .i64 z)] xs) : Mk Tryz.prog 64 xs w z.natAbs (bzW z) := by
  obtain rfl := ar_pl1 hx
  have hn2 : nl z.natAbs ≤ 2 := (two_words (n := z.natAbs) (by omega)).2
  by_cases hs : z < 0
  · obtain ⟨n, rfl⟩ : ∃ n : Nat, z = -(n : Int) := ⟨z.natAbs, by omega⟩
    have e1 : (-(n : Int)).natAbs = n := by omega
    rw [e1] at hn2 ⊢
    refine num_new (V := fun K => .agg #[.bool true, .bool false, .slice (some ⟨K, 0, some 0⟩) (nl n) 2]) (es := []) (Tryz.call64) (fun e he => by cases he) (vs := [.int .i64 (-(n : Int))]) (xs := [.int .i64 (-(n : Int))]) ⟨.pl rfl, trivial⟩ ⟨by decide, by decide⟩ hn2 (bzW (-(n : Int))) (fun r => ?_) (cROfNeg n 0 _ rfl (by omega) (by omega))
    rw [bzW, decide_eq_true hs]; simp only [den, den2, List.map_toArray, List.map_cons, List.map_nil, den1, den0, denA, Nat.add_zero]
  · obtain ⟨n, rfl⟩ : ∃ n : Nat, z = (n : Int) := ⟨z.natAbs, by omega⟩
    have e1 : ((n : Int)).natAbs = n := by omega
    rw [e1] at hn2 ⊢
    refine num_new (V := fun K => .agg #[.bool false, .bool false, .slice (some ⟨K, 0, some 0⟩) (nl n) 2]) (es := []) (Tryz.call64) (fun e he => by cases he) (vs := [.int .i64 (n : Int)]) (xs := [.int .i64 (n : Int)]) ⟨.pl rfl, trivial⟩ ⟨by decide, by decide⟩ hn2 (bzW (n : Int)) (fun r => ?_) (cROf n 0 _ rfl (by omega))
    rw [bzW, decide_eq_false hs]; simp only [den, den2, List.map_toArray, List.map_cons, List.map_nil, den1, den0, denA, Nat.add_zero]
theorem cRNegC (v m i : Nat) (s r : Bool) (hr : r = (!s && decide (0 < v))) (o : Chunk) (h : List (Option Chunk)) (hi : h[i]? = some (some o)) (hin : IsNum o m v) (hl : nl v ≤ m) (hm : m ≤ 31) :
    CallOK Tryz.prog 92 [.agg #[.bool s, .bool false, .slice (some ⟨i, 0, some 0⟩) (nl v) m]] h (.agg #[.bool r, .bool false, .slice (some ⟨i, 0, some 0⟩) (nl v) m]) [] [i] := by
  refine call_sub (G := tys) [⟨i, _, numC false m v, ⟨false, 0, []⟩⟩] [] [.agg #[.bool s, .bool false, .slice (some ⟨0, 0, some 0⟩) (nl v) m]] tysOK mixed Tryz.func92 (by rfl) (Tryz.call92) ⟨hi, trivial⟩ ⟨⟨fun h => (by cases h), Nat.le_of_eq hin.1.symm, num_re hin⟩, trivial⟩ (by simp [Apart]) trivial ⟨.agg ⟨.plain rfl, .plain rfl, .slice rfl, trivial⟩, trivial⟩ ?_
  repeat' (refine N.go ?_; first | with_reducible (first | refine N.obl (by decide) ?_ | refine N.eq ?_ | refine N.obl rfl ?_ | refine N.obl ⟨by kernel_rfl, by kernel_rfl⟩ ?_ | refine N.alt ?_ | refine N.forkT ?_ | refine N.forkF ?_) | refine N.call (cMade32 v m (nl v) _ (!s) r hr _ _ (by rfl) (isNum _ _ _) hl hm (nl_self v)) ?_ | refine N.forkNo (by decide) ?_ | refine N.forkYes (by decide) ?_ | refine N.obl (.one (.agg ⟨.plain (by rfl), .plain rfl, .slice (by rfl), trivial⟩)) ?_ | refine N.obl trivial ?_ | exact N.true | fail)
def sgnI (z : Int) : Int := if z < 0 then -1 else if z = 0 then 0 else 1
theorem sign_x (z : Int) (v b o c : Nat) (hv : v = z.natAbs) (w : World) : Calls Tryz.prog 53 #[.agg #[.bool (decide (z < 0)), .bool false, .slice (some ⟨b, o, none⟩) (nl v) c]] w fun e w' => e = .returned (.int .i64 (sgnI z)) ∧ Below w.heap.size w w' := by
  refine calls_pure (G := tys) w tysOK mixed Tryz.func53 (by rfl) (by rfl) (by rfl) ?_
  subst hv
  rcases Int.lt_trichotomy z 0 with h | h | h
  · have e1 : sgnI z = -1 := by unfold sgnI; rw [if_pos h]
    have e2 : nl z.natAbs ≠ 0 := fun e => by have := nl0 e; omega
    rw [e1]
    repeat' (refine N.go ?_; first | with_reducible (first | refine N.obl (by decide) ?_ | refine N.eq ?_ | refine N.obl rfl ?_ | refine N.obl ⟨by kernel_rfl, by kernel_rfl⟩ ?_ | refine N.alt ?_ | refine N.forkT ?_ | refine N.forkF ?_) | refine N.forkYes (by rw [e2]; rfl) ?_ | refine N.forkNo (by simpa using e2) ?_ | refine N.forkYes (decide_eq_true (by omega)) ?_ | refine N.forkNo (decide_eq_false (by omega)) ?_ | refine N.forkNo (by decide) ?_ | refine N.forkYes (by decide) ?_ | refine N.forkYes (by rw [decide_eq_true_eq]; omega) ?_ | refine N.forkNo (by rw [decide_eq_false_iff_not]; omega) ?_ | fail)
    all_goals rfl
  · have e1 : sgnI z = 0 := by unfold sgnI; rw [if_neg (by omega), if_pos h]
    have e2 : nl z.natAbs = 0 := by rw [h]; exact nl_zero
    rw [e1]
    repeat' (refine N.go ?_; first | with_reducible (first | refine N.obl (by decide) ?_ | refine N.eq ?_ | refine N.obl rfl ?_ | refine N.obl ⟨by kernel_rfl, by kernel_rfl⟩ ?_ | refine N.alt ?_ | refine N.forkT ?_ | refine N.forkF ?_) | refine N.forkYes (by rw [e2]; rfl) ?_ | refine N.forkNo (by simpa using e2) ?_ | refine N.forkYes (decide_eq_true (by omega)) ?_ | refine N.forkNo (decide_eq_false (by omega)) ?_ | refine N.forkNo (by decide) ?_ | refine N.forkYes (by decide) ?_ | refine N.forkYes (by rw [decide_eq_true_eq]; omega) ?_ | refine N.forkNo (by rw [decide_eq_false_iff_not]; omega) ?_ | fail)
    all_goals rfl
  · have e1 : sgnI z = 1 := by unfold sgnI; rw [if_neg (by omega), if_neg (by omega)]
    have e2 : nl z.natAbs ≠ 0 := fun e => by have := nl0 e; omega
    rw [e1]
    repeat' (refine N.go ?_; first | with_reducible (first | refine N.obl (by decide) ?_ | refine N.eq ?_ | refine N.obl rfl ?_ | refine N.obl ⟨by kernel_rfl, by kernel_rfl⟩ ?_ | refine N.alt ?_ | refine N.forkT ?_ | refine N.forkF ?_) | refine N.forkYes (by rw [e2]; rfl) ?_ | refine N.forkNo (by simpa using e2) ?_ | refine N.forkYes (decide_eq_true (by omega)) ?_ | refine N.forkNo (decide_eq_false (by omega)) ?_ | refine N.forkNo (by decide) ?_ | refine N.forkYes (by decide) ?_ | refine N.forkYes (by rw [decide_eq_true_eq]; omega) ?_ | refine N.forkNo (by rw [decide_eq_false_iff_not]; omega) ?_ | fail)
    all_goals rfl
theorem cASign (z : Int) (v b o c : Nat) (hv : v = z.natAbs) (h : List (Option Chunk)) : CallOK Tryz.prog 53 [.agg #[.bool (decide (z < 0)), .bool false, .slice (some ⟨b, o, none⟩) (nl v) c]] h (.int .i64 (sgnI z)) [] [] := call_pure rfl rfl (Tryz.call53 _) (sign_x z v b o c hv)
theorem sgn_mul (x y : Int) : ((decide (x < 0) != decide (y < 0)) && decide (0 < x.natAbs * y.natAbs)) = decide (x * y < 0) := by
  rcases Int.lt_trichotomy x 0 with h | h | h <;> rcases Int.lt_trichotomy y 0 with k | k | k
  all_goals first
    | (subst h; simp; done)
    | (subst k; simp; done)
    | (have h1 : 0 < x.natAbs * y.natAbs := Nat.mul_pos (by omega) (by omega)
       rw [decide_eq_true h1, Bool.and_true]
       first
         | (rw [decide_eq_true h, decide_eq_true k, decide_eq_false (by have := Int.mul_pos_of_neg_of_neg h k; omega)]; rfl)
         | (rw [decide_eq_true h, decide_eq_false (by omega : ¬ y < 0), decide_eq_true (Int.mul_neg_of_neg_of_pos h k)]; rfl)
         | (rw [decide_eq_false (by omega : ¬ x < 0), decide_eq_true k, decide_eq_true (Int.mul_neg_of_pos_of_neg h k)]; rfl)
         | (rw [decide_eq_false (by omega : ¬ x < 0), decide_eq_false (by omega : ¬ y < 0), decide_eq_false (by have := Int.mul_pos h k; omega)]; rfl))
theorem wMul (x y : Int) (hb : nl x.natAbs + nl y.natAbs ≤ 31) (w : World) (xs : List Value) (hx : All2 (AR w) [bz x, bz y] xs) : Mk Tryz.prog 71 xs w (x * y).natAbs (bzW (x * y)) := by
  obtain ⟨e, e', rfl, h1, v1, h2, v2⟩ := ar_big2 hx
  have hm : (x * y).natAbs = e.v * e'.v := by rw [v1, v2]; exact Int.natAbs_mul x y
  refine calls_nums (es := [e, e']) (vs := [.agg #[.bool (decide (x < 0)), .bool false, .slice (some ⟨0, 0, some 0⟩) (nl e.v) e.c], .agg #[.bool (decide (y < 0)), .bool false, .slice (some ⟨1, 0, some 0⟩) (nl e'.v) e'.c]]) (xs := [e.big (decide (x < 0)), e'.big (decide (y < 0))]) w tysOK mixed Tryz.func71 (by rfl) (two_at h1 h2) ⟨.big rfl, .big rfl, trivial⟩ (fun _ => rfl) ?_
  repeat' (refine N.go ?_; first | with_reducible (first | refine N.obl (by decide) ?_ | refine N.eq ?_ | refine N.obl rfl ?_ | refine N.obl ⟨by kernel_rfl, by kernel_rfl⟩ ?_ | refine N.forkT ?_ | refine N.forkF ?_) | refine N.forkNo (by decide) ?_ | refine N.forkYes (by decide) ?_ | fail)
  refine N.go ?_
  refine N.altP ?_
  refine N.go ?_
  refine N.plan [0, 1, 2, 3, 4, 5, 6, 7, 8] [(9, [10, 11])] (by kernel_rfl) ?_
  repeat' (refine N.go ?_; first | with_reducible (first | refine N.obl (by decide) ?_ | refine N.eq ?_ | refine N.obl rfl ?_ | refine N.obl ⟨by kernel_rfl, by kernel_rfl⟩ ?_ | refine N.forkT ?_ | refine N.forkF ?_) | refine N.forkNo (by decide) ?_ | refine N.forkYes (by decide) ?_ | fail)
  refine N.go ?_
  refine N_callM [0, 1, 5] _ (by kernel_rfl) (fun h₂ hh => mk_arN 5 ((hh 5 (by simp)).trans rfl) (e.v * e'.v) Nm.sl (Tryz.call93) (qs := [.sl e.v, .sl e'.v]) ⟨.sl (.ch ((hh 0 (by simp)).trans rfl) (isNum _ _ _) h1.len h1.cap), .sl (.ch ((hh 1 (by simp)).trans rfl) (isNum _ _ _) h2.len h2.cap), trivial⟩ (fun _ => rfl) (wTimes e.v e'.v (by rw [v1, v2]; exact hb))) fun v ms hR => ?_
  obtain ⟨κ, hκ, rfl, rfl⟩ := hR
  refine ⟨by simp, ?_⟩
  have hsg : ((decide (x < 0) != decide (y < 0)) && decide (0 < κ.v)) = decide (x * y < 0) := by rw [hκ, v1, v2, sgn_mul]
  repeat' (refine N.go ?_; first | with_reducible (first | refine N.obl (by decide) ?_ | refine N.eq ?_ | refine N.obl rfl ?_ | refine N.obl ⟨by kernel_rfl, by kernel_rfl⟩ ?_ | refine N.forkT ?_ | refine N.forkF ?_) | refine N.call (cAMade _ κ 5 (by rfl) (List.mem_singleton.2 rfl)) ?_ | refine N.obl (by show endB _ _ = Bool.true; kernel_rfl) ?_ | refine N.endM κ 5 (hκ.trans hm.symm) (by rw [hsg]) (by rfl) (List.mem_singleton.2 rfl) | refine N.forkNo (by decide) ?_ | refine N.forkYes (by decide) ?_ | fail)
theorem cBCmp (a b : Nat) (i j m q : Nat) (h : List (Option Chunk)) {o o2 : Chunk} (hi : h[i]? = some (some o)) (hin : IsNum o m a) (hj : h[j]? = some (some o2)) (hjn : IsNum o2 q b) (hl : nl a ≤ m) (hm : m ≤ 31) (hl2 : nl b ≤ q) (hq : q ≤ 31) :
    CallOK Tryz.prog 106 [.slice (some ⟨i, 0, some 0⟩) (nl a) m, .slice (some ⟨j, 0, some 0⟩) (nl b) q] h (.int .i64 (cmpN a b)) [] [i, j] := cCmp a b m q i j o o2 h hi hin hj hjn hl (by omega) hl2 (by omega)
theorem wAdd (x y : Int) (a b : Nat) (hxa : a = x.natAbs) (hyb : b = y.natAbs) (ha : nl a ≤ 30) (hb : nl b ≤ 30) (w : World) (xs : List Value) (hx : All2 (AR w) [.big (decide (x < 0)) a, .big (decide (y < 0)) b] xs) : Mk Tryz.prog 91 xs w (x + y).natAbs (bzW (x + y)) := by
  obtain ⟨e, e', rfl, h1, v1, h2, v2⟩ := ar_big2 hx
  have q1 := h1.cap
  have q2 := h2.cap
  refine calls_nums (es := [e, e']) (vs := [.agg #[.bool (decide (x < 0)), .bool false, .slice (some ⟨0, 0, some 0⟩) (nl e.v) e.c], .agg #[.bool (decide (y < 0)), .bool false, .slice (some ⟨1, 0, some 0⟩) (nl e'.v) e'.c]]) (xs := [e.big (decide (x < 0)), e'.big (decide (y < 0))]) w tysOK mixed Tryz.func91 (by rfl) (two_at h1 h2) ⟨.big rfl, .big rfl, trivial⟩ (fun _ => rfl) ?_
  repeat' (refine N.go ?_; first | with_reducible (first | refine N.obl (by decide) ?_ | refine N.eq ?_ | refine N.obl rfl ?_ | refine N.obl ⟨by kernel_rfl, by kernel_rfl⟩ ?_ | refine N.forkT ?_ | refine N.forkF ?_) | refine N.forkNo (by decide) ?_ | refine N.forkYes (by decide) ?_ | fail)
  refine N.go ?_
  by_cases hs : decide (x < 0) = decide (y < 0)
  · refine N.forkYes (by rw [hs]; simp) ?_
    refine N.go ?_
    refine N.altP ?_
    refine N.go ?_
    refine N.plan [0, 1, 2, 3, 4, 5] [(6, [7, 8])] (by kernel_rfl) ?_
    repeat' (refine N.go ?_; first | with_reducible (first | refine N.obl (by decide) ?_ | refine N.eq ?_ | refine N.obl rfl ?_ | refine N.obl ⟨by kernel_rfl, by kernel_rfl⟩ ?_ | refine N.forkT ?_ | refine N.forkF ?_) | refine N.forkNo (by decide) ?_ | refine N.forkYes (by decide) ?_ | fail)
    refine N.go ?_
    refine N_callM [0, 1, 5] _ (by kernel_rfl) (fun h₂ hh => mk_arN 5 ((hh 5 (by simp)).trans rfl) (e.v + e'.v) Nm.sl (Tryz.call105) (qs := [.sl e.v, .sl e'.v]) ⟨.sl (.ch ((hh 0 (by simp)).trans rfl) (isNum _ _ _) h1.len h1.cap), .sl (.ch ((hh 1 (by simp)).trans rfl) (isNum _ _ _) h2.len h2.cap), trivial⟩ (fun _ => rfl) (wPlus e.v e'.v (by rw [v1]; exact ha) (by rw [v2]; exact hb))) fun v ms hR => ?_
    obtain ⟨κ, hκ, rfl, rfl⟩ := hR
    refine ⟨by simp, ?_⟩
    have hsg : (decide (x < 0) && decide (0 < κ.v)) = decide (x + y < 0) := by
      rw [hκ, v1, v2, hxa, hyb]
      rw [decide_eq_decide] at hs
      rw [Bool.eq_iff_iff, Bool.and_eq_true, decide_eq_true_iff, decide_eq_true_iff, decide_eq_true_iff]; omega
    have hv : e.v + e'.v = (x + y).natAbs := by rw [v1, v2, hxa, hyb]; rw [decide_eq_decide] at hs; omega
    repeat' (refine N.go ?_; first | with_reducible (first | refine N.obl (by decide) ?_ | refine N.eq ?_ | refine N.obl rfl ?_ | refine N.obl ⟨by kernel_rfl, by kernel_rfl⟩ ?_ | refine N.forkT ?_ | refine N.forkF ?_) | refine N.call (cAMade _ κ 5 (by rfl) (List.mem_singleton.2 rfl)) ?_ | refine N.obl (by show endB _ _ = Bool.true; kernel_rfl) ?_ | refine N.endM κ 5 (hκ.trans hv) (by rw [hsg]) (by rfl) (List.mem_singleton.2 rfl) | refine N.forkNo (by decide) ?_ | refine N.forkYes (by decide) ?_ | fail)
  · refine N.forkNo (by simpa using hs) ?_
    refine N.go ?_
    refine N.call (cBCmp e.v e'.v 0 1 e.c e'.c _ (by rfl) (isNum _ _ _) (by rfl) (isNum _ _ _) h1.len h1.cap h2.len h2.cap) ?_
    repeat' (refine N.go ?_; first | with_reducible (first | refine N.obl (by decide) ?_ | refine N.eq ?_ | refine N.obl rfl ?_ | refine N.obl ⟨by kernel_rfl, by kernel_rfl⟩ ?_ | refine N.forkT ?_ | refine N.forkF ?_) | refine N.forkNo (by decide) ?_ | refine N.forkYes (by decide) ?_ | fail)
    refine N.go ?_
    by_cases hle : e'.v ≤ e.v
    · refine N.forkYes (by rw [decide_eq_true_eq]; unfold cmpN; rw [if_neg (by omega)]; split <;> decide) ?_
      refine N.go ?_
      refine N.altP ?_
      refine N.go ?_
      refine N.plan [0, 1, 2, 3, 4, 5] [(6, [7, 8])] (by kernel_rfl) ?_
      repeat' (refine N.go ?_; first | with_reducible (first | refine N.obl (by decide) ?_ | refine N.eq ?_ | refine N.obl rfl ?_ | refine N.obl ⟨by kernel_rfl, by kernel_rfl⟩ ?_ | refine N.forkT ?_ | refine N.forkF ?_) | refine N.forkNo (by decide) ?_ | refine N.forkYes (by decide) ?_ | fail)
      refine N.go ?_
      refine N_callM [0, 1, 5] _ (by kernel_rfl) (fun h₂ hh => mk_arN 5 ((hh 5 (by simp)).trans rfl) (e.v - e'.v) Nm.sl (Tryz.call107) (qs := [.sl e.v, .sl e'.v]) ⟨.sl (.ch ((hh 0 (by simp)).trans rfl) (isNum _ _ _) h1.len h1.cap), .sl (.ch ((hh 1 (by simp)).trans rfl) (isNum _ _ _) h2.len h2.cap), trivial⟩ (fun _ => rfl) (wMinus e.v e'.v hle)) fun v ms hR => ?_
      obtain ⟨κ, hκ, rfl, rfl⟩ := hR
      refine ⟨by simp, ?_⟩
      have hsg : (decide (x < 0) && decide (0 < κ.v)) = decide (x + y < 0) := by
        rw [hκ]
        rw [v1, v2, hxa, hyb] at hle ⊢
        rw [decide_eq_decide] at hs
        rw [Bool.eq_iff_iff, Bool.and_eq_true, decide_eq_true_iff, decide_eq_true_iff, decide_eq_true_iff]; omega
      have hv : e.v - e'.v = (x + y).natAbs := by rw [v1, v2, hxa, hyb] at hle ⊢; rw [decide_eq_decide] at hs; omega
      repeat' (refine N.go ?_; first | with_reducible (first | refine N.obl (by decide) ?_ | refine N.eq ?_ | refine N.obl rfl ?_ | refine N.obl ⟨by kernel_rfl, by kernel_rfl⟩ ?_ | refine N.forkT ?_ | refine N.forkF ?_) | refine N.call (cAMade _ κ 5 (by rfl) (List.mem_singleton.2 rfl)) ?_ | refine N.obl (by show endB _ _ = Bool.true; kernel_rfl) ?_ | refine N.endM κ 5 (hκ.trans hv) (by rw [hsg]) (by rfl) (List.mem_singleton.2 rfl) | refine N.forkNo (by decide) ?_ | refine N.forkYes (by decide) ?_ | fail)
    · refine N.forkNo (by rw [decide_eq_false_iff_not]; unfold cmpN; rw [if_pos (by omega)]; decide) ?_
      refine N.go ?_
      refine N.altP ?_
      refine N.go ?_
      refine N.plan [0, 1, 2, 3, 4, 5] [(6, [7, 8])] (by kernel_rfl) ?_
      repeat' (refine N.go ?_; first | with_reducible (first | refine N.obl (by decide) ?_ | refine N.eq ?_ | refine N.obl rfl ?_ | refine N.obl ⟨by kernel_rfl, by kernel_rfl⟩ ?_ | refine N.forkT ?_ | refine N.forkF ?_) | refine N.forkNo (by decide) ?_ | refine N.forkYes (by decide) ?_ | fail)
      refine N.go ?_
      refine N_callM [0, 1, 5] _ (by kernel_rfl) (fun h₂ hh => mk_arN 5 ((hh 5 (by simp)).trans rfl) (e'.v - e.v) Nm.sl (Tryz.call107) (qs := [.sl e'.v, .sl e.v]) ⟨.sl (.ch ((hh 1 (by simp)).trans rfl) (isNum _ _ _) h2.len h2.cap), .sl (.ch ((hh 0 (by simp)).trans rfl) (isNum _ _ _) h1.len h1.cap), trivial⟩ (fun _ => rfl) (wMinus e'.v e.v (by omega))) fun v ms hR => ?_
      obtain ⟨κ, hκ, rfl, rfl⟩ := hR
      refine ⟨by simp, ?_⟩
      have hsg : (decide (y < 0) && decide (0 < κ.v)) = decide (x + y < 0) := by
        rw [hκ]
        rw [v1, v2, hxa, hyb] at hle ⊢
        rw [decide_eq_decide] at hs
        rw [Bool.eq_iff_iff, Bool.and_eq_true, decide_eq_true_iff, decide_eq_true_iff, decide_eq_true_iff]; omega
      have hv : e'.v - e.v = (x + y).natAbs := by rw [v1, v2, hxa, hyb] at hle ⊢; rw [decide_eq_decide] at hs; omega
      repeat' (refine N.go ?_; first | with_reducible (first | refine N.obl (by decide) ?_ | refine N.eq ?_ | refine N.obl rfl ?_ | refine N.obl ⟨by kernel_rfl, by kernel_rfl⟩ ?_ | refine N.forkT ?_ | refine N.forkF ?_) | refine N.call (cAMade _ κ 5 (by rfl) (List.mem_singleton.2 rfl)) ?_ | refine N.obl (by show endB _ _ = Bool.true; kernel_rfl) ?_ | refine N.endM κ 5 (hκ.trans hv) (by rw [hsg]) (by rfl) (List.mem_singleton.2 rfl) | refine N.forkNo (by decide) ?_ | refine N.forkYes (by decide) ?_ | fail)
theorem wSub (x y : Int) (a b : Nat) (hxa : a = x.natAbs) (hyb : b = y.natAbs) (ha : nl a ≤ 30) (hb : nl b ≤ 30) (w : World) (xs : List Value) (hx : All2 (AR w) [.big (decide (x < 0)) a, .big (decide (y < 0)) b] xs) : Mk Tryz.prog 70 xs w (x - y).natAbs (bzW (x - y)) := by
  obtain ⟨e, e', rfl, h1, v1, h2, v2⟩ := ar_big2 hx
  have q1 := h1.cap
  have q2 := h2.cap
  have hng : decide (-y < 0) = (!decide (y < 0) && decide (0 < e'.v)) := by
    rw [v2, hyb, Bool.eq_iff_iff, Bool.and_eq_true, decide_eq_true_iff, decide_eq_true_iff, Bool.not_eq_true', decide_eq_false_iff_not]; omega
  rw [Int.sub_eq_add_neg]
  refine calls_nums (es := [e, e']) (vs := [.agg #[.bool (decide (x < 0)), .bool false, .slice (some ⟨0, 0, some 0⟩) (nl e.v) e.c], .agg #[.bool (decide (y < 0)), .bool false, .slice (some ⟨1, 0, some 0⟩) (nl e'.v) e'.c]]) (xs := [e.big (decide (x < 0)), e'.big (decide (y < 0))]) w tysOK mixed Tryz.func70 (by rfl) (two_at h1 h2) ⟨.big rfl, .big rfl, trivial⟩ (fun _ => rfl) ?_
  repeat' (refine N.go ?_; first | with_reducible (first | refine N.obl (by decide) ?_ | refine N.eq ?_ | refine N.obl rfl ?_ | refine N.obl ⟨by kernel_rfl, by kernel_rfl⟩ ?_ | refine N.forkT ?_ | refine N.forkF ?_) | refine N.forkNo (by decide) ?_ | refine N.forkYes (by decide) ?_ | fail)
  refine N.go ?_
  refine N.altP ?_
  refine N.go ?_
  refine N.plan [0, 1, 2] [(3, [4])] (by kernel_rfl) ?_
  repeat' (refine N.go ?_; first | with_reducible (first | refine N.obl (by decide) ?_ | refine N.eq ?_ | refine N.obl rfl ?_ | refine N.obl ⟨by kernel_rfl, by kernel_rfl⟩ ?_ | refine N.forkT ?_ | refine N.forkF ?_) | refine N.call (cRNegC e'.v e'.c 1 (decide (y < 0)) (decide (-y < 0)) hng _ _ (by rfl) (isNum _ _ _) h2.len h2.cap) ?_ | refine N.forkNo (by decide) ?_ | refine N.forkYes (by decide) ?_ | fail)
  refine N.go ?_
  refine N_callM [0, 1, 9] _ (by kernel_rfl) (fun h₂ hh => mk_arN 9 ((hh 9 (by simp)).trans rfl) (x + -y).natAbs (bzW (x + -y)) (Tryz.call91) (qs := [.big (decide (x < 0)) e.v, .big (decide (-y < 0)) e'.v]) ⟨.big (.ch ((hh 0 (by simp)).trans rfl) (isNum _ _ _) h1.len h1.cap), .big (.ch ((hh 1 (by simp)).trans rfl) (isNum _ _ _) h2.len h2.cap), trivial⟩ (fun _ => rfl) (wAdd x (-y) e.v e'.v (by rw [v1, hxa]) (by rw [v2, hyb, Int.natAbs_neg]) (by rw [v1]; exact ha) (by rw [v2]; exact hb))) fun v ms hR => ?_
  obtain ⟨κ, hκ, rfl, rfl⟩ := hR
  refine ⟨by simp, ?_⟩
  repeat' (refine N.go ?_; first | with_reducible (first | refine N.obl (by decide) ?_ | refine N.eq ?_ | refine N.obl rfl ?_ | refine N.obl ⟨by kernel_rfl, by kernel_rfl⟩ ?_ | refine N.forkT ?_ | refine N.forkF ?_) | refine N.obl (by show endB _ _ = Bool.true; kernel_rfl) ?_ | refine N.endM κ 9 hκ rfl (by rfl) (List.mem_singleton.2 rfl) | refine N.forkNo (by decide) ?_ | refine N.forkYes (by decide) ?_ | fail)
theorem wDet3 (a b d : Int) (had : nl a.natAbs + nl d.natAbs ≤ 30) (hbb : nl b.natAbs + nl b.natAbs ≤ 30) (w : World) (xs : List Value) (hx : All2 (AR w) [bz a, bz b, bz d] xs) : Mk Tryz.prog 63 xs w (a * d - b * b).natAbs (bzW (a * d - b * b)) := by
  obtain ⟨e, e', e'', rfl, h1, v1, h2, v2, h3, v3⟩ := ar_big3 hx
  have n1 : nl (a * d).natAbs ≤ 30 := by rw [Int.natAbs_mul]; exact Nat.le_trans (nl_le.2 (mul_nl3 _ _)) had
  have n2 : nl (b * b).natAbs ≤ 30 := by rw [Int.natAbs_mul]; exact Nat.le_trans (nl_le.2 (mul_nl3 _ _)) hbb
  refine calls_nums (es := [e, e', e'']) (vs := [.agg #[.bool (decide (a < 0)), .bool false, .slice (some ⟨0, 0, some 0⟩) (nl e.v) e.c], .agg #[.bool (decide (b < 0)), .bool false, .slice (some ⟨1, 0, some 0⟩) (nl e'.v) e'.c], .agg #[.bool (decide (d < 0)), .bool false, .slice (some ⟨2, 0, some 0⟩) (nl e''.v) e''.c]]) (xs := [e.big (decide (a < 0)), e'.big (decide (b < 0)), e''.big (decide (d < 0))]) w tysOK mixed Tryz.func63 (by rfl) (three_at h1 h2 h3) ⟨.big rfl, .big rfl, .big rfl, trivial⟩ (fun _ => rfl) ?_
  repeat' (refine N.go ?_; first | with_reducible (first | refine N.obl (by decide) ?_ | refine N.eq ?_ | refine N.obl rfl ?_ | refine N.obl ⟨by kernel_rfl, by kernel_rfl⟩ ?_ | refine N.forkT ?_ | refine N.forkF ?_) | refine N.forkNo (by decide) ?_ | refine N.forkYes (by decide) ?_ | fail)
  refine N.go ?_
  refine N.altP ?_
  refine N.go ?_
  refine N.plan [0, 1, 3, 4] [(2, []), (5, []), (6, [7])] (by kernel_rfl) ?_
  repeat' (refine N.go ?_; first | with_reducible (first | refine N.obl (by decide) ?_ | refine N.eq ?_ | refine N.obl rfl ?_ | refine N.obl ⟨by kernel_rfl, by kernel_rfl⟩ ?_ | refine N.forkT ?_ | refine N.forkF ?_) | refine N.forkNo (by decide) ?_ | refine N.forkYes (by decide) ?_ | fail)
  refine N.go ?_
  refine N_callM [0, 2, 7] _ (by kernel_rfl) (fun h₂ hh => mk_arN 7 ((hh 7 (by simp)).trans rfl) (a * d).natAbs (bzW (a * d)) (Tryz.call71) (qs := [.big (decide (a < 0)) e.v, .big (decide (d < 0)) e''.v]) ⟨.big (.ch ((hh 0 (by simp)).trans rfl) (isNum _ _ _) h1.len h1.cap), .big (.ch ((hh 2 (by simp)).trans rfl) (isNum _ _ _) h3.len h3.cap), trivial⟩ (fun _ => rfl) (by rw [v1, v3]; exact wMul a d (by omega))) fun v ms hR => ?_
  obtain ⟨κ, hκ, rfl, rfl⟩ := hR
  refine ⟨by simp, ?_⟩
  repeat' (refine N.go ?_; first | with_reducible (first | refine N.obl (by decide) ?_ | refine N.eq ?_ | refine N.obl rfl ?_ | refine N.obl ⟨by kernel_rfl, by kernel_rfl⟩ ?_ | refine N.forkT ?_ | refine N.forkF ?_) | refine N.forkNo (by decide) ?_ | refine N.forkYes (by decide) ?_ | fail)
  refine N.go ?_
  refine N_callM [1, 7] _ (by kernel_rfl) (fun h₂ hh => mk_arM 7 ((hh 7 (by simp)).trans rfl) (b * b).natAbs (bzW (b * b)) (Tryz.call71) (qs := [.big (decide (b < 0)) e'.v, .big (decide (b < 0)) e'.v]) ⟨.big (.ch ((hh 1 (by simp)).trans rfl) (isNum _ _ _) h2.len h2.cap), .big (.ch ((hh 1 (by simp)).trans rfl) (isNum _ _ _) h2.len h2.cap), trivial⟩ (fun _ => rfl) (by rw [v2]; exact wMul b b (by omega))) fun v ms hR => ?_
  obtain ⟨κ', hκ', rfl, rfl⟩ := hR
  refine ⟨by simp, ?_⟩
  repeat' (refine N.go ?_; first | with_reducible (first | refine N.obl (by decide) ?_ | refine N.eq ?_ | refine N.obl rfl ?_ | refine N.obl ⟨by kernel_rfl, by kernel_rfl⟩ ?_ | refine N.forkT ?_ | refine N.forkF ?_) | refine N.forkNo (by decide) ?_ | refine N.forkYes (by decide) ?_ | fail)
  refine N.go ?_
  refine N_callM [7] _ (by kernel_rfl) (fun h₂ hh => mk_arM 7 ((hh 7 (by simp)).trans rfl) (a * d - b * b).natAbs (bzW (a * d - b * b)) (Tryz.call70) (qs := [.big (decide (a * d < 0)) κ.v, .big (decide (b * b < 0)) κ'.v]) ⟨.big (.ar (by simp)), .big (.ar (by simp)), trivial⟩ (fun _ => rfl) (wSub (a * d) (b * b) κ.v κ'.v hκ hκ' (by rw [hκ]; exact n1) (by rw [hκ']; exact n2))) fun v ms hR => ?_
  obtain ⟨κ3, hκ3, rfl, rfl⟩ := hR
  refine ⟨by simp, ?_⟩
  repeat' (refine N.go ?_; first | with_reducible (first | refine N.obl (by decide) ?_ | refine N.eq ?_ | refine N.obl rfl ?_ | refine N.obl ⟨by kernel_rfl, by kernel_rfl⟩ ?_ | refine N.forkT ?_ | refine N.forkF ?_) | refine N.obl (by show endB _ _ = Bool.true; kernel_rfl) ?_ | refine N.endM κ3 7 hκ3 rfl (by rfl) (by simp) | refine N.forkNo (by decide) ?_ | refine N.forkYes (by decide) ?_ | fail)
theorem wDet (a b d : Int) (ha : -9223372036854775808 ≤ a ∧ a < 9223372036854775808) (hb : -9223372036854775808 ≤ b ∧ b < 9223372036854775808) (hd : -9223372036854775808 ≤ d ∧ d < 9223372036854775808) (w : World) (xs : List Value) (hx : All2 (AR w) [.pl (.agg #[.int .i64 a, .int .i64 b, .int .i64 d])] xs) : Mk Tryz.prog 54 xs w (a * d - b * b).natAbs (bzW (a * d - b * b)) := by
  obtain rfl := ar_pl1 hx
  have n1 : nl a.natAbs ≤ 2 := (two_words (n := a.natAbs) (by omega)).2
  have n2 : nl b.natAbs ≤ 2 := (two_words (n := b.natAbs) (by omega)).2
  have n3 : nl d.natAbs ≤ 2 := (two_words (n := d.natAbs) (by omega)).2
  refine calls_nums (es := []) (vs := [.agg #[.int .i64 a, .int .i64 b, .int .i64 d]]) (xs := [.agg #[.int .i64 a, .int .i64 b, .int .i64 d]]) w tysOK mixed Tryz.func54 (by rfl) (fun e he => by cases he) ⟨.pl rfl, trivial⟩ (fun _ => rfl) ?_
  repeat' (refine N.go ?_; first | with_reducible (first | refine N.obl (by decide) ?_ | refine N.eq ?_ | refine N.obl rfl ?_ | refine N.obl ⟨by kernel_rfl, by kernel_rfl⟩ ?_ | refine N.forkT ?_ | refine N.forkF ?_) | refine N.forkNo (by decide) ?_ | refine N.forkYes (by decide) ?_ | fail)
  refine N.go ?_
  refine N.altP ?_
  refine N.go ?_
  refine N.plan [0, 1, 3, 4, 6, 7] [(2, []), (5, []), (8, []), (9, [10])] (by kernel_rfl) ?_
  repeat' (refine N.go ?_; first | with_reducible (first | refine N.obl (by decide) ?_ | refine N.eq ?_ | refine N.obl rfl ?_ | refine N.obl ⟨by kernel_rfl, by kernel_rfl⟩ ?_ | refine N.forkT ?_ | refine N.forkF ?_) | refine N.forkNo (by decide) ?_ | refine N.forkYes (by decide) ?_ | fail)
  refine N.go ?_
  refine N_callM [2] _ (by kernel_rfl) (fun h₂ hh => mk_arN 2 ((hh 2 (by simp)).trans rfl) a.natAbs (bzW a) (Tryz.call64) (qs := [.pl (.int .i64 a)]) ⟨.pl rfl, trivial⟩ (fun _ => rfl) (wOf a ha)) fun v ms hR => ?_
  obtain ⟨κ1, hκ1, rfl, rfl⟩ := hR
  refine ⟨by simp, ?_⟩
  repeat' (refine N.go ?_; first | with_reducible (first | refine N.obl (by decide) ?_ | refine N.eq ?_ | refine N.obl rfl ?_ | refine N.obl ⟨by kernel_rfl, by kernel_rfl⟩ ?_ | refine N.forkT ?_ | refine N.forkF ?_) | refine N.forkNo (by decide) ?_ | refine N.forkYes (by decide) ?_ | fail)
  refine N.go ?_
  refine N_callM [2] _ (by kernel_rfl) (fun h₂ hh => mk_arM 2 ((hh 2 (by simp)).trans rfl) b.natAbs (bzW b) (Tryz.call64) (qs := [.pl (.int .i64 b)]) ⟨.pl rfl, trivial⟩ (fun _ => rfl) (wOf b hb)) fun v ms hR => ?_
  obtain ⟨κ2, hκ2, rfl, rfl⟩ := hR
  refine ⟨by simp, ?_⟩
  repeat' (refine N.go ?_; first | with_reducible (first | refine N.obl (by decide) ?_ | refine N.eq ?_ | refine N.obl rfl ?_ | refine N.obl ⟨by kernel_rfl, by kernel_rfl⟩ ?_ | refine N.forkT ?_ | refine N.forkF ?_) | refine N.forkNo (by decide) ?_ | refine N.forkYes (by decide) ?_ | fail)
  refine N.go ?_
  refine N_callM [2] _ (by kernel_rfl) (fun h₂ hh => mk_arM 2 ((hh 2 (by simp)).trans rfl) d.natAbs (bzW d) (Tryz.call64) (qs := [.pl (.int .i64 d)]) ⟨.pl rfl, trivial⟩ (fun _ => rfl) (wOf d hd)) fun v ms hR => ?_
  obtain ⟨κ3, hκ3, rfl, rfl⟩ := hR
  refine ⟨by simp, ?_⟩
  repeat' (refine N.go ?_; first | with_reducible (first | refine N.obl (by decide) ?_ | refine N.eq ?_ | refine N.obl rfl ?_ | refine N.obl ⟨by kernel_rfl, by kernel_rfl⟩ ?_ | refine N.forkT ?_ | refine N.forkF ?_) | refine N.forkNo (by decide) ?_ | refine N.forkYes (by decide) ?_ | fail)
  refine N.go ?_
  refine N_callM [2] _ (by kernel_rfl) (fun h₂ hh => mk_arM 2 ((hh 2 (by simp)).trans rfl) (a * d - b * b).natAbs (bzW (a * d - b * b)) (Tryz.call63) (qs := [.big (decide (a < 0)) κ1.v, .big (decide (b < 0)) κ2.v, .big (decide (d < 0)) κ3.v]) ⟨.big (.ar (by simp)), .big (.ar (by simp)), .big (.ar (by simp)), trivial⟩ (fun _ => rfl) (by rw [hκ1, hκ2, hκ3]; exact wDet3 a b d (by omega) (by omega))) fun v ms hR => ?_
  obtain ⟨κ4, hκ4, rfl, rfl⟩ := hR
  refine ⟨by simp, ?_⟩
  repeat' (refine N.go ?_; first | with_reducible (first | refine N.obl (by decide) ?_ | refine N.eq ?_ | refine N.obl rfl ?_ | refine N.obl ⟨by kernel_rfl, by kernel_rfl⟩ ?_ | refine N.forkT ?_ | refine N.forkF ?_) | refine N.obl (by show endB _ _ = Bool.true; kernel_rfl) ?_ | refine N.endM κ4 2 hκ4 rfl (by rfl) (by simp) | refine N.forkNo (by decide) ?_ | refine N.forkYes (by decide) ?_ | fail)
end Go.Proofs.YtimccfnlcnlffaaGreat
