/-
  The walk of elder: who goes first.
-/
import Derived.Test.YtpafcfelaaibgaaTbl3
set_option linter.unusedVariables false
set_option linter.unusedSimpArgs false
namespace Go.Proofs.Ytpafcfelaaibgaa
open Go Go.RowKit Sx

def cmpI (x y : Int) : Int := if x < y then -1 else if x > y then 1 else 0
/-- Who goes ahead of whom: by when they were heard, then by their nodes. -/
def cmpE (a b : Ent) : Int := if cmpI a.heard b.heard ≠ 0 then cmpI a.heard b.heard else cmpI a.node b.node
set_option maxRecDepth 100000 in
set_option maxHeartbeats 2000000 in
theorem nanint_x (s : Int)  (w : World) : Calls Try.prog 52 #[.int .i64 s] w fun e w' => e = .returned (.bool false) ∧ Below w.heap.size w w' := by
  refine calls_pure (G := tys) w tysOK mixed Try.func52 (by rfl) (by first | rfl | (simp only [List.all_cons, List.all_nil, plain_wz, plain_lim, plain_wi]; rfl)) (by first | exact plain3_wz _ | exact plain3_wi _ _ _ | rfl | (simp only [plain3, List.all_cons, List.all_nil, plain_wz, plain_lim, plain_wi]; rfl)) ?_
  repeat' (refine N.go ?_; first | with_reducible refine N.obl (by decide) ?_ | with_reducible refine N.obl (flat_wi _ _ _) ?_ | with_reducible refine N.obl (flat_lim _ _) ?_ | with_reducible refine N.eq ?_ | with_reducible refine N.obl rfl ?_ | with_reducible refine N.obl ⟨by kernel_rfl, by kernel_rfl⟩ ?_ | with_reducible refine N.forkT ?_ | with_reducible refine N.forkF ?_ | fail_if_success skip)
  all_goals simp
theorem cNanint (s : Int) (h : List (Option Chunk)) : CallOK Try.prog 52 [.int .i64 s] h (.bool false) [] [] := call_pure rfl rfl (Try.call52 _) (nanint_x s)
set_option maxRecDepth 100000 in
set_option maxHeartbeats 2000000 in
theorem cmpint_x (a b : Int)  (w : World) : Calls Try.prog 42 #[.int .i64 a, .int .i64 b] w fun e w' => e = .returned (.int .i64 (cmpI a b)) ∧ Below w.heap.size w w' := by
  refine calls_pure (G := tys) w tysOK mixed Try.func42 (by rfl) (by first | rfl | (simp only [List.all_cons, List.all_nil, plain_wz, plain_lim, plain_wi]; rfl)) (by first | exact plain3_wz _ | exact plain3_wi _ _ _ | rfl | (simp only [plain3, List.all_cons, List.all_nil, plain_wz, plain_lim, plain_wi]; rfl)) ?_
  repeat' (refine N.go ?_; first | with_reducible refine N.obl (by decide) ?_ | with_reducible refine N.obl (flat_wi _ _ _) ?_ | with_reducible refine N.obl (flat_lim _ _) ?_ | with_reducible refine N.eq ?_ | with_reducible refine N.obl rfl ?_ | with_reducible refine N.obl ⟨by kernel_rfl, by kernel_rfl⟩ ?_ | with_reducible refine N.forkT ?_ | with_reducible refine N.forkF ?_ | refine N.call (cNanint _ _) ?_ | with_reducible refine N.fork (fun hb => ?_) (fun hb => ?_) | fail_if_success skip)
  all_goals
    refine congrArg _ ?_
    unfold cmpI
    simp only [decide_eq_true_eq, decide_eq_false_iff_not] at *
    first
      | (rw [if_pos (by omega)]; first | done | fail)
      | (rw [if_neg (by omega), if_pos (by omega)]; first | done | fail)
      | (rw [if_neg (by omega), if_neg (by omega)])
theorem cCmpint (a b : Int) (h : List (Option Chunk)) : CallOK Try.prog 42 [.int .i64 a, .int .i64 b] h (.int .i64 (cmpI a b)) [] [] := call_pure rfl rfl (Try.call42 _) (cmpint_x a b)
set_option maxRecDepth 100000 in
set_option maxHeartbeats 2000000 in
theorem nanint64_x (s : Int)  (w : World) : Calls Try.prog 51 #[.int .i64 s] w fun e w' => e = .returned (.bool false) ∧ Below w.heap.size w w' := by
  refine calls_pure (G := tys) w tysOK mixed Try.func51 (by rfl) (by first | rfl | (simp only [List.all_cons, List.all_nil, plain_wz, plain_lim, plain_wi]; rfl)) (by first | exact plain3_wz _ | exact plain3_wi _ _ _ | rfl | (simp only [plain3, List.all_cons, List.all_nil, plain_wz, plain_lim, plain_wi]; rfl)) ?_
  repeat' (refine N.go ?_; first | with_reducible refine N.obl (by decide) ?_ | with_reducible refine N.obl (flat_wi _ _ _) ?_ | with_reducible refine N.obl (flat_lim _ _) ?_ | with_reducible refine N.eq ?_ | with_reducible refine N.obl rfl ?_ | with_reducible refine N.obl ⟨by kernel_rfl, by kernel_rfl⟩ ?_ | with_reducible refine N.forkT ?_ | with_reducible refine N.forkF ?_ | fail_if_success skip)
  all_goals simp
theorem cNanint64 (s : Int) (h : List (Option Chunk)) : CallOK Try.prog 51 [.int .i64 s] h (.bool false) [] [] := call_pure rfl rfl (Try.call51 _) (nanint64_x s)
set_option maxRecDepth 100000 in
set_option maxHeartbeats 2000000 in
theorem cmpint64_x (a b : Int)  (w : World) : Calls Try.prog 41 #[.int .i64 a, .int .i64 b] w fun e w' => e = .returned (.int .i64 (cmpI a b)) ∧ Below w.heap.size w w' := by
  refine calls_pure (G := tys) w tysOK mixed Try.func41 (by rfl) (by first | rfl | (simp only [List.all_cons, List.all_nil, plain_wz, plain_lim, plain_wi]; rfl)) (by first | exact plain3_wz _ | exact plain3_wi _ _ _ | rfl | (simp only [plain3, List.all_cons, List.all_nil, plain_wz, plain_lim, plain_wi]; rfl)) ?_
  repeat' (refine N.go ?_; first | with_reducible refine N.obl (by decide) ?_ | with_reducible refine N.obl (flat_wi _ _ _) ?_ | with_reducible refine N.obl (flat_lim _ _) ?_ | with_reducible refine N.eq ?_ | with_reducible refine N.obl rfl ?_ | with_reducible refine N.obl ⟨by kernel_rfl, by kernel_rfl⟩ ?_ | with_reducible refine N.forkT ?_ | with_reducible refine N.forkF ?_ | refine N.call (cNanint64 _ _) ?_ | with_reducible refine N.fork (fun hb => ?_) (fun hb => ?_) | fail_if_success skip)
  all_goals
    refine congrArg _ ?_
    unfold cmpI
    simp only [decide_eq_true_eq, decide_eq_false_iff_not] at *
    first
      | (rw [if_pos (by omega)]; first | done | fail)
      | (rw [if_neg (by omega), if_pos (by omega)]; first | done | fail)
      | (rw [if_neg (by omega), if_neg (by omega)])
theorem cCmpint64 (a b : Int) (h : List (Option Chunk)) : CallOK Try.prog 41 [.int .i64 a, .int .i64 b] h (.int .i64 (cmpI a b)) [] [] := call_pure rfl rfl (Try.call41 _) (cmpint64_x a b)
abbrev twoC (o : Bool) (a b : Int) : Chunk := ⟨o, 2, [(0, 2, .agg ⟨[.int .i64 a, .int .i64 b]⟩)]⟩
theorem two_re {ix : List (Nat × Nat)} {o o' : Bool} {a b : Int} : ChunkRe ix (twoC o a b) (twoC o' a b) := fun j hj => by
  match j, hj with
  | 0, _ => exact .plain rfl
  | 1, _ => exact .plain rfl
set_option maxRecDepth 100000 in
set_option maxHeartbeats 2000000 in
theorem cOr (o : Bool) (a b : Int) (i : Nat) (h : List (Option Chunk)) (hi : h[i]? = some (some (twoC o a b))) :
    CallOK Try.prog 40 [.slice (some ⟨i, 0, some 0⟩) 2 2] h (.int .i64 (if a ≠ 0 then a else b)) [] [i] := by
  refine call_sub (G := tys) [⟨i, _, twoC false a b, noC⟩] [] [.slice (some ⟨0, 0, some 0⟩) 2 2] tysOK mixed Try.func40 (by rfl) (Try.call40) ⟨hi, trivial⟩ ⟨⟨fun h => (by cases h), Nat.le_refl _, two_re⟩, trivial⟩ (by simp [Apart]) trivial ⟨.slice rfl, trivial⟩ ?_
  repeat' (refine N.go ?_; first | with_reducible refine N.obl (by decide) ?_ | with_reducible refine N.obl (flat_wi _ _ _) ?_ | with_reducible refine N.obl (flat_lim _ _) ?_ | with_reducible refine N.eq ?_ | with_reducible refine N.obl rfl ?_ | with_reducible refine N.obl ⟨by kernel_rfl, by kernel_rfl⟩ ?_ | with_reducible refine N.forkT ?_ | with_reducible refine N.forkF ?_ | refine N.forkNo (by decide) ?_ | refine N.forkYes (by decide) ?_ | refine N.fork (fun hb => ?_) (fun hb => ?_) | fail_if_success skip)
  refine N.go ?_
  refine N.roll 3 ?_
  repeat' (refine N.go ?_; first | with_reducible refine N.obl (by decide) ?_ | with_reducible refine N.obl (flat_wi _ _ _) ?_ | with_reducible refine N.obl (flat_lim _ _) ?_ | with_reducible refine N.eq ?_ | with_reducible refine N.obl rfl ?_ | with_reducible refine N.obl ⟨by kernel_rfl, by kernel_rfl⟩ ?_ | with_reducible refine N.forkT ?_ | with_reducible refine N.forkF ?_ | refine N.forkNo (by decide) ?_ | refine N.forkYes (by decide) ?_ | refine N.fork (fun hb => ?_) (fun hb => ?_) | fail_if_success skip)
  refine N.go ?_
  refine N.idx 0 0 rfl (by decide) ?_
  repeat' (refine N.go ?_; first | with_reducible refine N.obl (by decide) ?_ | with_reducible refine N.obl (flat_wi _ _ _) ?_ | with_reducible refine N.obl (flat_lim _ _) ?_ | with_reducible refine N.eq ?_ | with_reducible refine N.obl rfl ?_ | with_reducible refine N.obl ⟨by kernel_rfl, by kernel_rfl⟩ ?_ | with_reducible refine N.forkT ?_ | with_reducible refine N.forkF ?_ | refine N.forkNo (by decide) ?_ | refine N.forkYes (by decide) ?_ | refine N.fork (fun hb => ?_) (fun hb => ?_) | fail_if_success skip)
  · simp only [bne_iff_ne, ne_eq] at hb
    rw [if_pos hb]
    repeat' (refine N.go ?_; first | with_reducible refine N.obl (by decide) ?_ | with_reducible refine N.obl (flat_wi _ _ _) ?_ | with_reducible refine N.obl (flat_lim _ _) ?_ | with_reducible refine N.eq ?_ | with_reducible refine N.obl rfl ?_ | with_reducible refine N.obl ⟨by kernel_rfl, by kernel_rfl⟩ ?_ | with_reducible refine N.forkT ?_ | with_reducible refine N.forkF ?_ | refine N.obl (.plain rfl) ?_ | refine N.obl trivial ?_ | exact N.true | fail_if_success skip)
  · refine N.go ?_
    refine N.idx 1 0 rfl (by decide) ?_
    repeat' (refine N.go ?_; first | with_reducible refine N.obl (by decide) ?_ | with_reducible refine N.obl (flat_wi _ _ _) ?_ | with_reducible refine N.obl (flat_lim _ _) ?_ | with_reducible refine N.eq ?_ | with_reducible refine N.obl rfl ?_ | with_reducible refine N.obl ⟨by kernel_rfl, by kernel_rfl⟩ ?_ | with_reducible refine N.forkT ?_ | with_reducible refine N.forkF ?_ | refine N.forkNo (by decide) ?_ | refine N.forkYes (by decide) ?_ | refine N.fork (fun hb => ?_) (fun hb => ?_) | fail_if_success skip)
    · rename_i hb1
      simp only [bne_iff_ne, ne_eq, bne_eq_false_iff_eq] at hb hb1
      rw [if_neg (by omega)]
      repeat' (refine N.go ?_; first | with_reducible refine N.obl (by decide) ?_ | with_reducible refine N.obl (flat_wi _ _ _) ?_ | with_reducible refine N.obl (flat_lim _ _) ?_ | with_reducible refine N.eq ?_ | with_reducible refine N.obl rfl ?_ | with_reducible refine N.obl ⟨by kernel_rfl, by kernel_rfl⟩ ?_ | with_reducible refine N.forkT ?_ | with_reducible refine N.forkF ?_ | refine N.obl (.plain rfl) ?_ | refine N.obl trivial ?_ | exact N.true | fail_if_success skip)
    · rename_i hb1
      simp only [bne_iff_ne, ne_eq, bne_eq_false_iff_eq] at hb hb1
      rw [if_neg (by omega), hb]
      repeat' (refine N.go ?_; first | with_reducible refine N.obl (by decide) ?_ | with_reducible refine N.obl (flat_wi _ _ _) ?_ | with_reducible refine N.obl (flat_lim _ _) ?_ | with_reducible refine N.eq ?_ | with_reducible refine N.obl rfl ?_ | with_reducible refine N.obl ⟨by kernel_rfl, by kernel_rfl⟩ ?_ | with_reducible refine N.forkT ?_ | with_reducible refine N.forkF ?_ | refine N.obl (.plain rfl) ?_ | refine N.obl trivial ?_ | exact N.true | fail_if_success skip)
set_option maxRecDepth 100000 in
set_option maxHeartbeats 2000000 in
theorem elder1_x (a b : Ent)  (w : World) : Calls Try.prog 39 #[entV a, entV b] w fun e w' => e = .returned (.int .i64 (cmpE a b)) ∧ Below w.heap.size w w' := by
  refine calls_pure (G := tys) w tysOK mixed Try.func39 (by rfl) (by first | rfl | (simp only [List.all_cons, List.all_nil, plain_wz, plain_lim, plain_wi]; rfl)) (by first | exact plain3_wz _ | exact plain3_wi _ _ _ | rfl | (simp only [plain3, List.all_cons, List.all_nil, plain_wz, plain_lim, plain_wi]; rfl)) ?_
  repeat' (refine N.go ?_; first | with_reducible refine N.obl (by decide) ?_ | with_reducible refine N.obl (flat_wi _ _ _) ?_ | with_reducible refine N.obl (flat_lim _ _) ?_ | with_reducible refine N.eq ?_ | with_reducible refine N.obl rfl ?_ | with_reducible refine N.obl ⟨by kernel_rfl, by kernel_rfl⟩ ?_ | with_reducible refine N.forkT ?_ | with_reducible refine N.forkF ?_ | refine N.call (cCmpint64 _ _ _) ?_ | refine N.call (cCmpint _ _ _) ?_ | refine N.call (cOr _ _ _ _ _ (by rfl)) ?_ | fail_if_success skip)
  all_goals rfl
theorem cElder1 (a b : Ent) (h : List (Option Chunk)) : CallOK Try.prog 39 [entV a, entV b] h (.int .i64 (cmpE a b)) [] [] := call_pure rfl rfl (Try.call39 _) (elder1_x a b)
/-- The first of the first r. -/
def minT (T : Nat → Ent) : Nat → Ent
  | 0 => T 0
  | 1 => T 0
  | r + 2 => if cmpE (T (r + 1)) (minT T (r + 1)) < 0 then T (r + 1) else minT T (r + 1)
theorem minT_step (T : Nat → Ent) (r : Nat) (h : 1 ≤ r) : minT T (r + 1) = if cmpE (T r) (minT T r) < 0 then T r else minT T r := by
  obtain ⟨k, rfl⟩ : ∃ k, r = k + 1 := ⟨r - 1, by omega⟩
  rfl
abbrev elderF : Value := .func (.func 39) ⟨[]⟩ ⟨[]⟩
abbrev oneE (e : Ent) : Chunk := ⟨true, 10, [(0, 10, entV e)]⟩
set_option maxRecDepth 100000 in
set_option maxHeartbeats 2000000 in
theorem cMinT (o : Bool) (cap : Nat) (T : Nat → Ent) (n c i : Nat) (h : List (Option Chunk)) (hi : h[i]? = some (some (enC o cap T))) (hn : 1 ≤ n) (hc : n ≤ cap) (hm : n ≤ 1000) :
    CallOK Try.prog 38 [.slice (some ⟨i, 0, some 0⟩) n c, elderF] h (entV (minT T n)) [] [i] := by
  refine call_sub (G := tys) [⟨i, _, enC false cap T, noC⟩] [] [.slice (some ⟨0, 0, some 0⟩) n c, elderF] tysOK mixed Try.func38 (by rfl) (Try.call38) ⟨hi, trivial⟩ ⟨⟨fun h => (by cases h), Nat.le_refl _, enC_re (fun _ _ => rfl)⟩, trivial⟩ (by simp [Apart]) trivial ⟨.slice rfl, .plain rfl, trivial⟩ ?_
  repeat' (refine N.go ?_; first | with_reducible refine N.obl (by decide) ?_ | with_reducible refine N.obl (flat_wi _ _ _) ?_ | with_reducible refine N.obl (flat_lim _ _) ?_ | with_reducible refine N.eq ?_ | with_reducible refine N.obl rfl ?_ | with_reducible refine N.obl ⟨by kernel_rfl, by kernel_rfl⟩ ?_ | with_reducible refine N.forkT ?_ | with_reducible refine N.forkF ?_ | refine N.call (cElder1 _ _ _) ?_ | refine N.forkYes (by rw [decide_eq_true_eq]; omega) ?_ | refine N.forkNo (by rw [decide_eq_false_iff_not]; omega) ?_ | fail_if_success skip)
  refine N.go ?_
  refine N.idx 0 1 rfl hn ?_
  refine N.go ?_
  refine N.load _ (rd_en 0 rfl (by omega) rfl) ?_
  repeat' (refine N.go ?_; first | with_reducible refine N.obl (by decide) ?_ | with_reducible refine N.obl (flat_wi _ _ _) ?_ | with_reducible refine N.obl (flat_lim _ _) ?_ | with_reducible refine N.eq ?_ | with_reducible refine N.obl rfl ?_ | with_reducible refine N.obl ⟨by kernel_rfl, by kernel_rfl⟩ ?_ | with_reducible refine N.forkT ?_ | with_reducible refine N.forkF ?_ | refine N.call (cElder1 _ _ _) ?_ | refine N.forkYes (by rw [decide_eq_true_eq]; omega) ?_ | refine N.forkNo (by rw [decide_eq_false_iff_not]; omega) ?_ | fail_if_success skip)
  refine N.go ?_
  refine N.loop (α := Nat) (fun r => 1 ≤ r ∧ r ≤ n) (fun r => n - r) (fun r => [(6, .int .i64 (r : Int))]) (fun r => [(2, oneE (minT T r))]) 1 ⟨Nat.le_refl _, hn⟩ ?_ ?_
  · repeat' (refine N.go ?_; first | with_reducible refine N.obl (by decide) ?_ | with_reducible refine N.obl (flat_wi _ _ _) ?_ | with_reducible refine N.obl (flat_lim _ _) ?_ | with_reducible refine N.eq ?_ | with_reducible refine N.obl rfl ?_ | with_reducible refine N.obl ⟨by kernel_rfl, by kernel_rfl⟩ ?_ | with_reducible refine N.forkT ?_ | with_reducible refine N.forkF ?_ | exact N.true | with_reducible refine N.obl (ChunkLe.refl _) ?_ | refine N.obl (ChunkLe.of rfl) ?_ | refine N.obl (int_eq (by rw [i64s _ (by omega) (by omega)]; omega)) ?_ | fail_if_success skip)
  · intro r hr
    obtain ⟨r1, r2⟩ := hr
    by_cases hlt : r < n
    · have hst := minT_step T r r1
      repeat' (refine N.go ?_; first | with_reducible refine N.obl (by decide) ?_ | with_reducible refine N.obl (flat_wi _ _ _) ?_ | with_reducible refine N.obl (flat_lim _ _) ?_ | with_reducible refine N.eq ?_ | with_reducible refine N.obl rfl ?_ | with_reducible refine N.obl ⟨by kernel_rfl, by kernel_rfl⟩ ?_ | with_reducible refine N.forkT ?_ | with_reducible refine N.forkF ?_ | refine N.call (cElder1 _ _ _) ?_ | refine N.forkYes (by rw [decide_eq_true_eq]; omega) ?_ | refine N.forkNo (by rw [decide_eq_false_iff_not]; omega) ?_ | fail_if_success skip)
      refine N.go ?_
      refine N.idx r 1 rfl hlt ?_
      refine N.go ?_
      refine N.load _ (rd_en r rfl (by omega) (by first | rfl | omega)) ?_
      repeat' (refine N.go ?_; first | with_reducible refine N.obl (by decide) ?_ | with_reducible refine N.obl (flat_wi _ _ _) ?_ | with_reducible refine N.obl (flat_lim _ _) ?_ | with_reducible refine N.eq ?_ | with_reducible refine N.obl rfl ?_ | with_reducible refine N.obl ⟨by kernel_rfl, by kernel_rfl⟩ ?_ | with_reducible refine N.forkT ?_ | with_reducible refine N.forkF ?_ | refine N.call (cElder1 _ _ _) ?_ | refine N.forkYes (by rw [decide_eq_true_eq]; omega) ?_ | refine N.forkNo (by rw [decide_eq_false_iff_not]; omega) ?_ | fail_if_success skip)
      refine N.go ?_
      refine N.fork (fun hb => ?_) (fun hb => ?_)
      · simp only [decide_eq_true_eq] at hb
        rw [if_pos hb] at hst
        repeat' (refine N.go ?_; first | with_reducible refine N.obl (by decide) ?_ | with_reducible refine N.obl (flat_wi _ _ _) ?_ | with_reducible refine N.obl (flat_lim _ _) ?_ | with_reducible refine N.eq ?_ | with_reducible refine N.obl rfl ?_ | with_reducible refine N.obl ⟨by kernel_rfl, by kernel_rfl⟩ ?_ | with_reducible refine N.forkT ?_ | with_reducible refine N.forkF ?_ | refine N.call (cElder1 _ _ _) ?_ | refine N.forkYes (by rw [decide_eq_true_eq]; omega) ?_ | refine N.forkNo (by rw [decide_eq_false_iff_not]; omega) ?_ | fail_if_success skip)
        refine N.go ?_
        refine N.idx r 1 rfl hlt ?_
        refine N.go ?_
        refine N.load _ (rd_en r rfl (by omega) (by first | rfl | omega)) ?_
        repeat' (refine N.go ?_; first | with_reducible refine N.obl (by decide) ?_ | with_reducible refine N.obl (flat_wi _ _ _) ?_ | with_reducible refine N.obl (flat_lim _ _) ?_ | with_reducible refine N.eq ?_ | with_reducible refine N.obl rfl ?_ | with_reducible refine N.obl ⟨by kernel_rfl, by kernel_rfl⟩ ?_ | with_reducible refine N.forkT ?_ | with_reducible refine N.forkF ?_ | refine N.call (cElder1 _ _ _) ?_ | refine N.forkYes (by rw [decide_eq_true_eq]; omega) ?_ | refine N.forkNo (by rw [decide_eq_false_iff_not]; omega) ?_ | fail_if_success skip)
        refine N.go ?_
        refine N.next (r + 1) ⟨⟨by omega, hlt⟩, by omega⟩ ?_
        rw [hst]
        repeat' (refine N.go ?_; first | with_reducible refine N.obl (by decide) ?_ | with_reducible refine N.obl (flat_wi _ _ _) ?_ | with_reducible refine N.obl (flat_lim _ _) ?_ | with_reducible refine N.eq ?_ | with_reducible refine N.obl rfl ?_ | with_reducible refine N.obl ⟨by kernel_rfl, by kernel_rfl⟩ ?_ | with_reducible refine N.forkT ?_ | with_reducible refine N.forkF ?_ | exact N.true | with_reducible refine N.obl (ChunkLe.refl _) ?_ | refine N.obl (ChunkLe.of rfl) ?_ | refine N.obl (int_eq (by rw [i64s _ (by omega) (by omega)]; omega)) ?_ | fail_if_success skip)
      · simp only [decide_eq_false_iff_not] at hb
        rw [if_neg hb] at hst
        repeat' (refine N.go ?_; first | with_reducible refine N.obl (by decide) ?_ | with_reducible refine N.obl (flat_wi _ _ _) ?_ | with_reducible refine N.obl (flat_lim _ _) ?_ | with_reducible refine N.eq ?_ | with_reducible refine N.obl rfl ?_ | with_reducible refine N.obl ⟨by kernel_rfl, by kernel_rfl⟩ ?_ | with_reducible refine N.forkT ?_ | with_reducible refine N.forkF ?_ | refine N.call (cElder1 _ _ _) ?_ | refine N.forkYes (by rw [decide_eq_true_eq]; omega) ?_ | refine N.forkNo (by rw [decide_eq_false_iff_not]; omega) ?_ | fail_if_success skip)
        refine N.go ?_
        refine N.next (r + 1) ⟨⟨by omega, hlt⟩, by omega⟩ ?_
        rw [hst]
        repeat' (refine N.go ?_; first | with_reducible refine N.obl (by decide) ?_ | with_reducible refine N.obl (flat_wi _ _ _) ?_ | with_reducible refine N.obl (flat_lim _ _) ?_ | with_reducible refine N.eq ?_ | with_reducible refine N.obl rfl ?_ | with_reducible refine N.obl ⟨by kernel_rfl, by kernel_rfl⟩ ?_ | with_reducible refine N.forkT ?_ | with_reducible refine N.forkF ?_ | exact N.true | with_reducible refine N.obl (ChunkLe.refl _) ?_ | refine N.obl (ChunkLe.of rfl) ?_ | refine N.obl (int_eq (by rw [i64s _ (by omega) (by omega)]; omega)) ?_ | fail_if_success skip)
    · obtain rfl : r = n := by omega
      repeat' (refine N.go ?_; first | with_reducible refine N.obl (by decide) ?_ | with_reducible refine N.obl (flat_wi _ _ _) ?_ | with_reducible refine N.obl (flat_lim _ _) ?_ | with_reducible refine N.eq ?_ | with_reducible refine N.obl rfl ?_ | with_reducible refine N.obl ⟨by kernel_rfl, by kernel_rfl⟩ ?_ | with_reducible refine N.forkT ?_ | with_reducible refine N.forkF ?_ | refine N.forkYes (by rw [decide_eq_true_eq]; omega) ?_ | refine N.forkNo (by rw [decide_eq_false_iff_not]; omega) ?_ | refine N.obl (.plain rfl) ?_ | refine N.obl trivial ?_ | exact N.true | fail_if_success skip)
theorem mainG_re {ix : List (Nat × Nat)} {x y : Ext} {o o' : Bool} {most : Int} {i j i' j' : Nat} (hi : ixK ix i' = some i) (hj : ixK ix j' = some j) : ChunkRe ix (mainG x o most i j) (mainG y o' most i' j') := fun l hl => by
  match l, hl with
  | 0, _ => exact .plain rfl
  | 1, _ => exact .map hi
  | 2, _ => exact .map hj
abbrev mainN (most : Int) : Chunk := mainG Ext.none false most 1 2
set_option maxRecDepth 100000 in
set_option maxHeartbeats 2000000 in
theorem cElder (x : Ext) (o : Bool) (most : Int) (E : List (Int × Ent)) (D : List (Int × LifR)) (hE : E.length ≤ 64) (hpos : 0 < E.length) (i i1 i2 : Nat) (h : List (Option Chunk)) (hi : h[i]? = some (some (mainG x o most i1 i2))) (h1 : h[i1]? = some (some (mapC entV E))) (h2 : h[i2]? = some (some (mapC lifV D))) (hii : i ≠ i1 ∧ i ≠ i2 ∧ i1 ≠ i2) :
    CallOK Try.prog 26 [.pointer (some ⟨i, 0, some 0⟩)] h (.int .i64 (minT (entT E) E.length).node) [(i1, mapC entV E), (i2, mapC lifV D)] [i] := by
  refine call_res (G := tys) (fun _ : Unit => True) (fun _ => _) [⟨i, _, mainN most, noC⟩, ⟨i1, mapC entV E, mapC entV E, mapC entV E⟩, ⟨i2, mapC lifV D, mapC lifV D, mapC lifV D⟩] [] [.pointer (some ⟨0, 0, some 0⟩)] tysOK mixed Try.func26 (by rfl) (Try.call26) ⟨hi, h1, h2, trivial⟩
    ⟨⟨fun h => (by cases h), Nat.le_refl _, mainG_re (by rfl) (by rfl)⟩, ⟨fun h => ⟨rfl, Nat.le_refl _⟩, Nat.le_refl _, map_re⟩, ⟨fun h => ⟨rfl, Nat.le_refl _⟩, Nat.le_refl _, map_re⟩, trivial⟩ (by simp [Apart, hii.1, hii.2.1, hii.2.2]) ⟨.inl rfl, .inr ⟨rfl, rfl⟩, .inr ⟨rfl, rfl⟩, trivial⟩ trivial ⟨.ptr rfl, trivial⟩ Opens.same ?_
  rintro ⟨⟩ -
  repeat' (refine N.go ?_; first | with_reducible refine N.obl (by decide) ?_ | with_reducible refine N.obl (flat_wi _ _ _) ?_ | with_reducible refine N.obl (flat_lim _ _) ?_ | with_reducible refine N.eq ?_ | with_reducible refine N.obl rfl ?_ | with_reducible refine N.obl ⟨by kernel_rfl, by kernel_rfl⟩ ?_ | with_reducible refine N.forkT ?_ | with_reducible refine N.forkF ?_ | fail_if_success skip)
  refine N.go ?_
  refine N.callAll (cAllI Ext.none false most E hE 0 1 2 3 _ (by rfl) (by rfl) (by decide) (by rfl)) fun v ms hR => ?_
  rcases hR with ⟨hE0, _, _⟩ | ⟨cap, _, hcap, rfl, rfl⟩
  · rw [hE0] at hpos; exact absurd hpos (by simp)
  have hmin : ∀ r, r ≤ E.length → 1 ≤ r → minT (fun i => if i < E.length then entT E i else Ent.zero) r = minT (entT E) r := by
    intro r
    induction r with
    | zero => intro _ h0; omega
    | succ r ih =>
      intro hr _
      rcases Nat.eq_zero_or_pos r with rfl | h0
      · show (if 0 < E.length then entT E 0 else Ent.zero) = entT E 0
        rw [if_pos hpos]
      · rw [minT_step _ r h0, minT_step _ r h0, ih (by omega) h0, if_pos (by omega : r < E.length)]
  have hm1 := hmin E.length (Nat.le_refl _) hpos
  repeat' (refine N.go ?_; first | with_reducible refine N.obl (by decide) ?_ | with_reducible refine N.obl (flat_wi _ _ _) ?_ | with_reducible refine N.obl (flat_lim _ _) ?_ | with_reducible refine N.eq ?_ | with_reducible refine N.obl rfl ?_ | with_reducible refine N.obl ⟨by kernel_rfl, by kernel_rfl⟩ ?_ | with_reducible refine N.forkT ?_ | with_reducible refine N.forkF ?_ | fail_if_success skip)
  refine N.go ?_
  refine N.call (cMinT true cap _ E.length cap 3 _ (by rfl) hpos hcap (by omega)) ?_
  rw [hm1]
  repeat' (refine N.go ?_; first | with_reducible refine N.obl (by decide) ?_ | with_reducible refine N.obl (flat_wi _ _ _) ?_ | with_reducible refine N.obl (flat_lim _ _) ?_ | with_reducible refine N.eq ?_ | with_reducible refine N.obl rfl ?_ | with_reducible refine N.obl ⟨by kernel_rfl, by kernel_rfl⟩ ?_ | with_reducible refine N.forkT ?_ | with_reducible refine N.forkF ?_ | refine N.endSame ?_ | refine N.obl (.plain rfl) ?_ | refine N.obl ⟨map_post (by rfl), map_post (by rfl), trivial⟩ ?_ | refine N.obl trivial ?_ | refine N.obl ⟨⟨.inl rfl, .inr ⟨_, rfl, rfl⟩, .inr ⟨_, rfl, rfl⟩, trivial⟩, trivial⟩ ?_ | exact N.true | fail_if_success skip)
end Go.Proofs.Ytpafcfelaaibgaa
