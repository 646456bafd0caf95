/-
  The walks of the document's numbers: made, Of, times, plus, quo.
-/
import Derived.Test.YtioohgocbpdkeaaRa
set_option linter.unusedVariables false
set_option linter.unusedSimpArgs false
namespace Go.Proofs.Ytioohgocbpdkeaa
open Go Go.RowKit Sx

theorem re_big {ix : List (Nat × Nat)} {i k l l' c : Nat} {r b : Bool} (h : ixK ix k = some i) (e : b = r) (e2 : l = l') : Re ix (.agg ⟨[.bool r, .bool false, .slice (some ⟨i, 0, some 0⟩) l c]⟩) (.agg ⟨[.bool b, .bool false, .slice (some ⟨k, 0, some 0⟩) l' c]⟩) := by
  subst e e2; exact .one (.agg ⟨.plain rfl, .plain rfl, .slice h, trivial⟩)
set_option maxRecDepth 100000 in
set_option maxHeartbeats 2000000 in
theorem cMade32 (v m l i : Nat) (s r : Bool) (hr : r = (s && decide (0 < v))) (o : Chunk) (h : List (Option Chunk)) (hi : h[i]? = some (some o)) (hin : IsNum o m v) (hl : l ≤ m) (hm : m ≤ 31) (hv : v < bw l) :
    CallOK Try.prog 74 [.bool s, .slice (some ⟨i, 0, some 0⟩) l m] h (.agg #[.bool r, .bool false, .slice (some ⟨i, 0, some 0⟩) (nl v) m]) [] [i] := by
  have hn : nl v ≤ l := nl_le.2 hv
  have hb := bitn_le v
  refine call_sub (G := tys) [⟨i, _, numC false m v, ⟨false, 0, []⟩⟩] [] [.bool s, .slice (some ⟨0, 0, some 0⟩) l m] tysOK mixed Try.func74 (by rfl) (Try.call74) ⟨hi, trivial⟩ ⟨⟨fun h => (by cases h), Nat.le_of_eq hin.1.symm, num_re hin⟩, trivial⟩ (by simp [Apart]) trivial ⟨.plain rfl, .slice rfl, trivial⟩ ?_
  cases s with
  | false =>
    rw [Bool.false_and] at hr; subst hr
    repeat' (refine N.go ?_; first | with_reducible refine N.obl (by decide) ?_ | with_reducible refine N.obl (flat_wi _ _ _) ?_ | with_reducible refine N.obl (flat_lim _ _) ?_ | with_reducible refine N.eq ?_ | with_reducible refine N.obl rfl ?_ | with_reducible refine N.obl ⟨by kernel_rfl, by kernel_rfl⟩ ?_ | with_reducible refine N.forkT ?_ | with_reducible refine N.forkF ?_ | refine N.call (cTrim v m l _ _ _ (by rfl) (isNum _ _ _) hl (by omega) hv) ?_ | refine N.call (cBits32 v m _ _ _ (by rfl) (isNum _ _ _) (by omega) (by omega)) ?_ | refine N.forkNo (by decide) ?_ | refine N.forkYes (by decide) ?_ | refine N.forkYes (by rw [decide_eq_true_eq]; omega) ?_ | refine N.forkNo (by rw [decide_eq_false_iff_not]; omega) ?_ | refine N.obl (.one (.agg ⟨.plain (by rfl), .plain rfl, .slice (by rfl), trivial⟩)) ?_ | refine N.obl trivial ?_ | exact N.true | fail_if_success skip)
  | true =>
    rw [Bool.true_and] at hr
    rcases Nat.eq_zero_or_pos v with hz | hp
    · have hr : r = false := by rw [hr, hz]; rfl
      subst hr
      have h0 : nl v = 0 := nl_zero_iff.2 hz
      repeat' (refine N.go ?_; first | with_reducible refine N.obl (by decide) ?_ | with_reducible refine N.obl (flat_wi _ _ _) ?_ | with_reducible refine N.obl (flat_lim _ _) ?_ | with_reducible refine N.eq ?_ | with_reducible refine N.obl rfl ?_ | with_reducible refine N.obl ⟨by kernel_rfl, by kernel_rfl⟩ ?_ | with_reducible refine N.forkT ?_ | with_reducible refine N.forkF ?_ | refine N.call (cTrim v m l _ _ _ (by rfl) (isNum _ _ _) hl (by omega) hv) ?_ | refine N.call (cBits32 v m _ _ _ (by rfl) (isNum _ _ _) (by omega) (by omega)) ?_ | refine N.forkNo (by decide) ?_ | refine N.forkYes (by decide) ?_ | refine N.forkYes (by rw [decide_eq_true_eq]; omega) ?_ | refine N.forkNo (by rw [decide_eq_false_iff_not]; omega) ?_ | refine N.obl (re_big (by rfl) (by rw [decide_eq_false_iff_not]; omega) rfl) ?_ | refine N.obl trivial ?_ | exact N.true | fail_if_success skip)
    · rw [decide_eq_true hp] at hr
      subst hr
      have h0 : nl v ≠ 0 := fun e => by have := nl_zero_iff.1 e; omega
      repeat' (refine N.go ?_; first | with_reducible refine N.obl (by decide) ?_ | with_reducible refine N.obl (flat_wi _ _ _) ?_ | with_reducible refine N.obl (flat_lim _ _) ?_ | with_reducible refine N.eq ?_ | with_reducible refine N.obl rfl ?_ | with_reducible refine N.obl ⟨by kernel_rfl, by kernel_rfl⟩ ?_ | with_reducible refine N.forkT ?_ | with_reducible refine N.forkF ?_ | refine N.call (cTrim v m l _ _ _ (by rfl) (isNum _ _ _) hl (by omega) hv) ?_ | refine N.call (cBits32 v m _ _ _ (by rfl) (isNum _ _ _) (by omega) (by omega)) ?_ | refine N.forkNo (by decide) ?_ | refine N.forkYes (by decide) ?_ | refine N.forkYes (by rw [decide_eq_true_eq]; omega) ?_ | refine N.forkNo (by rw [decide_eq_false_iff_not]; omega) ?_ | refine N.obl (re_big (by rfl) (by rw [decide_eq_true_eq]; omega) rfl) ?_ | refine N.obl trivial ?_ | exact N.true | fail_if_success skip)
theorem trimnil_x (w : World) : Calls Try.prog 84 #[.slice none 0 0] w fun e w' => e = .returned (.slice none 0 0) ∧ Below w.heap.size w w' := by
  refine calls_pure (G := tys) w tysOK mixed Try.func84 (by rfl) (by rfl) (by rfl) ?_
  repeat' (refine N.go ?_; first | with_reducible refine N.obl (by decide) ?_ | with_reducible refine N.obl (flat_wi _ _ _) ?_ | with_reducible refine N.obl (flat_lim _ _) ?_ | with_reducible refine N.eq ?_ | with_reducible refine N.obl rfl ?_ | with_reducible refine N.obl ⟨by kernel_rfl, by kernel_rfl⟩ ?_ | with_reducible refine N.forkT ?_ | with_reducible refine N.forkF ?_ | refine N.roll 1 ?_ | refine N.forkNo (by decide) ?_ | refine N.forkYes (by decide) ?_ | fail_if_success skip)
  all_goals rfl
theorem bitsnil_x (w : World) : Calls Try.prog 87 #[.slice none 0 0] w fun e w' => e = .returned (.int .i64 0) ∧ Below w.heap.size w w' := by
  refine calls_pure (G := tys) w tysOK mixed Try.func87 (by rfl) (by rfl) (by rfl) ?_
  repeat' (refine N.go ?_; first | with_reducible refine N.obl (by decide) ?_ | with_reducible refine N.obl (flat_wi _ _ _) ?_ | with_reducible refine N.obl (flat_lim _ _) ?_ | with_reducible refine N.eq ?_ | with_reducible refine N.obl rfl ?_ | with_reducible refine N.obl ⟨by kernel_rfl, by kernel_rfl⟩ ?_ | with_reducible refine N.forkT ?_ | with_reducible refine N.forkF ?_ | refine N.roll 1 ?_ | refine N.forkNo (by decide) ?_ | refine N.forkYes (by decide) ?_ | fail_if_success skip)
  all_goals rfl
set_option maxRecDepth 100000 in
theorem madenil_x (s : Bool) (w : World) : Calls Try.prog 74 #[.bool s, .slice none 0 0] w fun e w' => e = .returned (.agg #[.bool false, .bool false, .slice none 0 0]) ∧ Below w.heap.size w w' := by
  cases s with
  | false =>
    refine calls_pure (G := tys) w tysOK mixed Try.func74 (by rfl) (by rfl) (by rfl) ?_
    repeat' (refine N.go ?_; first | with_reducible refine N.obl (by decide) ?_ | with_reducible refine N.obl (flat_wi _ _ _) ?_ | with_reducible refine N.obl (flat_lim _ _) ?_ | with_reducible refine N.eq ?_ | with_reducible refine N.obl rfl ?_ | with_reducible refine N.obl ⟨by kernel_rfl, by kernel_rfl⟩ ?_ | with_reducible refine N.forkT ?_ | with_reducible refine N.forkF ?_ | refine N.call (call_pure (by rfl) (by rfl) (Try.call84 _) (fun w => trimnil_x w)) ?_ | refine N.call (call_pure (by rfl) (by rfl) (Try.call87 _) (fun w => bitsnil_x w)) ?_ | refine N.forkNo (by decide) ?_ | refine N.forkYes (by decide) ?_ | fail_if_success skip)
    all_goals rfl
  | true =>
    refine calls_pure (G := tys) w tysOK mixed Try.func74 (by rfl) (by rfl) (by rfl) ?_
    repeat' (refine N.go ?_; first | with_reducible refine N.obl (by decide) ?_ | with_reducible refine N.obl (flat_wi _ _ _) ?_ | with_reducible refine N.obl (flat_lim _ _) ?_ | with_reducible refine N.eq ?_ | with_reducible refine N.obl rfl ?_ | with_reducible refine N.obl ⟨by kernel_rfl, by kernel_rfl⟩ ?_ | with_reducible refine N.forkT ?_ | with_reducible refine N.forkF ?_ | refine N.call (call_pure (by rfl) (by rfl) (Try.call84 _) (fun w => trimnil_x w)) ?_ | refine N.call (call_pure (by rfl) (by rfl) (Try.call87 _) (fun w => bitsnil_x w)) ?_ | refine N.forkNo (by decide) ?_ | refine N.forkYes (by decide) ?_ | fail_if_success skip)
    all_goals rfl
theorem cMadeNil (s : Bool) (h : List (Option Chunk)) : CallOK Try.prog 74 [.bool s, .slice none 0 0] h (.agg #[.bool false, .bool false, .slice none 0 0]) [] [] := call_pure rfl rfl (Try.call74 _) (madenil_x s)
theorem two_words {n : Nat} (h : n < 18446744073709551616) : n < bw 2 ∧ nl n ≤ 2 := by
  have : bw 2 = 18446744073709551616 := by decide
  exact ⟨by omega, nl_le.2 (by omega)⟩
theorem isNum2 {o : Bool} {n : Nat} {x y : Int} (hx : x = ((n % 4294967296 : Nat) : Int)) (hy : y = ((n / 4294967296 % 4294967296 : Nat) : Int)) : IsNum ⟨o, 2, [(0, 2, .agg ⟨[.int .u32 x, .int .u32 y]⟩)]⟩ 2 n := ⟨rfl, fun j hj => by
  subst hx hy
  match j, hj with
  | 0, _ => unfold lm; rw [bw_zero, Nat.div_one]; rfl
  | 1, _ => rfl⟩
theorem isNum1 {o : Bool} {n : Nat} {x : Int} (hx : x = ((n % 4294967296 : Nat) : Int)) : IsNum ⟨o, 1, [(0, 1, .agg ⟨[.int .u32 x]⟩)]⟩ 1 n := ⟨rfl, fun j hj => by
  subst hx
  match j, hj with
  | 0, _ => unfold lm; rw [bw_zero, Nat.div_one]; rfl⟩
theorem post_num {ix : List (Nat × Nat)} {h : List (Option Chunk)} {k m v : Nat} {c : Chunk} (hh : h[k]? = some (some c)) (ho : c.own = true) (hc : IsNum c m v) : PostC ix h k (numC true m v) :=
  ⟨c, hh, fun _ => ho, Nat.le_of_eq hc.1.symm, fun j hj => by
    have hj : j < m := hj
    rw [seg_cell hj, hc.2 j hj]; exact .plain rfl⟩
theorem w32 (n : Nat) : IntKind.u32.wrap (n : Int) = ((n % 4294967296 : Nat) : Int) := by rw [IntKind.wrap_u32]; omega
theorem w64 {n : Nat} (h : n < 18446744073709551616) : IntKind.u64.wrap (n : Int) = (n : Int) := by rw [IntKind.wrap_u64]; omega
set_option maxRecDepth 100000 in
set_option maxHeartbeats 2000000 in
theorem cROf (n K : Nat) (h : List (Option Chunk)) (h0 : h[K]? = some none) (hn : n < 9223372036854775808) :
    CallOK Try.prog 59 [.int .i64 (n : Int)] h (.agg #[.bool false, .bool false, .slice (some ⟨K, 0, some 0⟩) (nl n) 2]) [(K, numC true 2 n)] [] := by
  have h2 := two_words (n := n) (by omega)
  refine call_sub (G := tys) [] [⟨K, 1, numC true 2 n⟩] [.int .i64 (n : Int)] tysOK mixed Try.func59 (by rfl) (Try.call59) trivial trivial trivial ⟨⟨h0, rfl, by show 0 < 2; decide, by simp⟩, trivial⟩ ⟨.plain rfl, trivial⟩ ?_
  repeat' (refine N.go ?_; first | with_reducible refine N.obl (by decide) ?_ | with_reducible refine N.obl (flat_wi _ _ _) ?_ | with_reducible refine N.obl (flat_lim _ _) ?_ | with_reducible refine N.eq ?_ | with_reducible refine N.obl rfl ?_ | with_reducible refine N.obl ⟨by kernel_rfl, by kernel_rfl⟩ ?_ | with_reducible refine N.forkT ?_ | with_reducible refine N.forkF ?_ | refine N.call (cMade32 n 2 2 _ false false rfl _ _ (by rfl) (isNum2 (by rw [w64 (by omega), w32]) (by rw [w64 (by omega), fd32, w32])) (by omega) (by omega) h2.1) ?_ | refine N.forkNo (by decide) ?_ | refine N.forkYes (by decide) ?_ | refine N.forkYes (by rw [decide_eq_true_eq]; omega) ?_ | refine N.forkNo (by rw [decide_eq_false_iff_not]; omega) ?_ | refine N.obl (.one (.agg ⟨.plain (by rfl), .plain rfl, .slice (by rfl), trivial⟩)) ?_ | refine N.obl ⟨⟨Nat.zero_le _, post_num (by rfl) rfl (isNum2 (by rw [w64 (by omega), w32]) (by rw [w64 (by omega), fd32, w32]))⟩, trivial⟩ ?_ | refine N.obl trivial ?_ | exact N.true | fail_if_success skip)
theorem zeros_num {o : Bool} {m : Nat} : ChunkLe (numC o m 0) ⟨o, m, [(0, m, .agg ⟨segL m (repZ 1 (.int .u32 0))⟩)]⟩ := ⟨id, Nat.le_refl _, fun j hj => by
  have hj : j < m := hj
  rw [seg_cell hj, seg_cell hj]
  unfold repZ lm
  rw [Nat.mod_one, Nat.zero_div]; rfl⟩
abbrev updC (m v i : Nat) (x : Int) : Chunk := ⟨true, m, [(0, m, .agg ⟨segL m (fun j => if j = i then .int .u32 x else .int .u32 ((lm v j : Nat) : Int))⟩)]⟩
theorem writes_word {m v i q : Nat} {x : Int} (e : q = i) (h : i < m) : Writes (numC true m v) q 1 (.int .u32 x) (updC m v i x) := by
  subst e
  refine ⟨rfl, by show q + 1 ≤ m; omega, rfl, fun j hj => ?_⟩
  have hj : j < m := hj
  rw [seg_cell hj, seg_cell hj]
  by_cases h1 : j = q
  · subst h1; rw [if_pos rfl, if_pos (by omega), Nat.sub_self]; rfl
  · rw [if_neg h1, if_neg (by omega)]
theorem writes_word2 {m v u i q : Nat} {x z : Int} (e : q = i + 1) (h : i + 1 < m) (hx : x = ((lm u i : Nat) : Int)) (hz : z = ((lm u (i + 1) : Nat) : Int)) (hlo : ∀ j, j < i → lm u j = lm v j) (hhi : ∀ j, i + 1 < j → lm u j = lm v j) : Writes (updC m v i x) q 1 (.int .u32 z) (numC true m u) := by
  subst e hx hz
  refine ⟨rfl, by show i + 1 + 1 ≤ m; omega, rfl, fun j hj => ?_⟩
  have hj : j < m := hj
  rw [seg_cell hj, seg_cell hj]
  by_cases h1 : j = i + 1
  · subst h1; rw [if_pos (by omega), Nat.sub_self]; rfl
  · rw [if_neg (by omega)]
    by_cases h2 : j = i
    · subst h2; rw [if_pos rfl]
    · rw [if_neg h2]
      rcases Nat.lt_or_ge j i with h3 | h3
      · rw [hlo j h3]
      · rw [hhi j (by omega)]
theorem mul_nl {a y : Nat} (hy : y < 4294967296) : a * y < bw (nl a + 1) := by
  rw [bw_succ]
  exact Nat.lt_of_le_of_lt (Nat.mul_le_mul_left _ (Nat.le_of_lt hy)) (Nat.mul_lt_mul_of_pos_right (nl_self a) (by decide))
set_option maxRecDepth 100000 in
set_option maxHeartbeats 2000000 in
theorem cTimes32 (a y m q i j K : Nat) (o o2 : Chunk) (h : List (Option Chunk)) (hi : h[i]? = some (some o)) (hin : IsNum o m a) (hj : h[j]? = some (some o2)) (hjn : IsNum o2 q y) (hl : nl a ≤ m) (hm : m ≤ 20) (hy : nl y = 1) (hq : 1 ≤ q ∧ q ≤ 20) (h0 : h[K]? = some none) :
    CallOK Try.prog 75 [.slice (some ⟨i, 0, some 0⟩) (nl a) m, .slice (some ⟨j, 0, some 0⟩) (nl y) q] h (.slice (some ⟨K, 0, some 0⟩) (nl (a * y)) (nl a + 1)) [(K, numC true (nl a + 1) (a * y))] [i, j] := by
  have hy1 : y < 4294967296 := by have := nl_self y; rw [hy, bw_one] at this; exact this
  have hy0 : lm y 0 = y := by unfold lm; rw [bw_zero, Nat.div_one]; exact Nat.mod_eq_of_lt hy1
  rw [hy]
  refine call_sub (G := tys) [⟨i, _, numC false m a, ⟨false, 0, []⟩⟩, ⟨j, _, numC false q y, ⟨false, 0, []⟩⟩] [⟨K, 10, numC true (nl a + 1) (a * y)⟩] [.slice (some ⟨0, 0, some 0⟩) (nl a) m, .slice (some ⟨1, 0, some 0⟩) 1 q] tysOK mixed Try.func75 (by rfl) (Try.call75) ⟨hi, hj, trivial⟩ ⟨⟨fun h => (by cases h), Nat.le_of_eq hin.1.symm, num_re hin⟩, ⟨fun h => (by cases h), Nat.le_of_eq hjn.1.symm, num_re hjn⟩, trivial⟩ (by simp [Apart]) ⟨⟨h0, rfl, by show 0 < nl a + 1; omega, by simp⟩, trivial⟩ ⟨.slice rfl, .slice rfl, trivial⟩ ?_
  repeat' (refine N.go ?_; first | with_reducible refine N.obl (by decide) ?_ | with_reducible refine N.obl (flat_wi _ _ _) ?_ | with_reducible refine N.obl (flat_lim _ _) ?_ | with_reducible refine N.eq ?_ | with_reducible refine N.obl rfl ?_ | with_reducible refine N.obl ⟨by kernel_rfl, by kernel_rfl⟩ ?_ | with_reducible refine N.forkT ?_ | with_reducible refine N.forkF ?_ | refine MakeN.mk1 (nl a + 1) (nl a + 1) (by rw [i64n _ (by omega) (by omega)]; rfl) (by rw [i64n _ (by omega) (by omega)]; rfl) (by show 4 * (nl a + 1) ≤ _; omega) (by omega) (Nat.mul_one _).symm ?_ | refine N.forkNo (by decide) ?_ | refine N.forkYes (by decide) ?_ | refine N.forkYes (by rw [decide_eq_true_eq]; omega) ?_ | refine N.forkNo (by rw [decide_eq_false_iff_not]; omega) ?_ | refine N.obl trivial ?_ | exact N.true | fail_if_success skip)
  refine N.go ?_
  refine N.loop (α := Nat) (fun i => i ≤ nl a) (fun i => nl a - i) (fun i => [(19, .int .i64 (i : Int))]) (fun i => [(10, numC true (nl a + 1) (a % bw i * y))]) 0 (Nat.zero_le _) ?_ ?_
  · repeat (refine N.go ?_; first | exact N.true | with_reducible refine N.obl rfl ?_ | with_reducible refine N.obl (ChunkLe.refl _) ?_ | refine N.obl (int_i64 (by rw [IntWalk.i64_in _ (by omega)]; rfl)) ?_ | refine N.obl (by rw [bw_zero, Nat.mod_one, Nat.zero_mul]; exact zeros_num) ?_ |  fail_if_success skip)
  · intro i hi'
    have hi' : i ≤ nl a := hi'
    rcases Nat.lt_or_ge i (nl a) with hlt | hge
    · obtain ⟨m1, m2, m3, m4, m5⟩ := mul_word a y i hy1
      have hS : a % bw i * y < bw (i + 1) := by
        rw [bw_succ]
        exact Nat.lt_of_le_of_lt (Nat.mul_le_mul_left _ (Nat.le_of_lt hy1)) (Nat.mul_lt_mul_of_pos_right (Nat.mod_lt _ (bw_pos i)) (by decide))
      have hx := lm_lt a i
      have hs := lm_lt (a % bw i * y) i
      have ev : IntKind.u64.wrap (0 + IntKind.u64.wrap (IntKind.u64.wrap (IntKind.u64.wrap ((lm a i : Nat) : Int) * IntKind.u64.wrap ((lm y 0 : Nat) : Int)) + IntKind.u64.wrap ((lm (a % bw i * y) i : Nat) : Int))) = ((lm a i * y + lm (a % bw i * y) i : Nat) : Int) := by
        rw [hy0, w64 (n := lm a i) (by omega), w64 (n := y) (by omega), w64 (n := lm (a % bw i * y) i) (by omega), ← Int.natCast_mul, w64 (n := lm a i * y) (by omega), ← Int.natCast_add, w64 m4, Int.zero_add, w64 m4]
      generalize hT : lm a i * y + lm (a % bw i * y) i = T at *
      repeat' (refine N.go ?_; first | with_reducible refine N.obl (by decide) ?_ | with_reducible refine N.obl (flat_wi _ _ _) ?_ | with_reducible refine N.obl (flat_lim _ _) ?_ | with_reducible refine N.eq ?_ | with_reducible refine N.obl rfl ?_ | with_reducible refine N.obl ⟨by kernel_rfl, by kernel_rfl⟩ ?_ | with_reducible refine N.forkT ?_ | with_reducible refine N.forkF ?_ | refine N.roll 2 ?_ | refine N.store _ (writes_word rfl (by omega)) ?_ | refine N.store _ (writes_word2 (u := a % bw (i + 1) * y) rfl (by omega) (by rw [ev, w32, m2]) (by rw [ev, fd32, w32, m3]; omega) m1 (fun j hj => by rw [m5 j hj, lm_big (Nat.lt_of_lt_of_le hS (bw_mono (by omega)))])) ?_ | refine N.idx i 1 (by first | rfl | exact i64n _ (by omega) (by omega) | (rw [i64n _ (by omega) (by omega)]; omega)) (by omega) ?_ | refine N.load _ (reads_num (p := i) (by omega) (by omega)) ?_ | refine N.idx 0 1 rfl (by decide) ?_ | refine N.load _ (reads_num (p := 0) (by omega) (by omega)) ?_ | refine N.idx (i + 1) 1 (by rw [i64n _ (by omega) (by omega)]; omega) (by omega) ?_ | refine N.forkNo (by decide) ?_ | refine N.forkYes (by decide) ?_ | refine N.forkYes (by rw [decide_eq_true_eq]; omega) ?_ | refine N.forkNo (by rw [decide_eq_false_iff_not]; omega) ?_ | refine N.obl trivial ?_ | exact N.true | fail_if_success skip)
      refine N.go ?_
      refine N.next (i + 1) ⟨by show i + 1 ≤ nl a; omega, by omega⟩ ?_
      repeat (refine N.go ?_; first | exact N.true | with_reducible refine N.obl rfl ?_ | with_reducible refine N.obl (ChunkLe.refl _) ?_ | refine N.obl (int_i64 (by rw [IntWalk.i64_in _ (by omega)]; rfl)) ?_ | refine N.obl (inteq (by rw [i64n _ (by omega) (by omega)]; omega)) ?_ |  fail_if_success skip)
    · obtain rfl : i = nl a := by omega
      have he : a % bw (nl a) * y = a * y := by rw [Nat.mod_eq_of_lt (nl_self a)]
      repeat' (refine N.go ?_; first | with_reducible refine N.obl (by decide) ?_ | with_reducible refine N.obl (flat_wi _ _ _) ?_ | with_reducible refine N.obl (flat_lim _ _) ?_ | with_reducible refine N.eq ?_ | with_reducible refine N.obl rfl ?_ | with_reducible refine N.obl ⟨by kernel_rfl, by kernel_rfl⟩ ?_ | with_reducible refine N.forkT ?_ | with_reducible refine N.forkF ?_ | refine N.call (cTrim (a * y) (nl a + 1) (nl a + 1) _ _ _ (by rfl) (by rw [he]; exact isNum _ _ _) (by omega) (by omega) (mul_nl hy1)) ?_ | refine N.obl (re_sl (by rfl) rfl) ?_ | refine N.obl ⟨⟨by show 2 ≤ 10; decide, post_num (by rfl) rfl (by rw [he]; exact isNum _ _ _)⟩, trivial⟩ ?_ | refine N.forkNo (by decide) ?_ | refine N.forkYes (by decide) ?_ | refine N.forkYes (by rw [decide_eq_true_eq]; omega) ?_ | refine N.forkNo (by rw [decide_eq_false_iff_not]; omega) ?_ | refine N.obl trivial ?_ | exact N.true | fail_if_success skip)
end Go.Proofs.Ytioohgocbpdkeaa
