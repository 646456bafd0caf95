/-
  The walks of the document's numbers: made, Of, times, plus, quo.
-/
import Derived.Test.YtkjeebabcdnjkaaRa
set_option linter.unusedVariables false
set_option linter.unusedSimpArgs false
namespace Go.Proofs.Ytkjeebabcdnjkaa
open Go Go.RowKit Sx

theorem re_big {ix : List (Nat × Nat)} {i k l l' c : Nat} {r b : Bool} (h : ixK ix k = some i) (e : b = r) (e2 : l = l') : Re ix (.agg ⟨[.bool r, .bool false, .slice (some ⟨i, 0, some 0⟩) l c]⟩) (.agg ⟨[.bool b, .bool false, .slice (some ⟨k, 0, some 0⟩) l' c]⟩) := by
  subst e e2; exact .one (.agg ⟨.plain rfl, .plain rfl, .slice h, trivial⟩)
set_option maxRecDepth 100000 in
set_option maxHeartbeats 2000000 in
theorem cMade32 (v m l i : Nat) (s r : Bool) (hr : r = (s && decide (0 < v))) (o : Chunk) (h : List (Option Chunk)) (hi : h[i]? = some (some o)) (hin : IsNum o m v) (hl : l ≤ m) (hm : m ≤ 31) (hv : v < bw l) :
    CallOK Try.prog 43 [.bool s, .slice (some ⟨i, 0, some 0⟩) l m] h (.agg #[.bool r, .bool false, .slice (some ⟨i, 0, some 0⟩) (nl v) m]) [] [i] := by
  have hn : nl v ≤ l := nl_le.2 hv
  have hb := bitn_le v
  refine call_sub (G := tys) [⟨i, _, numC false m v, ⟨false, 0, []⟩⟩] [] [.bool s, .slice (some ⟨0, 0, some 0⟩) l m] tysOK mixed Try.func43 (by rfl) (Try.call43) ⟨hi, trivial⟩ ⟨⟨fun h => (by cases h), Nat.le_of_eq hin.1.symm, num_re hin⟩, trivial⟩ (by simp [Apart]) trivial ⟨.plain rfl, .slice rfl, trivial⟩ ?_
  cases s with
  | false =>
    rw [Bool.false_and] at hr; subst hr
    repeat' (refine N.go ?_; first | with_reducible refine N.obl (by decide) ?_ | with_reducible refine N.obl (flat_wi _ _ _) ?_ | with_reducible refine N.obl (flat_lim _ _) ?_ | with_reducible refine N.eq ?_ | with_reducible refine N.obl rfl ?_ | with_reducible refine N.obl ⟨by kernel_rfl, by kernel_rfl⟩ ?_ | with_reducible refine N.forkT ?_ | with_reducible refine N.forkF ?_ | refine N.call (cTrim v m l _ _ _ (by rfl) (isNum _ _ _) hl (by omega) hv) ?_ | refine N.call (cBits32 v m _ _ _ (by rfl) (isNum _ _ _) (by omega) (by omega)) ?_ | refine N.forkNo (by decide) ?_ | refine N.forkYes (by decide) ?_ | refine N.forkYes (by rw [decide_eq_true_eq]; omega) ?_ | refine N.forkNo (by rw [decide_eq_false_iff_not]; omega) ?_ | refine N.obl (.one (.agg ⟨.plain (by rfl), .plain rfl, .slice (by rfl), trivial⟩)) ?_ | refine N.obl trivial ?_ | exact N.true | fail_if_success skip)
  | true =>
    rw [Bool.true_and] at hr
    rcases Nat.eq_zero_or_pos v with hz | hp
    · have hr : r = false := by rw [hr, hz]; rfl
      subst hr
      have h0 : nl v = 0 := nl_zero_iff.2 hz
      repeat' (refine N.go ?_; first | with_reducible refine N.obl (by decide) ?_ | with_reducible refine N.obl (flat_wi _ _ _) ?_ | with_reducible refine N.obl (flat_lim _ _) ?_ | with_reducible refine N.eq ?_ | with_reducible refine N.obl rfl ?_ | with_reducible refine N.obl ⟨by kernel_rfl, by kernel_rfl⟩ ?_ | with_reducible refine N.forkT ?_ | with_reducible refine N.forkF ?_ | refine N.call (cTrim v m l _ _ _ (by rfl) (isNum _ _ _) hl (by omega) hv) ?_ | refine N.call (cBits32 v m _ _ _ (by rfl) (isNum _ _ _) (by omega) (by omega)) ?_ | refine N.forkNo (by decide) ?_ | refine N.forkYes (by decide) ?_ | refine N.forkYes (by rw [decide_eq_true_eq]; omega) ?_ | refine N.forkNo (by rw [decide_eq_false_iff_not]; omega) ?_ | refine N.obl (re_big (by rfl) (by rw [decide_eq_false_iff_not]; omega) rfl) ?_ | refine N.obl trivial ?_ | exact N.true | fail_if_success skip)
    · rw [decide_eq_true hp] at hr
      subst hr
      have h0 : nl v ≠ 0 := fun e => by have := nl_zero_iff.1 e; omega
      repeat' (refine N.go ?_; first | with_reducible refine N.obl (by decide) ?_ | with_reducible refine N.obl (flat_wi _ _ _) ?_ | with_reducible refine N.obl (flat_lim _ _) ?_ | with_reducible refine N.eq ?_ | with_reducible refine N.obl rfl ?_ | with_reducible refine N.obl ⟨by kernel_rfl, by kernel_rfl⟩ ?_ | with_reducible refine N.forkT ?_ | with_reducible refine N.forkF ?_ | refine N.call (cTrim v m l _ _ _ (by rfl) (isNum _ _ _) hl (by omega) hv) ?_ | refine N.call (cBits32 v m _ _ _ (by rfl) (isNum _ _ _) (by omega) (by omega)) ?_ | refine N.forkNo (by decide) ?_ | refine N.forkYes (by decide) ?_ | refine N.forkYes (by rw [decide_eq_true_eq]; omega) ?_ | refine N.forkNo (by rw [decide_eq_false_iff_not]; omega) ?_ | refine N.obl (re_big (by rfl) (by rw [decide_eq_true_eq]; omega) rfl) ?_ | refine N.obl trivial ?_ | exact N.true | fail_if_success skip)
theorem trimnil_x (w : World) : Calls Try.prog 52 #[.slice none 0 0] w fun e w' => e = .returned (.slice none 0 0) ∧ Below w.heap.size w w' := by
  refine calls_pure (G := tys) w tysOK mixed Try.func52 (by rfl) (by rfl) (by rfl) ?_
  repeat' (refine N.go ?_; first | with_reducible refine N.obl (by decide) ?_ | with_reducible refine N.obl (flat_wi _ _ _) ?_ | with_reducible refine N.obl (flat_lim _ _) ?_ | with_reducible refine N.eq ?_ | with_reducible refine N.obl rfl ?_ | with_reducible refine N.obl ⟨by kernel_rfl, by kernel_rfl⟩ ?_ | with_reducible refine N.forkT ?_ | with_reducible refine N.forkF ?_ | refine N.roll 1 ?_ | refine N.forkNo (by decide) ?_ | refine N.forkYes (by decide) ?_ | fail_if_success skip)
  all_goals rfl
theorem bitsnil_x (w : World) : Calls Try.prog 38 #[.slice none 0 0] w fun e w' => e = .returned (.int .i64 0) ∧ Below w.heap.size w w' := by
  refine calls_pure (G := tys) w tysOK mixed Try.func38 (by rfl) (by rfl) (by rfl) ?_
  repeat' (refine N.go ?_; first | with_reducible refine N.obl (by decide) ?_ | with_reducible refine N.obl (flat_wi _ _ _) ?_ | with_reducible refine N.obl (flat_lim _ _) ?_ | with_reducible refine N.eq ?_ | with_reducible refine N.obl rfl ?_ | with_reducible refine N.obl ⟨by kernel_rfl, by kernel_rfl⟩ ?_ | with_reducible refine N.forkT ?_ | with_reducible refine N.forkF ?_ | refine N.roll 1 ?_ | refine N.forkNo (by decide) ?_ | refine N.forkYes (by decide) ?_ | fail_if_success skip)
  all_goals rfl
set_option maxRecDepth 100000 in
theorem madenil_x (s : Bool) (w : World) : Calls Try.prog 43 #[.bool s, .slice none 0 0] w fun e w' => e = .returned (.agg #[.bool false, .bool false, .slice none 0 0]) ∧ Below w.heap.size w w' := by
  cases s with
  | false =>
    refine calls_pure (G := tys) w tysOK mixed Try.func43 (by rfl) (by rfl) (by rfl) ?_
    repeat' (refine N.go ?_; first | with_reducible refine N.obl (by decide) ?_ | with_reducible refine N.obl (flat_wi _ _ _) ?_ | with_reducible refine N.obl (flat_lim _ _) ?_ | with_reducible refine N.eq ?_ | with_reducible refine N.obl rfl ?_ | with_reducible refine N.obl ⟨by kernel_rfl, by kernel_rfl⟩ ?_ | with_reducible refine N.forkT ?_ | with_reducible refine N.forkF ?_ | refine N.call (call_pure (by rfl) (by rfl) (Try.call52 _) (fun w => trimnil_x w)) ?_ | refine N.call (call_pure (by rfl) (by rfl) (Try.call38 _) (fun w => bitsnil_x w)) ?_ | refine N.forkNo (by decide) ?_ | refine N.forkYes (by decide) ?_ | fail_if_success skip)
    all_goals rfl
  | true =>
    refine calls_pure (G := tys) w tysOK mixed Try.func43 (by rfl) (by rfl) (by rfl) ?_
    repeat' (refine N.go ?_; first | with_reducible refine N.obl (by decide) ?_ | with_reducible refine N.obl (flat_wi _ _ _) ?_ | with_reducible refine N.obl (flat_lim _ _) ?_ | with_reducible refine N.eq ?_ | with_reducible refine N.obl rfl ?_ | with_reducible refine N.obl ⟨by kernel_rfl, by kernel_rfl⟩ ?_ | with_reducible refine N.forkT ?_ | with_reducible refine N.forkF ?_ | refine N.call (call_pure (by rfl) (by rfl) (Try.call52 _) (fun w => trimnil_x w)) ?_ | refine N.call (call_pure (by rfl) (by rfl) (Try.call38 _) (fun w => bitsnil_x w)) ?_ | refine N.forkNo (by decide) ?_ | refine N.forkYes (by decide) ?_ | fail_if_success skip)
    all_goals rfl
theorem cMadeNil (s : Bool) (h : List (Option Chunk)) : CallOK Try.prog 43 [.bool s, .slice none 0 0] h (.agg #[.bool false, .bool false, .slice none 0 0]) [] [] := call_pure rfl rfl (Try.call43 _) (madenil_x s)
theorem two_words {n : Nat} (h : n < 18446744073709551616) : n < bw 2 ∧ nl n ≤ 2 := by
  have : bw 2 = 18446744073709551616 := by decide
  exact ⟨by omega, nl_le.2 (by omega)⟩
theorem isNum2 {o : Bool} {n : Nat} {x y : Int} (hx : x = ((n % 4294967296 : Nat) : Int)) (hy : y = ((n / 4294967296 % 4294967296 : Nat) : Int)) : IsNum ⟨o, 2, [(0, 2, .agg ⟨[.int .u32 x, .int .u32 y]⟩)]⟩ 2 n := ⟨rfl, fun j hj => by
  subst hx hy
  match j, hj with
  | 0, _ => unfold lm; rw [bw_zero, Nat.div_one]; rfl
  | 1, _ => rfl⟩
theorem isNum1 {o : Bool} {n : Nat} {x : Int} (hx : x = ((n % 4294967296 : Nat) : Int)) : IsNum ⟨o, 1, [(0, 1, .agg ⟨[.int .u32 x]⟩)]⟩ 1 n := ⟨rfl, fun j hj => by
  subst hx
  match j, hj with
  | 0, _ => unfold lm; rw [bw_zero, Nat.div_one]; rfl⟩
theorem post_num {ix : List (Nat × Nat)} {h : List (Option Chunk)} {k m v : Nat} {c : Chunk} (hh : h[k]? = some (some c)) (ho : c.own = true) (hc : IsNum c m v) : PostC ix h k (numC true m v) :=
  ⟨c, hh, fun _ => ho, Nat.le_of_eq hc.1.symm, fun j hj => by
    have hj : j < m := hj
    rw [seg_cell hj, hc.2 j hj]; exact .plain rfl⟩
theorem w32 (n : Nat) : IntKind.u32.wrap (n : Int) = ((n % 4294967296 : Nat) : Int) := by rw [IntKind.wrap_u32]; omega
theorem w64 {n : Nat} (h : n < 18446744073709551616) : IntKind.u64.wrap (n : Int) = (n : Int) := by rw [IntKind.wrap_u64]; omega
set_option maxRecDepth 100000 in
set_option maxHeartbeats 2000000 in
theorem cROf (n K : Nat) (h : List (Option Chunk)) (h0 : h[K]? = some none) (hn : n < 9223372036854775808) :
    CallOK Try.prog 33 [.int .i64 (n : Int)] h (.agg #[.bool false, .bool false, .slice (some ⟨K, 0, some 0⟩) (nl n) 2]) [(K, numC true 2 n)] [] := by
  have h2 := two_words (n := n) (by omega)
  refine call_sub (G := tys) [] [⟨K, 1, numC true 2 n⟩] [.int .i64 (n : Int)] tysOK mixed Try.func33 (by rfl) (Try.call33) trivial trivial trivial ⟨⟨h0, rfl, by show 0 < 2; decide, by simp⟩, trivial⟩ ⟨.plain rfl, trivial⟩ ?_
  repeat' (refine N.go ?_; first | with_reducible refine N.obl (by decide) ?_ | with_reducible refine N.obl (flat_wi _ _ _) ?_ | with_reducible refine N.obl (flat_lim _ _) ?_ | with_reducible refine N.eq ?_ | with_reducible refine N.obl rfl ?_ | with_reducible refine N.obl ⟨by kernel_rfl, by kernel_rfl⟩ ?_ | with_reducible refine N.forkT ?_ | with_reducible refine N.forkF ?_ | refine N.call (cMade32 n 2 2 _ false false rfl _ _ (by rfl) (isNum2 (by rw [w64 (by omega), w32]) (by rw [w64 (by omega), fd32, w32])) (by omega) (by omega) h2.1) ?_ | refine N.forkNo (by decide) ?_ | refine N.forkYes (by decide) ?_ | refine N.forkYes (by rw [decide_eq_true_eq]; omega) ?_ | refine N.forkNo (by rw [decide_eq_false_iff_not]; omega) ?_ | refine N.obl (.one (.agg ⟨.plain (by rfl), .plain rfl, .slice (by rfl), trivial⟩)) ?_ | refine N.obl ⟨⟨Nat.zero_le _, post_num (by rfl) rfl (isNum2 (by rw [w64 (by omega), w32]) (by rw [w64 (by omega), fd32, w32]))⟩, trivial⟩ ?_ | refine N.obl trivial ?_ | exact N.true | fail_if_success skip)
theorem zeros_num {o : Bool} {m : Nat} : ChunkLe (numC o m 0) ⟨o, m, [(0, m, .agg ⟨segL m (repZ 1 (.int .u32 0))⟩)]⟩ := ⟨id, Nat.le_refl _, fun j hj => by
  have hj : j < m := hj
  rw [seg_cell hj, seg_cell hj]
  unfold repZ lm
  rw [Nat.mod_one, Nat.zero_div]; rfl⟩
end Go.Proofs.Ytkjeebabcdnjkaa
