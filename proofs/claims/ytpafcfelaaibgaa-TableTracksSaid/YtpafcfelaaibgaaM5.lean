import Derived.KernelRfl
import Derived.Test.YtpafcfelaaibgaaM4

/-
  The walk of wide.Mul.
-/
set_option linter.unusedVariables false
set_option linter.unusedSimpArgs false
namespace Go.Proofs.Ytpafcfelaaibgaa
open Go Go.RowKit Sx

theorem mul_low (ab t c : Nat) : (((((ab % 18446744073709551616 : Nat) : Int) + (t : Int) + 0) % 18446744073709551616) + (c : Int) + 0) % 18446744073709551616 = (((ab + t + c) % 18446744073709551616 : Nat) : Int) := by omega
theorem mul_high (ab t c : Nat) (h : (ab + t + c) / 18446744073709551616 < 18446744073709551616) : IntKind.u64.wrap (IntKind.u64.wrap (((ab / 18446744073709551616 : Nat) : Int) + (((ab % 18446744073709551616 : Nat) : Int) + (t : Int) + 0) / 18446744073709551616) + ((((ab % 18446744073709551616 : Nat) : Int) + (t : Int) + 0) % 18446744073709551616 + (c : Int) + 0) / 18446744073709551616) = (((ab + t + c) / 18446744073709551616 : Nat) : Int) := by
  rw [IntKind.wrap_u64, IntKind.wrap_u64]; omega
theorem int_u64 {a b : Int} (h : a = b) : Value.int .u64 a = .int .u64 b := by rw [h]
theorem int_i64 {a b : Int} (h : a = b) : Value.int .i64 a = .int .i64 b := by rw [h]

set_option maxRecDepth 100000 in
set_option maxHeartbeats 1000000 in
theorem mul_x (n1 n2 : Bool) (v u : Nat) (hv : v < Bs ^ 16) (hu : u < Bs ^ 16) (hvu : v * u < Top) (w : World) :
    Calls Try.prog 63 #[.agg ⟨wiL n1 false v⟩, .agg ⟨wiL n2 false u⟩] w fun e w' => e = .returned (.agg ⟨wiL ((n1 != n2) && decide (v * u ≠ 0)) false (v * u)⟩) ∧ Below w.heap.size w w' := by
  have hn1 := nd_le v
  have hn2 := nd_le u
  have hvm : v < Bs ^ nd v := ndTo_lt v 16 hv
  have hun : u < Bs ^ nd u := ndTo_lt u 16 hu
  refine calls_pure (G := tys) w tysOK mixed Try.func63 (by rfl) (by simp [plain_wi]) (by exact plain_wi _ _ _) ?_
  repeat (refine N.go ?_; first | with_reducible refine N.obl (flat_wi _ _ _) ?_ | with_reducible refine N.obl (flat_lim _ _) ?_ | with_reducible refine N.eq ?_ | with_reducible refine N.obl rfl ?_ | with_reducible refine N.obl ⟨by kernel_rfl, by kernel_rfl⟩ ?_ | with_reducible refine N.alt ?_ | with_reducible refine N.forkT ?_ | with_reducible refine N.forkF ?_ | refine N.call (cParts _ _ _ _ (has_wi (by rfl))) ?_)
  refine N.go ?_
  refine N.loop (α := Nat) (fun i => i ≤ nd v) (fun i => nd v - i) (fun i => [(29, .int .i64 (i : Int))]) (fun i => [(3, ⟨true, 32, [(0, 32, .agg ⟨limL 32 (dg (mT v u i))⟩)]⟩)]) 0 (Nat.zero_le _) ?_ ?_
  · repeat (refine N.go ?_; first | exact N.true | with_reducible refine N.obl rfl ?_ | with_reducible refine N.obl (ChunkLe.refl _) ?_ | refine N.obl (ChunkLe.of (by rw [mT_zero, limL_same (g := fun _ => 0) (fun j _ => dg_zero j)]; rfl)) ?_)
  · intro i hi
    by_cases hlt : i < nd v
    · refine N.go ?_
      refine N.forkYes (by simpa using hlt) ?_
      refine N.go ?_
      refine N.loop (α := Nat) (fun j => j ≤ nd u) (fun j => nd u - j) (fun j => [(33, .int .i64 (j : Int)), (9, .int .u64 ((mC v u i j : Nat) : Int))]) (fun j => [(3, ⟨true, 32, [(0, 32, .agg ⟨limL 32 (mA v u i j)⟩)]⟩)]) 0 (Nat.zero_le _) ?_ ?_
      · repeat (refine N.go ?_; first | exact N.true | with_reducible refine N.obl rfl ?_ | with_reducible refine N.obl (ChunkLe.refl _) ?_ | refine N.obl (ChunkLe.of (by rw [limL_same (f := mA v u i 0) (g := dg (mT v u i)) (fun k _ => mA_zero v u i k)])) ?_ | refine N.obl (by rw [mC_zero]; rfl) ?_)
      · intro j hj
        have da := dg_lt v i
        have db := dg_lt u j
        have dt := dg_lt (mT v u i) (i + j)
        have dc := mC_lt v u i j
        by_cases hlt2 : j < nd u
        · have hab : dg v i * dg u j ≤ 18446744073709551615 * 18446744073709551615 := Nat.mul_le_mul (by omega) (by omega)
          refine N.go ?_
          refine N.forkYes (by simpa using hlt2) ?_
          refine N.go ?_
          refine N.alt ?_
          refine N.go ?_
          refine N.idx i 1 rfl (by omega) ?_
          refine N.go ?_
          refine N.load _ (reads_wi (p := i) (by omega) rfl) ?_
          refine N.go ?_
          refine N.idx j 1 rfl (by omega) ?_
          refine N.go ?_
          refine N.load _ (reads_wi (p := j) (by omega) rfl) ?_
          refine N.go ?_
          refine N.call (cMul64 (dg v i) (dg u j) _ da db) ?_
          refine N.go ?_
          refine N.obl ⟨by kernel_rfl, by kernel_rfl⟩ ?_
          refine N.go ?_
          refine N.idx (i + j) 1 (by rw [IntWalk.i64_in _ (by omega)]; omega) (by omega) ?_
          refine N.go ?_
          refine N.load _ (reads_lim (p := i + j) (by omega) rfl) ?_
          rw [mA_old]
          refine N.go ?_
          refine N.call (cAdd64 _ _ _ _ (by omega) (by omega) (by omega) (by omega) (by omega) (by omega)) ?_
          refine N.go ?_
          refine N.call (cAdd64 _ _ _ _ (by omega) (by omega) (by omega) (by omega) (by omega) (by omega)) ?_
          refine N.go ?_
          refine N.idx (i + j) 1 (by rw [IntWalk.i64_in _ (by omega)]; omega) (by omega) ?_
          refine N.go ?_
          refine N.store ⟨true, 32, [(0, 32, .agg ⟨limL 32 (mA v u i (j + 1))⟩)]⟩ (writes_lim (p := i + j) (by omega) rfl (by rw [mA_at]; exact mul_low _ _ _) (fun k _ hk => mA_step v u i j k hk)) ?_
          refine N.go ?_
          refine N.next (j + 1) ⟨by omega, by omega⟩ ?_
          repeat (refine N.go ?_; first | exact N.true | with_reducible refine N.obl rfl ?_ | with_reducible refine N.obl (ChunkLe.refl _) ?_ | refine N.obl (int_i64 (by rw [IntWalk.i64_in _ (by omega)]; rfl)) ?_ | refine N.obl (int_u64 (by rw [mC_step]; exact mul_high _ _ _ (total_lt da db dt dc))) ?_)
        · refine N.go ?_
          refine N.forkNo (by simpa using hlt2) ?_
          obtain rfl : j = nd u := by omega
          refine N.go ?_
          refine N.idx (i + nd u) 1 (by rw [IntWalk.i64_in _ (by omega)]; omega) (by omega) ?_
          refine N.go ?_
          refine N.store ⟨true, 32, [(0, 32, .agg ⟨limL 32 (dg (mT v u (i + 1)))⟩)]⟩ (writes_lim (p := i + nd u) (by omega) rfl (by rw [mul_end v u i (nd u) _ hun, if_neg (by omega), if_pos rfl]) (fun k _ hk => by
            rw [mul_end v u i (nd u) k hun]
            by_cases h : k < i + nd u
            · rw [if_pos h]
            · rw [if_neg h, if_neg hk, mA_high _ _ _ _ _ (by omega)])) ?_
          refine N.go ?_
          refine N.next (i + 1) ⟨by omega, by omega⟩ ?_
          repeat (refine N.go ?_; first | exact N.true | with_reducible refine N.obl rfl ?_ | with_reducible refine N.obl (ChunkLe.refl _) ?_ | refine N.obl (int_i64 (by rw [IntWalk.i64_in _ (by omega)]; rfl)) ?_)
    · have hm : i = nd v := by omega
      subst hm
      refine N.go ?_
      refine N.forkNo (by simp) ?_
      refine N.go ?_
      rw [mT_end v u _ hvm]
      refine N.mk ⟨0, 16, 0, rfl, rfl, ?_⟩
      refine N.go ?_
      refine N.mk ⟨0, 16, 0, ⟨rfl, by decide⟩, rfl, ?_⟩
      refine N.go ?_
      refine N.mk ⟨16, .agg ⟨limL 16 (dg (v * u))⟩, ⟨true, 16, [(0, 16, .agg ⟨limL 16 (dg (v * u))⟩)]⟩, rfl, ?_, flat_lim _ _, writes_all, ?_⟩
      · have := reads_lims (o := true) (n := 32) (m := 16) (p := 0) (f := dg (v * u)) (by omega)
        simp only [Nat.zero_add] at this
        exact this
      refine N.go ?_
      refine N.obl ⟨by kernel_rfl, by kernel_rfl⟩ ?_
      refine N.go ?_
      refine N.mk ⟨16, 32, 1, rfl, ⟨rfl, by decide⟩, ?_⟩
      refine N.go ?_
      refine N.loop (α := Nat) (fun j => j ≤ 16) (fun j => 16 - j) (fun j => [(86, .int .i64 (j : Int))]) (fun _ => []) 0 (by omega) ?_ ?_
      · repeat (refine N.go ?_; first | exact N.true | with_reducible refine N.obl rfl ?_ | with_reducible refine N.obl (ChunkLe.refl _) ?_ )
      · intro j hj
        by_cases hlt3 : j < 16
        · refine N.go ?_
          refine N.forkYes (by simp; omega) ?_
          refine N.go ?_
          refine N.idx j 1 rfl hlt3 ?_
          refine N.go ?_
          refine N.load _ (reads_lim (p := 16 + j) (by omega) rfl) ?_
          refine N.go ?_
          have hz : dg (v * u) (16 + j) = 0 := dg_big _ _ (Nat.lt_of_lt_of_le (Nat.lt_trans hvu top_lt) (Nat.pow_le_pow_right bs_pos (by omega)))
          rw [hz]
          refine N.forkNo rfl ?_
          refine N.go ?_
          refine N.next (j + 1) ⟨by omega, by omega⟩ ?_
          repeat (refine N.go ?_; first | exact N.true | with_reducible refine N.obl rfl ?_ | with_reducible refine N.obl (ChunkLe.refl _) ?_ | refine N.obl (int_i64 (by rw [IntWalk.i64_in _ (by omega)]; rfl)) ?_)
        · refine N.go ?_
          refine N.forkNo (by simp; omega) ?_
          repeat (refine N.go ?_; first | with_reducible refine N.obl (flat_wi _ _ _) ?_ | with_reducible refine N.obl (flat_lim _ _) ?_ | with_reducible refine N.eq ?_ | with_reducible refine N.obl rfl ?_ | with_reducible refine N.obl ⟨by kernel_rfl, by kernel_rfl⟩ ?_ | with_reducible refine N.alt ?_ | with_reducible refine N.forkT ?_ | with_reducible refine N.forkF ?_ | refine N.call (cMade _ _ _ hvu) ?_)
          rfl
end Go.Proofs.Ytpafcfelaaibgaa


/-
  The walks of wide.Div by one digit, of Neg, Int64, narrow, above, MulDiv, MulDivUp.
-/
set_option linter.unusedVariables false
set_option linter.unusedSimpArgs false
namespace Go.Proofs.Ytpafcfelaaibgaa
open Go Go.RowKit Sx

/-- A whole number as a wide one. -/
abbrev wz (z : Int) : Value := .agg ⟨wiL (decide (z < 0)) false z.natAbs⟩
theorem plain_wz (z : Int) : plain2 (wz z) = true := plain_wi _ _ _
theorem plain3_wz (z : Int) : plain3 (wz z) = true := plain_wi _ _ _
theorem cNegBool (a b : Int) : ((decide (a < 0) != decide (b < 0)) && decide (a.natAbs * b.natAbs ≠ 0)) = decide (a * b < 0) := by
  by_cases h0 : a = 0
  · subst h0; simp
  by_cases h1 : b = 0
  · subst h1; simp
  have hne : a.natAbs * b.natAbs ≠ 0 := Nat.mul_ne_zero (by omega) (by omega)
  rw [decide_eq_true hne, Bool.and_true]
  rcases Int.lt_or_gt_of_ne h0 with ha | ha <;> rcases Int.lt_or_gt_of_ne h1 with hb | hb
  · have := Int.mul_pos_of_neg_of_neg ha hb
    rw [decide_eq_true ha, decide_eq_true hb, decide_eq_false (by omega)]; rfl
  · have := Int.mul_neg_of_neg_of_pos ha hb
    rw [decide_eq_true ha, decide_eq_false (by omega : ¬ b < 0), decide_eq_true this]; rfl
  · have := Int.mul_neg_of_pos_of_neg ha hb
    rw [decide_eq_false (by omega : ¬ a < 0), decide_eq_true hb, decide_eq_true this]; rfl
  · have := Int.mul_pos ha hb
    rw [decide_eq_false (by omega : ¬ a < 0), decide_eq_false (by omega : ¬ b < 0), decide_eq_false (by omega)]; rfl
theorem cMulz (a b : Int) (h : List (Option Chunk)) (ha : a.natAbs < Bs ^ 16) (hb : b.natAbs < Bs ^ 16) (hab : (a * b).natAbs < Top) : CallOK Try.prog 63 [wz a, wz b] h (wz (a * b)) [] [] :=
  call_pure (by simp [plain_wz]) (plain3_wz _) (Try.call63 _) fun w => by
    have := mul_x (decide (a < 0)) (decide (b < 0)) a.natAbs b.natAbs ha hb (by rwa [← Int.natAbs_mul]) w
    rw [cNegBool, ← Int.natAbs_mul] at this
    exact this
theorem cOfz (n : Int) (h : List (Option Chunk)) (h0 : -9223372036854775808 ≤ n) (h1 : n < 9223372036854775808) : CallOK Try.prog 55 [.int .i64 n] h (wz n) [] [] := cOf n h h0 h1

theorem has_lim {h : List (Option Chunk)} {i v : Nat} {o : Bool} (hi : h[i]? = some (some ⟨o, 16, [(0, 16, .agg ⟨limL 16 (dg v)⟩)]⟩)) : Has h i 0 v :=
  ⟨_, hi, Nat.le_refl _, fun j hj => by
    show cellOf _ _ = _
    rw [cellOf_cons, if_pos (by omega)]
    simp only [cellIn]
    rw [show 0 + j - 0 = j from by omega]
    exact limL_get hj⟩
theorem lim_one1 : limL 16 (dg 1) = [.int .u64 1, .int .u64 0, .int .u64 0, .int .u64 0, .int .u64 0, .int .u64 0, .int .u64 0, .int .u64 0, .int .u64 0, .int .u64 0, .int .u64 0, .int .u64 0, .int .u64 0, .int .u64 0, .int .u64 0, .int .u64 0] := by
  rw [limL_same (g := fun j => if j = 0 then 1 else 0) (fun j _ => dg_small 1 (by decide) j)]; rfl
theorem has_one {h : List (Option Chunk)} {i : Nat} {o : Bool} (hi : h[i]? = some (some ⟨o, 16, [(0, 16, .agg ⟨[.int .u64 1, .int .u64 0, .int .u64 0, .int .u64 0, .int .u64 0, .int .u64 0, .int .u64 0, .int .u64 0, .int .u64 0, .int .u64 0, .int .u64 0, .int .u64 0, .int .u64 0, .int .u64 0, .int .u64 0, .int .u64 0]⟩)]⟩)) : Has h i 0 1 := by
  rw [← lim_one1] at hi; exact has_lim hi
theorem cAdd (i f v j g u : Nat) (h : List (Option Chunk)) (h1 : Has h i f v) (h2 : Has h j g u) : CallOK Try.prog 95 [.pointer (some ⟨i, f, some 0⟩), .pointer (some ⟨j, g, some 0⟩)] h (.tuple #[.agg ⟨limL 16 (dg (v + u))⟩, .int .u64 (cry v u 16)]) [] [i, j] :=
  call_heap [i, j] (by simp [plain3, plain_lim]; rfl) (Try.call95) fun ρ w hc => add_any (ρ i).1 ((ρ i).2 + f) v (ρ j).1 ((ρ j).2 + g) u w (h1.digs (by simp) hc) (h2.digs (by simp) hc)
theorem cBits (i f v : Nat) (h : List (Option Chunk)) (h1 : Has h i f v) : CallOK Try.prog 98 [.pointer (some ⟨i, f, some 0⟩)] h (.int .i64 (bl v)) [] [i] :=
  call_heap [i] rfl (Try.call98) fun ρ w hc => (bits_any (ρ i).1 ((ρ i).2 + f) v w (h1.digs (by simp) hc)).mono (by rintro e w' ⟨he, rfl⟩; exact ⟨he, Below.refl _ _⟩)
theorem guard_size : Try.prog.eqGuardType Try.prog.depth 98 = false := by kernel_rfl
theorem eq_size0 (op : BinOp) (x y : Operand) (u : Nat) (hu : u < Bs ^ 16) (neg : Bool) (hop : op = if neg then .neq else .eql) : BinIs Try.prog op 98 x y (.agg ⟨limL 16 (dg u)⟩) (.agg #[.int .u64 0, .int .u64 0, .int .u64 0, .int .u64 0, .int .u64 0, .int .u64 0, .int .u64 0, .int .u64 0, .int .u64 0, .int .u64 0, .int .u64 0, .int .u64 0, .int .u64 0, .int .u64 0, .int .u64 0, .int .u64 0]) (.bool (if neg then !decide (u = 0) else decide (u = 0))) := by
  have he := equal_zero u hu
  refine ⟨plain_lim _ _, rfl, by cases neg <;> rfl, fun w => ?_⟩
  have hg : ∀ op, (eqGuard op 98 x y (.agg ⟨limL 16 (dg u)⟩) (.agg #[.int .u64 0, .int .u64 0, .int .u64 0, .int .u64 0, .int .u64 0, .int .u64 0, .int .u64 0, .int .u64 0, .int .u64 0, .int .u64 0, .int .u64 0, .int .u64 0, .int .u64 0, .int .u64 0, .int .u64 0, .int .u64 0])).run Try.prog w = .ok () w := fun op => by
    cases op <;> simp [eqGuard, Sem.run_bind, run_program, guard_size]
  subst hop
  cases neg
  · simp only [Sem.run_bind, hg, Result.andThen_ok, if_false, Bool.false_eq_true]
    show (do pure (.bool (← Op.equal 98 (.agg ⟨limL 16 (dg u)⟩) (.agg #[.int .u64 0, .int .u64 0, .int .u64 0, .int .u64 0, .int .u64 0, .int .u64 0, .int .u64 0, .int .u64 0, .int .u64 0, .int .u64 0, .int .u64 0, .int .u64 0, .int .u64 0, .int .u64 0, .int .u64 0, .int .u64 0]))) : Sem Value).run Try.prog w = _
    simp only [Sem.run_bind]
    rw [show (Op.equal 98 (.agg ⟨limL 16 (dg u)⟩) (.agg #[.int .u64 0, .int .u64 0, .int .u64 0, .int .u64 0, .int .u64 0, .int .u64 0, .int .u64 0, .int .u64 0, .int .u64 0, .int .u64 0, .int .u64 0, .int .u64 0, .int .u64 0, .int .u64 0, .int .u64 0, .int .u64 0])).run Try.prog w = .ok (decide (u = 0)) w from he w]
    rfl
  · simp only [Sem.run_bind, hg, Result.andThen_ok, if_true]
    show (do pure (.bool (!(← Op.equal 98 (.agg ⟨limL 16 (dg u)⟩) (.agg #[.int .u64 0, .int .u64 0, .int .u64 0, .int .u64 0, .int .u64 0, .int .u64 0, .int .u64 0, .int .u64 0, .int .u64 0, .int .u64 0, .int .u64 0, .int .u64 0, .int .u64 0, .int .u64 0, .int .u64 0, .int .u64 0])))) : Sem Value).run Try.prog w = _
    simp only [Sem.run_bind]
    rw [show (Op.equal 98 (.agg ⟨limL 16 (dg u)⟩) (.agg #[.int .u64 0, .int .u64 0, .int .u64 0, .int .u64 0, .int .u64 0, .int .u64 0, .int .u64 0, .int .u64 0, .int .u64 0, .int .u64 0, .int .u64 0, .int .u64 0, .int .u64 0, .int .u64 0, .int .u64 0, .int .u64 0])).run Try.prog w = .ok (decide (u = 0)) w from he w]
    rfl
end Go.Proofs.Ytpafcfelaaibgaa


/-
  The walks of wide.Div by one digit, of Neg, Int64, narrow, above, MulDiv, MulDivUp (second part).
-/
set_option linter.unusedVariables false
set_option linter.unusedSimpArgs false
namespace Go.Proofs.Ytpafcfelaaibgaa
open Go Go.RowKit Sx

theorem bs16 {n : Nat} (h : n < 18446744073709551616) : n < Bs ^ 16 := Nat.lt_of_lt_of_le h (Nat.le_self_pow (by decide) Bs)
set_option maxRecDepth 100000 in
theorem neg_x (z : Int) (hz : z.natAbs < Top) (w : World) : Calls Try.prog 81 #[wz z] w fun e w' => e = .returned (wz (-z)) ∧ Below w.heap.size w w' := by
  refine calls_pure (G := tys) w tysOK mixed Try.func81 (by rfl) (by first | rfl | (simp only [List.all_cons, List.all_nil, plain_wz, plain_lim, plain_wi]; rfl)) (by first | exact plain3_wz _ | exact plain3_wi _ _ _ | rfl | (simp only [plain3, List.all_cons, List.all_nil, plain_wz, plain_lim, plain_wi]; rfl)) ?_
  repeat' (refine N.go ?_; first | with_reducible refine N.obl (flat_wi _ _ _) ?_ | with_reducible refine N.obl (flat_lim _ _) ?_ | with_reducible refine N.eq ?_ | with_reducible refine N.obl rfl ?_ | with_reducible refine N.obl ⟨by kernel_rfl, by kernel_rfl⟩ ?_ | with_reducible refine N.alt ?_ | with_reducible refine N.forkT ?_ | with_reducible refine N.forkF ?_ | with_reducible refine N.call (cMade _ _ _ hz) ?_)
  all_goals
    simp only [wz, Value.agg.injEq, Array.mk.injEq, Int.natAbs_neg]
    congr 1
    by_cases h : z < 0
    · rw [decide_eq_true h, decide_eq_false (by omega : ¬ -z < 0)]; rfl
    · by_cases h0 : z = 0
      · subst h0; rfl
      · rw [decide_eq_false h, decide_eq_true (by omega : -z < 0), decide_eq_true (by omega : z.natAbs ≠ 0)]; rfl
theorem cNeg (z : Int) (h : List (Option Chunk)) (hz : z.natAbs < Top) : CallOK Try.prog 81 [wz z] h (wz (-z)) [] [] :=
  call_pure (by simp [plain_wz]) (plain3_wz _) (Try.call81 _) (neg_x z hz)

end Go.Proofs.Ytpafcfelaaibgaa


/-
  The walks of wide's sub, cmp, Add, Sub, Sign, Cmp.
-/
set_option linter.unusedVariables false
set_option linter.unusedSimpArgs false
namespace Go.Proofs.Ytpafcfelaaibgaa
open Go Go.RowKit Sx

theorem limL16_len (f : Nat → Nat) : (limL 16 f).length = 16 := limL_len 16 f
theorem wiL_len (n o : Bool) (v : Nat) : (wiL n o v).length = 18 := by simp [wiL, limL_len]
theorem wi_re {ix : List (Nat × Nat)} {w : Bool} {m : Nat} (n o : Bool) (v : Nat) : ((⟨false, 18, [(0, 18, .agg ⟨wiL n o v⟩)]⟩ : Chunk).own = true → (⟨w, 18, [(0, 18, .agg ⟨wiL n o v⟩)]⟩ : Chunk).own = true ∧ m ≤ (⟨w, 18, [(0, 18, .agg ⟨wiL n o v⟩)]⟩ : Chunk).n) ∧ (⟨false, 18, [(0, 18, .agg ⟨wiL n o v⟩)]⟩ : Chunk).n ≤ (⟨w, 18, [(0, 18, .agg ⟨wiL n o v⟩)]⟩ : Chunk).n ∧ ChunkRe ix ⟨w, 18, [(0, 18, .agg ⟨wiL n o v⟩)]⟩ ⟨false, 18, [(0, 18, .agg ⟨wiL n o v⟩)]⟩ :=
  reSame (agg_plain (wiL_len _ _ _) (plain_wi _ _ _))
theorem lim_re {ix : List (Nat × Nat)} {w : Bool} {m : Nat} (f : Nat → Nat) : ((⟨false, 16, [(0, 16, .agg ⟨limL 16 f⟩)]⟩ : Chunk).own = true → (⟨w, 16, [(0, 16, .agg ⟨limL 16 f⟩)]⟩ : Chunk).own = true ∧ m ≤ (⟨w, 16, [(0, 16, .agg ⟨limL 16 f⟩)]⟩ : Chunk).n) ∧ (⟨false, 16, [(0, 16, .agg ⟨limL 16 f⟩)]⟩ : Chunk).n ≤ (⟨w, 16, [(0, 16, .agg ⟨limL 16 f⟩)]⟩ : Chunk).n ∧ ChunkRe ix ⟨w, 16, [(0, 16, .agg ⟨limL 16 f⟩)]⟩ ⟨false, 16, [(0, 16, .agg ⟨limL 16 f⟩)]⟩ :=
  reSame (agg_plain (limL_len _ _) (plain_lim _ _))
theorem sub64 (x y b : Nat) (hb : b ≤ 1) (w : World) : (callFunc 100 #[.int .u64 x, .int .u64 y, .int .u64 b]).run Try.prog w =
    .ok (.value (.tuple #[.int .u64 (((x + 18446744073709551616 - y - b) % 18446744073709551616 : Nat) : Int), .int .u64 ((if x < y + b then 1 else 0 : Nat) : Int)])) w := by
  rw [run_callFunc_extern Try.func100 (by kernel_rfl) (by kernel_rfl) (by kernel_rfl) (e := Proofs.sub64Entry) (by kernel_rfl), Proofs.run_sub64 x y b hb]
  rfl
theorem cSub64 (x y b p q : Nat) (h : List (Option Chunk)) (hb : b ≤ 1) (hp : (x + 18446744073709551616 - y - b) % 18446744073709551616 = p) (hq : (if x < y + b then 1 else 0) = q) : CallOK Try.prog 100 [.int .u64 x, .int .u64 y, .int .u64 b] h (.tuple #[.int .u64 p, .int .u64 q]) [] [] := by
  subst hp; subst hq
  exact call_ext rfl rfl fun w => sub64 x y b hb w
/-- The digits of a difference, as far as they are reckoned. -/
def subTo (d i : Nat) : Nat → Nat := fun j => if j < i then dg d j else 0
theorem subTo_zero (d : Nat) : limL 16 (subTo d 0) = limL 16 (fun _ => 0) := limL_same fun j _ => by simp [subTo]
theorem subTo_end (d : Nat) : limL 16 (subTo d 16) = limL 16 (dg d) := limL_same fun j hj => by unfold subTo; rw [if_pos hj]
set_option maxRecDepth 100000 in
set_option maxHeartbeats 1000000 in
theorem cSubS (i j v u : Nat) (n1 o1 n2 o2 w1 w2 : Bool) (h : List (Option Chunk)) (hi : h[i]? = some (some ⟨w1, 18, [(0, 18, .agg ⟨wiL n1 o1 v⟩)]⟩)) (hj : h[j]? = some (some ⟨w2, 18, [(0, 18, .agg ⟨wiL n2 o2 u⟩)]⟩)) (huv : u ≤ v) :
    CallOK Try.prog 97 [.pointer (some ⟨i, 2, some 0⟩), .pointer (some ⟨j, 2, some 0⟩)] h (.agg ⟨limL 16 (dg (v - u))⟩) [] [i, j] := by
  obtain ⟨d, rfl⟩ : ∃ d, v = u + d := ⟨v - u, by omega⟩
  rw [Nat.add_sub_cancel_left]
  refine call_sub (G := tys) [⟨i, _, ⟨false, 18, [(0, 18, .agg ⟨wiL n1 o1 (u + d)⟩)]⟩, ⟨false, 0, []⟩⟩, ⟨j, _, ⟨false, 18, [(0, 18, .agg ⟨wiL n2 o2 u⟩)]⟩, ⟨false, 0, []⟩⟩] [] [.pointer (some ⟨0, 2, some 0⟩), .pointer (some ⟨1, 2, some 0⟩)] tysOK mixed Try.func97 (by rfl) (Try.call97) ⟨hi, hj, trivial⟩ ⟨wi_re _ _ _, wi_re _ _ _, trivial⟩ (by simp [Apart]) trivial ⟨.ptr rfl, .ptr rfl, trivial⟩ ?_
  repeat' (refine N.go ?_; first | with_reducible refine N.obl (by decide) ?_ | with_reducible refine N.obl (flat_wi _ _ _) ?_ | with_reducible refine N.obl (flat_lim _ _) ?_ | with_reducible refine N.eq ?_ | with_reducible refine N.obl rfl ?_ | with_reducible refine N.obl ⟨by kernel_rfl, by kernel_rfl⟩ ?_ | with_reducible refine N.alt ?_ | with_reducible refine N.forkT ?_ | with_reducible refine N.forkF ?_)
  refine N.go ?_
  refine N.loop (α := Nat) (fun i => i ≤ 16) (fun i => 16 - i) (fun i => [(8, .int .i64 (i : Int)), (6, .int .u64 ((cry u d i : Nat) : Int))]) (fun i => [(3, ⟨true, 16, [(0, 16, .agg ⟨limL 16 (subTo d i)⟩)]⟩)]) 0 (Nat.zero_le _) ?_ ?_
  · repeat (refine N.go ?_; first | exact N.true | with_reducible refine N.obl rfl ?_ | with_reducible refine N.obl (ChunkLe.refl _) ?_ | refine N.obl (ChunkLe.of (by rw [subTo_zero]; rfl)) ?_ | refine N.obl (by rw [cry_zero]; rfl) ?_)
  · intro i hi
    by_cases hlt : i < 16
    · have c1 : dg u i + dg d i + cry u d i = dg (u + d) i + 18446744073709551616 * cry u d (i + 1) := cry_step u d i
      have c2 := cry_le u d i
      have c3 := cry_le u d (i + 1)
      have c4 := dg_lt u i
      have c5 := dg_lt d i
      have c6 := dg_lt (u + d) i
      have hp : (dg (u + d) i + 18446744073709551616 - dg u i - cry u d i) % 18446744073709551616 = dg d i := by omega
      have hq : (if dg (u + d) i < dg u i + cry u d i then 1 else 0) = cry u d (i + 1) := by split <;> omega
      repeat' (refine N.go ?_; first | with_reducible refine N.obl (by decide) ?_ | with_reducible refine N.obl (flat_wi _ _ _) ?_ | with_reducible refine N.obl (flat_lim _ _) ?_ | with_reducible refine N.eq ?_ | with_reducible refine N.obl rfl ?_ | with_reducible refine N.obl ⟨by kernel_rfl, by kernel_rfl⟩ ?_ | with_reducible refine N.alt ?_ | with_reducible refine N.forkT ?_ | with_reducible refine N.forkF ?_ | refine N.forkYes (by rw [decide_eq_true_eq]; omega) ?_ | refine N.idx i 1 rfl hlt ?_ | refine N.load _ (reads_wi (p := i) hlt rfl) ?_ | refine N.call (cSub64 _ _ _ _ _ _ c2 hp hq) ?_ | refine N.store ⟨true, 16, [(0, 16, .agg ⟨limL 16 (subTo d (i + 1))⟩)]⟩ (writes_lim (p := i) hlt (by first | rfl | omega) (by unfold subTo; rw [if_pos (by omega)]) (fun k _ hk => by unfold subTo; by_cases h : k < i <;> simp [h] <;> omega)) ?_)
      refine N.go ?_
      refine N.next (i + 1) ⟨by omega, by omega⟩ ?_
      repeat (refine N.go ?_; first | exact N.true | with_reducible refine N.obl rfl ?_ | with_reducible refine N.obl (ChunkLe.refl _) ?_ | refine N.obl (int_i64 (by rw [IntWalk.i64_in _ (by omega)]; rfl)) ?_)
    · obtain rfl : i = 16 := by omega
      refine N.go ?_
      refine N.forkNo (by decide) ?_
      rw [subTo_end]
      repeat' (refine N.go ?_; first | with_reducible refine N.obl (by decide) ?_ | with_reducible refine N.obl (flat_wi _ _ _) ?_ | with_reducible refine N.obl (flat_lim _ _) ?_ | with_reducible refine N.eq ?_ | with_reducible refine N.obl rfl ?_ | with_reducible refine N.obl ⟨by kernel_rfl, by kernel_rfl⟩ ?_ | with_reducible refine N.alt ?_ | with_reducible refine N.forkT ?_ | with_reducible refine N.forkF ?_ | exact N.true | refine N.obl trivial ?_ | refine N.obl (.plain (plain_lim _ _)) ?_)
theorem cCmpS (i f v j g u : Nat) (h : List (Option Chunk)) (h1 : Has h i f v) (h2 : Has h j g u) (hv : v < Bs ^ 16) (hu : u < Bs ^ 16) : CallOK Try.prog 96 [.pointer (some ⟨i, f, some 0⟩), .pointer (some ⟨j, g, some 0⟩)] h (.int .i64 (cm v u)) [] [i, j] :=
  call_heap [i, j] rfl (Try.call96) fun ρ w hc => (cmp_any (ρ i).1 ((ρ i).2 + f) v (ρ j).1 ((ρ j).2 + g) u w (h1.digs (by simp) hc) (h2.digs (by simp) hc) hv hu).mono (by rintro e w' ⟨he, hb, _⟩; exact ⟨he, hb⟩)
theorem cry_top (v u : Nat) (h : v + u < Bs ^ 16) : cry v u 16 = 0 := by
  unfold cry
  have h1 : v % Bs ^ 16 ≤ v := Nat.mod_le _ _
  have h2 : u % Bs ^ 16 ≤ u := Nat.mod_le _ _
  exact Nat.div_eq_of_lt (by omega)
set_option maxRecDepth 100000 in
theorem add_false_same_x (v u : Nat) (hv : v < Top) (hu : u < Top) (hs : v + u < Top) (w : World) : Calls Try.prog 80 #[.agg ⟨wiL false false v⟩, .agg ⟨wiL false false u⟩] w fun e w' => e = .returned (.agg ⟨wiL (false && decide (v + u ≠ 0)) false (v + u)⟩) ∧ Below w.heap.size w w' := by
  have hv16 := Nat.lt_trans hv top_lt
  have hu16 := Nat.lt_trans hu top_lt
  refine calls_pure (G := tys) w tysOK mixed Try.func80 (by rfl) (by first | rfl | (simp only [List.all_cons, List.all_nil, plain_wz, plain_lim, plain_wi]; rfl)) (by first | exact plain3_wz _ | exact plain3_wi _ _ _ | rfl | (simp only [plain3, List.all_cons, List.all_nil, plain_wz, plain_lim, plain_wi]; rfl)) ?_
  repeat' (refine N.go ?_; first | with_reducible refine N.obl (by decide) ?_ | with_reducible refine N.obl (flat_wi _ _ _) ?_ | with_reducible refine N.obl (flat_lim _ _) ?_ | with_reducible refine N.eq ?_ | with_reducible refine N.obl rfl ?_ | with_reducible refine N.obl ⟨by kernel_rfl, by kernel_rfl⟩ ?_ | with_reducible refine N.alt ?_ | with_reducible refine N.forkT ?_ | with_reducible refine N.forkF ?_ | refine N.call (cAdd _ _ _ _ _ _ _ (has_wi (by rfl)) (has_wi (by rfl))) ?_ | refine N.forkNo (by rw [cry_top _ _ (Nat.lt_trans hs top_lt)]; decide) ?_ | with_reducible refine N.call (cMade _ _ _ hs) ?_ | refine N.forkNo (by decide) ?_ | refine N.forkYes (by decide) ?_)
  all_goals rfl
set_option maxRecDepth 100000 in
theorem add_false_ge_x (v u : Nat) (hv : v < Top) (hu : u < Top) (hs : u ≤ v) (w : World) : Calls Try.prog 80 #[.agg ⟨wiL false false v⟩, .agg ⟨wiL true false u⟩] w fun e w' => e = .returned (.agg ⟨wiL (false && decide (v - u ≠ 0)) false (v - u)⟩) ∧ Below w.heap.size w w' := by
  have hv16 := Nat.lt_trans hv top_lt
  have hu16 := Nat.lt_trans hu top_lt
  refine calls_pure (G := tys) w tysOK mixed Try.func80 (by rfl) (by first | rfl | (simp only [List.all_cons, List.all_nil, plain_wz, plain_lim, plain_wi]; rfl)) (by first | exact plain3_wz _ | exact plain3_wi _ _ _ | rfl | (simp only [plain3, List.all_cons, List.all_nil, plain_wz, plain_lim, plain_wi]; rfl)) ?_
  repeat' (refine N.go ?_; first | with_reducible refine N.obl (by decide) ?_ | with_reducible refine N.obl (flat_wi _ _ _) ?_ | with_reducible refine N.obl (flat_lim _ _) ?_ | with_reducible refine N.eq ?_ | with_reducible refine N.obl rfl ?_ | with_reducible refine N.obl ⟨by kernel_rfl, by kernel_rfl⟩ ?_ | with_reducible refine N.alt ?_ | with_reducible refine N.forkT ?_ | with_reducible refine N.forkF ?_ | refine N.call (cCmpS _ _ _ _ _ _ _ (has_wi (by rfl)) (has_wi (by rfl)) hv16 hu16) ?_ | refine N.call (cSubS _ _ _ _ _ _ _ _ _ _ _ (by rfl) (by rfl) (by omega)) ?_ | refine N.forkYes (by rw [decide_eq_true_eq]; unfold cm; split <;> (try split) <;> omega) ?_ | with_reducible refine N.call (cMade _ _ _ (Nat.lt_of_le_of_lt (Nat.sub_le _ _) hv)) ?_ | refine N.forkNo (by decide) ?_ | refine N.forkYes (by decide) ?_)
  all_goals rfl
set_option maxRecDepth 100000 in
theorem add_false_lt_x (v u : Nat) (hv : v < Top) (hu : u < Top) (hs : v < u) (w : World) : Calls Try.prog 80 #[.agg ⟨wiL false false v⟩, .agg ⟨wiL true false u⟩] w fun e w' => e = .returned (.agg ⟨wiL (true && decide (u - v ≠ 0)) false (u - v)⟩) ∧ Below w.heap.size w w' := by
  have hv16 := Nat.lt_trans hv top_lt
  have hu16 := Nat.lt_trans hu top_lt
  refine calls_pure (G := tys) w tysOK mixed Try.func80 (by rfl) (by first | rfl | (simp only [List.all_cons, List.all_nil, plain_wz, plain_lim, plain_wi]; rfl)) (by first | exact plain3_wz _ | exact plain3_wi _ _ _ | rfl | (simp only [plain3, List.all_cons, List.all_nil, plain_wz, plain_lim, plain_wi]; rfl)) ?_
  repeat' (refine N.go ?_; first | with_reducible refine N.obl (by decide) ?_ | with_reducible refine N.obl (flat_wi _ _ _) ?_ | with_reducible refine N.obl (flat_lim _ _) ?_ | with_reducible refine N.eq ?_ | with_reducible refine N.obl rfl ?_ | with_reducible refine N.obl ⟨by kernel_rfl, by kernel_rfl⟩ ?_ | with_reducible refine N.alt ?_ | with_reducible refine N.forkT ?_ | with_reducible refine N.forkF ?_ | refine N.call (cCmpS _ _ _ _ _ _ _ (has_wi (by rfl)) (has_wi (by rfl)) hv16 hu16) ?_ | refine N.call (cSubS _ _ _ _ _ _ _ _ _ _ _ (by rfl) (by rfl) (by omega)) ?_ | refine N.forkNo (by rw [decide_eq_false_iff_not]; unfold cm; split <;> (try split) <;> omega) ?_ | with_reducible refine N.call (cMade _ _ _ (Nat.lt_of_le_of_lt (Nat.sub_le _ _) hu)) ?_ | refine N.forkNo (by decide) ?_ | refine N.forkYes (by decide) ?_)
  all_goals rfl
set_option maxRecDepth 100000 in
theorem add_true_same_x (v u : Nat) (hv : v < Top) (hu : u < Top) (hs : v + u < Top) (w : World) : Calls Try.prog 80 #[.agg ⟨wiL true false v⟩, .agg ⟨wiL true false u⟩] w fun e w' => e = .returned (.agg ⟨wiL (true && decide (v + u ≠ 0)) false (v + u)⟩) ∧ Below w.heap.size w w' := by
  have hv16 := Nat.lt_trans hv top_lt
  have hu16 := Nat.lt_trans hu top_lt
  refine calls_pure (G := tys) w tysOK mixed Try.func80 (by rfl) (by first | rfl | (simp only [List.all_cons, List.all_nil, plain_wz, plain_lim, plain_wi]; rfl)) (by first | exact plain3_wz _ | exact plain3_wi _ _ _ | rfl | (simp only [plain3, List.all_cons, List.all_nil, plain_wz, plain_lim, plain_wi]; rfl)) ?_
  repeat' (refine N.go ?_; first | with_reducible refine N.obl (by decide) ?_ | with_reducible refine N.obl (flat_wi _ _ _) ?_ | with_reducible refine N.obl (flat_lim _ _) ?_ | with_reducible refine N.eq ?_ | with_reducible refine N.obl rfl ?_ | with_reducible refine N.obl ⟨by kernel_rfl, by kernel_rfl⟩ ?_ | with_reducible refine N.alt ?_ | with_reducible refine N.forkT ?_ | with_reducible refine N.forkF ?_ | refine N.call (cAdd _ _ _ _ _ _ _ (has_wi (by rfl)) (has_wi (by rfl))) ?_ | refine N.forkNo (by rw [cry_top _ _ (Nat.lt_trans hs top_lt)]; decide) ?_ | with_reducible refine N.call (cMade _ _ _ hs) ?_ | refine N.forkNo (by decide) ?_ | refine N.forkYes (by decide) ?_)
  all_goals rfl
set_option maxRecDepth 100000 in
theorem add_true_ge_x (v u : Nat) (hv : v < Top) (hu : u < Top) (hs : u ≤ v) (w : World) : Calls Try.prog 80 #[.agg ⟨wiL true false v⟩, .agg ⟨wiL false false u⟩] w fun e w' => e = .returned (.agg ⟨wiL (true && decide (v - u ≠ 0)) false (v - u)⟩) ∧ Below w.heap.size w w' := by
  have hv16 := Nat.lt_trans hv top_lt
  have hu16 := Nat.lt_trans hu top_lt
  refine calls_pure (G := tys) w tysOK mixed Try.func80 (by rfl) (by first | rfl | (simp only [List.all_cons, List.all_nil, plain_wz, plain_lim, plain_wi]; rfl)) (by first | exact plain3_wz _ | exact plain3_wi _ _ _ | rfl | (simp only [plain3, List.all_cons, List.all_nil, plain_wz, plain_lim, plain_wi]; rfl)) ?_
  repeat' (refine N.go ?_; first | with_reducible refine N.obl (by decide) ?_ | with_reducible refine N.obl (flat_wi _ _ _) ?_ | with_reducible refine N.obl (flat_lim _ _) ?_ | with_reducible refine N.eq ?_ | with_reducible refine N.obl rfl ?_ | with_reducible refine N.obl ⟨by kernel_rfl, by kernel_rfl⟩ ?_ | with_reducible refine N.alt ?_ | with_reducible refine N.forkT ?_ | with_reducible refine N.forkF ?_ | refine N.call (cCmpS _ _ _ _ _ _ _ (has_wi (by rfl)) (has_wi (by rfl)) hv16 hu16) ?_ | refine N.call (cSubS _ _ _ _ _ _ _ _ _ _ _ (by rfl) (by rfl) (by omega)) ?_ | refine N.forkYes (by rw [decide_eq_true_eq]; unfold cm; split <;> (try split) <;> omega) ?_ | with_reducible refine N.call (cMade _ _ _ (Nat.lt_of_le_of_lt (Nat.sub_le _ _) hv)) ?_ | refine N.forkNo (by decide) ?_ | refine N.forkYes (by decide) ?_)
  all_goals rfl
set_option maxRecDepth 100000 in
theorem add_true_lt_x (v u : Nat) (hv : v < Top) (hu : u < Top) (hs : v < u) (w : World) : Calls Try.prog 80 #[.agg ⟨wiL true false v⟩, .agg ⟨wiL false false u⟩] w fun e w' => e = .returned (.agg ⟨wiL (false && decide (u - v ≠ 0)) false (u - v)⟩) ∧ Below w.heap.size w w' := by
  have hv16 := Nat.lt_trans hv top_lt
  have hu16 := Nat.lt_trans hu top_lt
  refine calls_pure (G := tys) w tysOK mixed Try.func80 (by rfl) (by first | rfl | (simp only [List.all_cons, List.all_nil, plain_wz, plain_lim, plain_wi]; rfl)) (by first | exact plain3_wz _ | exact plain3_wi _ _ _ | rfl | (simp only [plain3, List.all_cons, List.all_nil, plain_wz, plain_lim, plain_wi]; rfl)) ?_
  repeat' (refine N.go ?_; first | with_reducible refine N.obl (by decide) ?_ | with_reducible refine N.obl (flat_wi _ _ _) ?_ | with_reducible refine N.obl (flat_lim _ _) ?_ | with_reducible refine N.eq ?_ | with_reducible refine N.obl rfl ?_ | with_reducible refine N.obl ⟨by kernel_rfl, by kernel_rfl⟩ ?_ | with_reducible refine N.alt ?_ | with_reducible refine N.forkT ?_ | with_reducible refine N.forkF ?_ | refine N.call (cCmpS _ _ _ _ _ _ _ (has_wi (by rfl)) (has_wi (by rfl)) hv16 hu16) ?_ | refine N.call (cSubS _ _ _ _ _ _ _ _ _ _ _ (by rfl) (by rfl) (by omega)) ?_ | refine N.forkNo (by rw [decide_eq_false_iff_not]; unfold cm; split <;> (try split) <;> omega) ?_ | with_reducible refine N.call (cMade _ _ _ (Nat.lt_of_le_of_lt (Nat.sub_le _ _) hu)) ?_ | refine N.forkNo (by decide) ?_ | refine N.forkYes (by decide) ?_)
  all_goals rfl
theorem wz_neg {z : Int} (h : z < 0) : wz z = .agg ⟨wiL true false z.natAbs⟩ := by unfold wz; rw [decide_eq_true h]
theorem wz_pos {z : Int} (h : 0 ≤ z) : wz z = .agg ⟨wiL false false z.natAbs⟩ := by unfold wz; rw [decide_eq_false (by omega)]
theorem wi_wz {b : Bool} {n : Nat} {z : Int} (h1 : n = z.natAbs) (h2 : b = decide (z < 0)) : (Value.agg ⟨wiL b false n⟩) = wz z := by subst h1 h2; rfl
theorem add_z (a b : Int) (ha : a.natAbs < Top) (hb : b.natAbs < Top) (hab : (a + b).natAbs < Top) (w : World) : Calls Try.prog 80 #[wz a, wz b] w fun e w' => e = .returned (wz (a + b)) ∧ Below w.heap.size w w' := by
  by_cases h1 : a < 0 <;> by_cases h2 : b < 0
  · rw [wz_neg h1, wz_neg h2]
    have := add_true_same_x a.natAbs b.natAbs ha hb (by omega) w
    rwa [wi_wz (b := true && decide (a.natAbs + b.natAbs ≠ 0)) (n := a.natAbs + b.natAbs) (z := a + b) (by omega) (by rw [Bool.true_and]; exact decide_eq_decide.2 (by omega))] at this
  · rw [wz_neg h1, wz_pos (by omega : 0 ≤ b)]
    by_cases h3 : b.natAbs ≤ a.natAbs
    · have := add_true_ge_x a.natAbs b.natAbs ha hb h3 w
      rwa [wi_wz (b := true && decide (a.natAbs - b.natAbs ≠ 0)) (n := a.natAbs - b.natAbs) (z := a + b) (by omega) (by rw [Bool.true_and]; exact decide_eq_decide.2 (by omega))] at this
    · have := add_true_lt_x a.natAbs b.natAbs ha hb (by omega) w
      rwa [wi_wz (b := false && decide (b.natAbs - a.natAbs ≠ 0)) (n := b.natAbs - a.natAbs) (z := a + b) (by omega) (by rw [Bool.false_and, decide_eq_false (by omega)])] at this
  · rw [wz_pos (by omega : 0 ≤ a), wz_neg h2]
    by_cases h3 : b.natAbs ≤ a.natAbs
    · have := add_false_ge_x a.natAbs b.natAbs ha hb h3 w
      rwa [wi_wz (b := false && decide (a.natAbs - b.natAbs ≠ 0)) (n := a.natAbs - b.natAbs) (z := a + b) (by omega) (by rw [Bool.false_and, decide_eq_false (by omega)])] at this
    · have := add_false_lt_x a.natAbs b.natAbs ha hb (by omega) w
      rwa [wi_wz (b := true && decide (b.natAbs - a.natAbs ≠ 0)) (n := b.natAbs - a.natAbs) (z := a + b) (by omega) (by rw [Bool.true_and]; exact decide_eq_decide.2 (by omega))] at this
  · rw [wz_pos (by omega : 0 ≤ a), wz_pos (by omega : 0 ≤ b)]
    have := add_false_same_x a.natAbs b.natAbs ha hb (by omega) w
    rwa [wi_wz (b := false && decide (a.natAbs + b.natAbs ≠ 0)) (n := a.natAbs + b.natAbs) (z := a + b) (by omega) (by rw [Bool.false_and, decide_eq_false (by omega)])] at this
theorem cAddz (a b : Int) (h : List (Option Chunk)) (ha : a.natAbs < Top) (hb : b.natAbs < Top) (hab : (a + b).natAbs < Top) : CallOK Try.prog 80 [wz a, wz b] h (wz (a + b)) [] [] :=
  call_pure (by simp [plain_wz]) (plain3_wz _) (Try.call80 _) (add_z a b ha hb hab)
set_option maxRecDepth 100000 in
theorem sub_z_x (a b : Int) (ha : a.natAbs < Top) (hb : b.natAbs < Top) (hab : (a - b).natAbs < Top) (w : World) : Calls Try.prog 62 #[wz a, wz b] w fun e w' => e = .returned (wz (a - b)) ∧ Below w.heap.size w w' := by
  have hn : (-b).natAbs < Top := by rwa [Int.natAbs_neg]
  have hs : (a + -b).natAbs < Top := by rwa [← Int.sub_eq_add_neg]
  refine calls_pure (G := tys) w tysOK mixed Try.func62 (by rfl) (by first | rfl | (simp only [List.all_cons, List.all_nil, plain_wz, plain_lim, plain_wi]; rfl)) (by first | exact plain3_wz _ | exact plain3_wi _ _ _ | rfl | (simp only [plain3, List.all_cons, List.all_nil, plain_wz, plain_lim, plain_wi]; rfl)) ?_
  repeat' (refine N.go ?_; first | with_reducible refine N.obl (by decide) ?_ | with_reducible refine N.obl (flat_wi _ _ _) ?_ | with_reducible refine N.obl (flat_lim _ _) ?_ | with_reducible refine N.eq ?_ | with_reducible refine N.obl rfl ?_ | with_reducible refine N.obl ⟨by kernel_rfl, by kernel_rfl⟩ ?_ | with_reducible refine N.alt ?_ | with_reducible refine N.forkT ?_ | with_reducible refine N.forkF ?_ | with_reducible refine N.call (cNeg _ _ hb) ?_ | with_reducible refine N.call (cAddz _ _ _ ha hn hs) ?_)
  all_goals (rw [Int.sub_eq_add_neg])
theorem cSubz (a b : Int) (h : List (Option Chunk)) (ha : a.natAbs < Top) (hb : b.natAbs < Top) (hab : (a - b).natAbs < Top) : CallOK Try.prog 62 [wz a, wz b] h (wz (a - b)) [] [] :=
  call_pure (by simp [plain_wz]) (plain3_wz _) (Try.call62 _) (sub_z_x a b ha hb hab)
def sgn (z : Int) : Int := if z < 0 then -1 else if z = 0 then 0 else 1
theorem sgn_pos (z : Int) : sgn z > 0 ↔ z > 0 := by unfold sgn; split <;> (try split) <;> omega
theorem sgn_nonneg (z : Int) : sgn z ≥ 0 ↔ z ≥ 0 := by unfold sgn; split <;> (try split) <;> omega
set_option maxRecDepth 100000 in
theorem sign_z_x (z : Int) (hz : z.natAbs < Top) (w : World) : Calls Try.prog 44 #[wz z] w fun e w' => e = .returned (.int .i64 (sgn z)) ∧ Below w.heap.size w w' := by
  have hz16 := Nat.lt_trans hz top_lt
  refine calls_pure (G := tys) w tysOK mixed Try.func44 (by rfl) (by first | rfl | (simp only [List.all_cons, List.all_nil, plain_wz, plain_lim, plain_wi]; rfl)) (by first | exact plain3_wz _ | exact plain3_wi _ _ _ | rfl | (simp only [plain3, List.all_cons, List.all_nil, plain_wz, plain_lim, plain_wi]; rfl)) ?_
  repeat' (refine N.go ?_; first | with_reducible refine N.obl (by decide) ?_ | with_reducible refine N.obl (flat_wi _ _ _) ?_ | with_reducible refine N.obl (flat_lim _ _) ?_ | with_reducible refine N.eq ?_ | with_reducible refine N.obl rfl ?_ | with_reducible refine N.obl ⟨by kernel_rfl, by kernel_rfl⟩ ?_ | with_reducible refine N.alt ?_ | with_reducible refine N.forkT ?_ | with_reducible refine N.forkF ?_ | with_reducible refine N.bin _ (eq_size0 _ _ _ _ hz16 false rfl) ?_ | refine N.forkNo (by decide) ?_ | refine N.forkYes (by decide) ?_ | with_reducible refine N.fork (fun hb => ?_) (fun hb => ?_))
  all_goals
    simp only [decide_eq_true_eq, decide_eq_false_iff_not, Bool.false_eq_true, if_false] at *
    unfold sgn
    first
      | rw [if_neg (by omega), if_pos (by omega)]
      | rw [if_pos (by omega)]
      | rw [if_neg (by omega), if_neg (by omega)]
theorem cSign (z : Int) (h : List (Option Chunk)) (hz : z.natAbs < Top) : CallOK Try.prog 44 [wz z] h (.int .i64 (sgn z)) [] [] :=
  call_pure (by simp [plain_wz]) rfl (Try.call44 _) (sign_z_x z hz)
end Go.Proofs.Ytpafcfelaaibgaa


/-
  The walks of wide.Div by one digit, of Neg, Int64, narrow, above, MulDiv, MulDivUp (third part).
-/
set_option linter.unusedVariables false
set_option linter.unusedSimpArgs false
namespace Go.Proofs.Ytpafcfelaaibgaa
open Go Go.RowKit Sx

theorem dg_one (n : Nat) : dg n 0 = n % 18446744073709551616 := by
  show n / Bs ^ 0 % Bs = _
  rw [Nat.pow_zero, Nat.div_one]
def in64 (z : Int) : Bool := decide (-9223372036854775808 ≤ z ∧ z < 9223372036854775808)
def n64 (z : Int) : Int := if in64 z then z else 0
theorem tup2 {a b : Int} (h : a = b) : Value.tuple ⟨[Value.int IntKind.i64 a, Value.bool true]⟩ = Value.tuple #[Value.int IntKind.i64 b, Value.bool true] := by rw [h]
theorem n64_in {z : Int} (h : -9223372036854775808 ≤ z ∧ z < 9223372036854775808) : in64 z = true ∧ n64 z = z := by
  have : in64 z = true := decide_eq_true h
  exact ⟨this, by unfold n64; rw [this]; rfl⟩
theorem n64_out {z : Int} (h : ¬ (-9223372036854775808 ≤ z ∧ z < 9223372036854775808)) : in64 z = false ∧ n64 z = 0 := by
  have : in64 z = false := decide_eq_false h
  exact ⟨this, by unfold n64; rw [this]; rfl⟩
theorem bl_le (n : Nat) (hn : n < Bs ^ 16) : bl n ≤ 64 ↔ n < 18446744073709551616 :=
  ⟨fun h => Nat.lt_of_lt_of_le (bl_spec n hn).1 (Nat.pow_le_pow_right (by decide) h : 2 ^ bl n ≤ 2 ^ 64), fun h => bl_small n 64 hn h⟩
/-- The errno of a number that fits, or not. -/
def e64 (z : Int) : Int := if in64 z then 0 else 2
end Go.Proofs.Ytpafcfelaaibgaa


/-
  The root of a number, down; Newton's steps come to it from above.
-/
set_option linter.unusedVariables false
namespace Go.Proofs.Ytpafcfelaaibgaa

def isqTo (v : Nat) : Nat → Nat
  | 0 => 0
  | n + 1 => if (n + 1) * (n + 1) ≤ v then n + 1 else isqTo v n
/-- The root, down. -/
def isq (v : Nat) : Nat := isqTo v v
theorem isqTo_le (v : Nat) : ∀ n, isqTo v n * isqTo v n ≤ v
  | 0 => Nat.zero_le _
  | n + 1 => by
    rw [isqTo]; split
    · assumption
    · exact isqTo_le v n
theorem isqTo_lt (v : Nat) : ∀ n, v < (n + 1) * (n + 1) → v < (isqTo v n + 1) * (isqTo v n + 1)
  | 0, h => h
  | n + 1, h => by
    rw [isqTo]; split
    · exact h
    · rename_i hn; exact isqTo_lt v n (by omega)
theorem isq_le (v : Nat) : isq v * isq v ≤ v := isqTo_le v v
theorem isq_lt (v : Nat) : v < (isq v + 1) * (isq v + 1) := isqTo_lt v v (by
  have : v + 1 ≤ (v + 1) * (v + 1) := Nat.le_mul_of_pos_left _ (by omega)
  omega)
theorem sq_mono {a b : Nat} (h : a * a < b * b) : a < b := by
  rcases Nat.lt_or_ge a b with h1 | h1
  · exact h1
  · have := Nat.mul_le_mul h1 h1; omega
theorem isq_ge {v x : Nat} (h : x * x ≤ v) : x ≤ isq v := by
  have := isq_lt v
  have := sq_mono (Nat.lt_of_le_of_lt h this)
  omega
theorem isq_eq {v r : Nat} (h1 : r * r ≤ v) (h2 : v < (r + 1) * (r + 1)) : isq v = r := by
  have a := isq_ge h1
  have b := sq_mono (Nat.lt_of_le_of_lt (isq_le v) h2)
  omega
theorem isq_pos {v : Nat} (h : 0 < v) : 0 < isq v := isq_ge (x := 1) (by omega)
theorem isq_below {v n : Nat} (h : v < n * n) : isq v < n := sq_mono (Nat.lt_of_le_of_lt (isq_le v) h)

/-- A step of Newton's does not go below the root. -/
theorem newton_ge (v x : Nat) (hx : 0 < x) : isq v ≤ (x + v / x) / 2 := by
  have hr := isq_le v
  rcases Nat.lt_or_ge ((x + v / x) / 2) (isq v) with h | h
  · exfalso
    generalize isq v = r at *
    have hq := Nat.lt_div_mul_add (a := v) hx
    generalize hqq : v / x = q at *
    have h1 : x + q + 1 ≤ 2 * r := by omega
    obtain ⟨d, hd⟩ : ∃ d, q + 1 + x + d = 2 * r := ⟨2 * r - (x + q + 1), by omega⟩
    -- v < (q + 1) * x
    have h2 : v < (q + 1) * x := by rw [Nat.add_mul]; omega
    rcases Nat.le_total r x with hxr | hxr
    · obtain ⟨e, rfl⟩ : ∃ e, x = r + e := ⟨x - r, by omega⟩
      have h3 : q + 1 + e ≤ r := by omega
      have h4 : (q + 1) * (r + e) ≤ r * r := by
        obtain ⟨f, rfl⟩ : ∃ f, r = q + 1 + e + f := ⟨r - (q + 1 + e), by omega⟩
        simp only [Nat.add_mul, Nat.mul_add]
        have c1 : q * e = e * q := Nat.mul_comm _ _
        have c2 : q * f = f * q := Nat.mul_comm _ _
        have c3 : e * f = f * e := Nat.mul_comm _ _
        generalize q * q = t1 at *
        generalize e * q = t2 at *
        generalize f * q = t3 at *
        generalize e * e = t4 at *
        generalize f * e = t5 at *
        generalize f * f = t6 at *
        omega
      omega
    · obtain ⟨e, rfl⟩ : ∃ e, r = x + e := ⟨r - x, by omega⟩
      have h3 : q + 1 ≤ x + 2 * e := by omega
      have h4 : (q + 1) * x ≤ (x + 2 * e) * x := Nat.mul_le_mul_right _ h3
      have h5 : (x + 2 * e) * x ≤ (x + e) * (x + e) := by
        simp only [Nat.add_mul, Nat.mul_add, Nat.mul_assoc]
        have c1 : e * x = x * e := Nat.mul_comm _ _
        generalize x * x = t1 at *
        generalize x * e = t2 at *
        generalize e * e = t3 at *
        omega
      omega
  · exact h
theorem newton_end (v x : Nat) (hx : 0 < x) (h0 : isq v ≤ x) (h : x ≤ (x + v / x) / 2) : x = isq v := by
  have h1 : x ≤ v / x := by omega
  have h2 : x * x ≤ v := (Nat.le_div_iff_mul_le hx).1 h1
  have := isq_ge h2
  omega
theorem newton_start (v : Nat) (hv : v < Bs ^ 16) : isq v < 2 ^ ((bl v + 1) / 2) := by
  apply isq_below
  refine Nat.lt_of_lt_of_le (bl_spec v hv).1 ?_
  rw [← Nat.pow_add]
  exact Nat.pow_le_pow_right (by decide) (by omega)
end Go.Proofs.Ytpafcfelaaibgaa


/-
  The walks of wide's down by one, Sqrt, Cmp, and of root's WideUp, Up.
-/
set_option linter.unusedVariables false
set_option linter.unusedSimpArgs false
namespace Go.Proofs.Ytpafcfelaaibgaa
open Go Go.RowKit Sx

theorem fd2 (n : Nat) : ((n : Nat) : Int).fdiv (2 ^ sh (Int.tmod 1 64) IntKind.u64) = ((n / 2 : Nat) : Int) := by
  rw [show sh (Int.tmod 1 64) IntKind.u64 = 1 from by decide, Int.fdiv_eq_ediv_of_nonneg _ (by decide)]; omega
def dn1 (v : Nat) : Bool := IntKind.u64.wrap (((dg v 0 : Nat) : Int) * 2 ^ 63) != 0
theorem downTo_zero (v : Nat) : limL 16 (downTo v 1 0) = limL 16 (fun _ => 0) := limL_same fun j _ => by simp [downTo]
theorem downTo_end (v : Nat) : limL 16 (downTo v 1 16) = limL 16 (dg (v / 2)) := limL_same fun j hj => by unfold downTo; rw [if_pos hj]
/-- The digits while the i-th is half done. -/
def downM (v i : Nat) : Nat → Nat := fun j => if j = i then dg v i / 2 else downTo v 1 i j
end Go.Proofs.Ytpafcfelaaibgaa


/-
  The walks of wide's Sqrt, Cmp, and of root's WideUp, Up.
-/
set_option linter.unusedVariables false
set_option linter.unusedSimpArgs false
namespace Go.Proofs.Ytpafcfelaaibgaa
open Go Go.RowKit Sx

theorem limL_lit (n : Nat) (f : Nat → Nat) : (limL n f).all lit1 = true := by simp [limL, lit1]
theorem wiL_lit (n o : Bool) (v : Nat) : (wiL n o v).all lit1 = true := by simp [wiL, limL_lit, lit1]
theorem p125 : (2 : Nat) ^ 125 = 42535295865117307932921825928971026432 := by decide
theorem p126 : (2 : Nat) ^ 126 = 85070591730234615865843651857942052864 := by decide
theorem p127 : (2 : Nat) ^ 127 = 170141183460469231731687303715884105728 := by decide
theorem natTop7 {n : Nat} (h : n < 2 ^ 127) : n < Top := Nat.lt_trans h (Nat.pow_lt_pow_right (a := 2) (by decide) (by decide : 127 < TopBits))
theorem natTop {n : Nat} (h : n < 2 ^ 126) : n < Top := natTop7 (by have := p126; have := p127; omega)
theorem isq_small (v : Nat) (hv : v < 2 ^ 126) : isq v < 9223372036854775808 := isq_below (n := 9223372036854775808) (by have := p126; omega)
theorem wzn (n : Nat) : wz (n : Int) = .agg ⟨wiL false false n⟩ := by unfold wz; rw [decide_eq_false (by omega), Int.natAbs_natCast]
def cmz (a b : Int) : Int := if a < b then -1 else if b < a then 1 else 0
/-- The root, up. -/
def usq (n : Nat) : Nat := if isq n * isq n < n then isq n + 1 else isq n
theorem usq_ge (n : Nat) : n ≤ usq n * usq n := by
  unfold usq
  have := isq_lt n
  split <;> omega
theorem usq_le {n m : Nat} (h : n ≤ m * m) : usq n ≤ m := by
  unfold usq
  have h1 := isq_le n
  split
  · rename_i h2
    exact sq_mono (Nat.lt_of_lt_of_le h2 h)
  · have : isq n * isq n ≤ m * m := by omega
    rcases Nat.lt_or_ge m (isq n) with h3 | h3
    · have := Nat.mul_lt_mul'' h3 h3; omega
    · exact h3
end Go.Proofs.Ytpafcfelaaibgaa


/-
  The walks of mat and ellip.
-/
set_option linter.unusedVariables false
set_option linter.unusedSimpArgs false
namespace Go.Proofs.Ytpafcfelaaibgaa
open Go Go.RowKit Sx

/-- so great at most: 2^200 -/
theorem zt {z : Int} (h : z.natAbs ≤ 1606938044258990275541962092341162602522202993782792835301376) : z.natAbs < Top := by
  have : (2 : Nat) ^ 201 < Top := Nat.pow_lt_pow_right (a := 2) (by decide) (by decide : 201 < TopBits)
  have e : (2 : Nat) ^ 201 = 3213876088517980551083924184682325205044405987565585670602752 := by decide
  omega
theorem zb {z : Int} (h : z.natAbs ≤ 1606938044258990275541962092341162602522202993782792835301376) : z.natAbs < Bs ^ 16 := Nat.lt_trans (zt h) top_lt
theorem mulB {a b : Int} {m n : Nat} (ha : a.natAbs ≤ m) (hbb : b.natAbs ≤ n) : (a * b).natAbs ≤ m * n := by rw [Int.natAbs_mul]; exact Nat.mul_le_mul ha hbb
def withinP (m x y : Int) : Prop := (-m ≤ x ∧ x ≤ m) ∧ (-m ≤ y ∧ y ≤ m)
instance (m x y : Int) : Decidable (withinP m x y) := by unfold withinP; infer_instance
/-- 2^46 -/
def mayP (cx cy a b d : Int) : Prop := withinP 4194304 cx cy ∧ (1 ≤ a ∧ a ≤ 70368744177664) ∧ (1 ≤ d ∧ d ≤ 70368744177664) ∧ (-70368744177664 ≤ b ∧ b ≤ 70368744177664) ∧ 0 < a * d - b * b
instance (cx cy a b d : Int) : Decidable (mayP cx cy a b d) := by unfold mayP; infer_instance
def psdP (a b d : Int) : Prop := 0 ≤ a ∧ 0 ≤ d ∧ 0 ≤ a * d - b * b
instance (a b d : Int) : Decidable (psdP a b d) := by unfold psdP; infer_instance
def holdsP (a b d x y : Int) : Prop := psdP (a - x * x) (b - x * y) (d - y * y)
instance (a b d x y : Int) : Decidable (holdsP a b d x y) := by unfold holdsP; infer_instance
def inP (cx cy a b d x y : Int) : Prop := mayP cx cy a b d ∧ withinP 1073741824 x y ∧ holdsP a b d (x - cx) (y - cy)
instance (cx cy a b d x y : Int) : Decidable (inP cx cy a b d x y) := by unfold inP; infer_instance
set_option maxRecDepth 100000 in
theorem within_x (x y m : Int) (hm : 0 ≤ m ∧ m ≤ 1152921504606846976) (w : World) : Calls Try.prog 53 #[.agg #[.int .i64 x, .int .i64 y], .int .i64 m] w fun e w' => e = .returned (.bool (decide (withinP m x y))) ∧ Below w.heap.size w w' := by
  have hw := i64s (0 - m) (by omega) (by omega)
  refine calls_pure (G := tys) w tysOK mixed Try.func53 (by rfl) (by first | rfl | (simp only [List.all_cons, List.all_nil, plain_wz, plain_lim, plain_wi]; rfl)) (by first | exact plain3_wz _ | exact plain3_wi _ _ _ | rfl | (simp only [plain3, List.all_cons, List.all_nil, plain_wz, plain_lim, plain_wi]; rfl)) ?_
  repeat' (refine N.go ?_; first | with_reducible refine N.obl (by decide) ?_ | with_reducible refine N.obl (flat_wi _ _ _) ?_ | with_reducible refine N.obl (flat_lim _ _) ?_ | with_reducible refine N.eq ?_ | with_reducible refine N.obl rfl ?_ | with_reducible refine N.obl ⟨by kernel_rfl, by kernel_rfl⟩ ?_ | with_reducible refine N.alt ?_ | with_reducible refine N.forkT ?_ | with_reducible refine N.forkF ?_ | with_reducible refine N.fork (fun hb => ?_) (fun hb => ?_))
  all_goals
    refine boolD ?_
    try rw [hw] at *
    simp only [decide_eq_true_eq, decide_eq_false_iff_not, Bool.false_eq_true, false_iff, true_iff, iff_true, iff_false, reduceCtorEq, not_true_eq_false, not_false_eq_true, ge_iff_le, gt_iff_lt] at *
    try try rw [hw] at *
    simp only [withinP, psdP, mayP] at *
    omega
theorem cWithin (x y m : Int) (h : List (Option Chunk)) (hm : 0 ≤ m ∧ m ≤ 1152921504606846976) : CallOK Try.prog 53 [.agg #[.int .i64 x, .int .i64 y], .int .i64 m] h (.bool (decide (withinP m x y))) [] [] :=
  call_pure (by first | rfl | (simp only [List.all_cons, List.all_nil, plain_wz]; rfl)) (by first | rfl | exact plain3_wz _) (Try.call53 _) (within_x x y m hm)
set_option maxRecDepth 100000 in
theorem maypoint_x (x y : Int)  (w : World) : Calls Try.prog 43 #[.agg #[.int .i64 x, .int .i64 y]] w fun e w' => e = .returned (.bool (decide (withinP 4194304 x y))) ∧ Below w.heap.size w w' := by
  refine calls_pure (G := tys) w tysOK mixed Try.func43 (by rfl) (by first | rfl | (simp only [List.all_cons, List.all_nil, plain_wz, plain_lim, plain_wi]; rfl)) (by first | exact plain3_wz _ | exact plain3_wi _ _ _ | rfl | (simp only [plain3, List.all_cons, List.all_nil, plain_wz, plain_lim, plain_wi]; rfl)) ?_
  repeat' (refine N.go ?_; first | with_reducible refine N.obl (by decide) ?_ | with_reducible refine N.obl (flat_wi _ _ _) ?_ | with_reducible refine N.obl (flat_lim _ _) ?_ | with_reducible refine N.eq ?_ | with_reducible refine N.obl rfl ?_ | with_reducible refine N.obl ⟨by kernel_rfl, by kernel_rfl⟩ ?_ | with_reducible refine N.alt ?_ | with_reducible refine N.forkT ?_ | with_reducible refine N.forkF ?_ | with_reducible refine N.call (cWithin _ _ _ _ (by decide)) ?_)
  all_goals rfl
theorem cMayPoint (x y : Int) (h : List (Option Chunk))  : CallOK Try.prog 43 [.agg #[.int .i64 x, .int .i64 y]] h (.bool (decide (withinP 4194304 x y))) [] [] :=
  call_pure (by first | rfl | (simp only [List.all_cons, List.all_nil, plain_wz]; rfl)) (by first | rfl | exact plain3_wz _) (Try.call43 _) (maypoint_x x y )
set_option maxRecDepth 100000 in
theorem i63 {n : Int} (h : n.natAbs ≤ 9223372036854775807) : -9223372036854775808 ≤ n ∧ n < 9223372036854775808 := by omega
set_option maxRecDepth 100000 in
theorem mdet_x (a b d : Int) (ha : a.natAbs ≤ 18446744073709551616) (hbb : b.natAbs ≤ 18446744073709551616) (hd : d.natAbs ≤ 18446744073709551616) (w : World) : Calls Try.prog 54 #[wz a, wz b, wz d] w fun e w' => e = .returned (wz (a * d - b * b)) ∧ Below w.heap.size w w' := by
  have h1 := mulB ha hd
  have h2 := mulB hbb hbb
  refine calls_pure (G := tys) w tysOK mixed Try.func54 (by rfl) (by first | rfl | (simp only [List.all_cons, List.all_nil, plain_wz, plain_lim, plain_wi]; rfl)) (by first | exact plain3_wz _ | exact plain3_wi _ _ _ | rfl | (simp only [plain3, List.all_cons, List.all_nil, plain_wz, plain_lim, plain_wi]; rfl)) ?_
  repeat' (refine N.go ?_; first | with_reducible refine N.obl (by decide) ?_ | with_reducible refine N.obl (flat_wi _ _ _) ?_ | with_reducible refine N.obl (flat_lim _ _) ?_ | with_reducible refine N.eq ?_ | with_reducible refine N.obl rfl ?_ | with_reducible refine N.obl ⟨by kernel_rfl, by kernel_rfl⟩ ?_ | with_reducible refine N.alt ?_ | with_reducible refine N.forkT ?_ | with_reducible refine N.forkF ?_ | with_reducible refine N.call (cMulz _ _ _ (zb (by omega)) (zb (by omega)) (zt (Nat.le_trans (by assumption) (by decide)))) ?_ | with_reducible refine N.call (cSubz _ _ _ (zt (Nat.le_trans h1 (by decide))) (zt (Nat.le_trans h2 (by decide))) (zt (by omega))) ?_)
  all_goals rfl
theorem cDetw (a b d : Int) (h : List (Option Chunk)) (ha : a.natAbs ≤ 18446744073709551616) (hbb : b.natAbs ≤ 18446744073709551616) (hd : d.natAbs ≤ 18446744073709551616) : CallOK Try.prog 54 [wz a, wz b, wz d] h (wz (a * d - b * b)) [] [] :=
  call_pure (by first | rfl | (simp only [List.all_cons, List.all_nil, plain_wz]; rfl)) (by first | rfl | exact plain3_wz _) (Try.call54 _) (mdet_x a b d ha hbb hd)
set_option maxRecDepth 100000 in
theorem Det_x (a b d : Int) (ha : a.natAbs ≤ 9223372036854775807) (hbb : b.natAbs ≤ 9223372036854775807) (hd : d.natAbs ≤ 9223372036854775807) (w : World) : Calls Try.prog 45 #[.agg #[.int .i64 a, .int .i64 b, .int .i64 d]] w fun e w' => e = .returned (wz (a * d - b * b)) ∧ Below w.heap.size w w' := by
  refine calls_pure (G := tys) w tysOK mixed Try.func45 (by rfl) (by first | rfl | (simp only [List.all_cons, List.all_nil, plain_wz, plain_lim, plain_wi]; rfl)) (by first | exact plain3_wz _ | exact plain3_wi _ _ _ | rfl | (simp only [plain3, List.all_cons, List.all_nil, plain_wz, plain_lim, plain_wi]; rfl)) ?_
  repeat' (refine N.go ?_; first | with_reducible refine N.obl (by decide) ?_ | with_reducible refine N.obl (flat_wi _ _ _) ?_ | with_reducible refine N.obl (flat_lim _ _) ?_ | with_reducible refine N.eq ?_ | with_reducible refine N.obl rfl ?_ | with_reducible refine N.obl ⟨by kernel_rfl, by kernel_rfl⟩ ?_ | with_reducible refine N.alt ?_ | with_reducible refine N.forkT ?_ | with_reducible refine N.forkF ?_ | with_reducible refine N.call (cOfz _ _ (by omega) (by omega)) ?_ | with_reducible refine N.call (cDetw _ _ _ _ (by omega) (by omega) (by omega)) ?_)
  all_goals rfl
theorem cDet (a b d : Int) (h : List (Option Chunk)) (ha : a.natAbs ≤ 9223372036854775807) (hbb : b.natAbs ≤ 9223372036854775807) (hd : d.natAbs ≤ 9223372036854775807) : CallOK Try.prog 45 [.agg #[.int .i64 a, .int .i64 b, .int .i64 d]] h (wz (a * d - b * b)) [] [] :=
  call_pure (by first | rfl | (simp only [List.all_cons, List.all_nil, plain_wz]; rfl)) (by first | rfl | exact plain3_wz _) (Try.call45 _) (Det_x a b d ha hbb hd)
set_option maxRecDepth 100000 in
theorem May_x (cx cy a b d : Int)  (w : World) : Calls Try.prog 27 #[.agg #[.int .i64 cx, .int .i64 cy, .int .i64 a, .int .i64 b, .int .i64 d]] w fun e w' => e = .returned (.bool (decide (mayP cx cy a b d))) ∧ Below w.heap.size w w' := by
  have s1 := sgn_pos (a * d - b * b)
  refine calls_pure (G := tys) w tysOK mixed Try.func27 (by rfl) (by first | rfl | (simp only [List.all_cons, List.all_nil, plain_wz, plain_lim, plain_wi]; rfl)) (by first | exact plain3_wz _ | exact plain3_wi _ _ _ | rfl | (simp only [plain3, List.all_cons, List.all_nil, plain_wz, plain_lim, plain_wi]; rfl)) ?_
  repeat' (refine N.go ?_; first | with_reducible refine N.obl (by decide) ?_ | with_reducible refine N.obl (flat_wi _ _ _) ?_ | with_reducible refine N.obl (flat_lim _ _) ?_ | with_reducible refine N.eq ?_ | with_reducible refine N.obl rfl ?_ | with_reducible refine N.obl ⟨by kernel_rfl, by kernel_rfl⟩ ?_ | with_reducible refine N.alt ?_ | with_reducible refine N.forkT ?_ | with_reducible refine N.forkF ?_ | with_reducible refine N.call (cMayPoint _ _ _) ?_ | with_reducible refine N.call (cDet _ _ _ _ (by simp only [decide_eq_true_eq, decide_eq_false_iff_not] at *; omega) (by simp only [decide_eq_true_eq, decide_eq_false_iff_not] at *; omega) (by simp only [decide_eq_true_eq, decide_eq_false_iff_not] at *; omega)) ?_ | with_reducible refine N.call (cSign _ _ (zt (by simp only [decide_eq_true_eq, decide_eq_false_iff_not] at *; have h1 := mulB (a := a) (b := d) (m := 70368744177664) (n := 70368744177664) (by omega) (by omega); have h2 := mulB (a := b) (b := b) (m := 70368744177664) (n := 70368744177664) (by omega) (by omega); omega))) ?_ | with_reducible refine N.fork (fun hb => ?_) (fun hb => ?_))
  all_goals
    refine boolD ?_
    simp only [decide_eq_true_eq, decide_eq_false_iff_not, Bool.false_eq_true, false_iff, true_iff, iff_true, iff_false, reduceCtorEq, not_true_eq_false, not_false_eq_true, ge_iff_le, gt_iff_lt] at *
    try simp only [withinP, psdP, mayP] at *
    omega
theorem cEMay (cx cy a b d : Int) (h : List (Option Chunk))  : CallOK Try.prog 27 [.agg #[.int .i64 cx, .int .i64 cy, .int .i64 a, .int .i64 b, .int .i64 d]] h (.bool (decide (mayP cx cy a b d))) [] [] :=
  call_pure (by first | rfl | (simp only [List.all_cons, List.all_nil, plain_wz]; rfl)) (by first | rfl | exact plain3_wz _) (Try.call27 _) (May_x cx cy a b d )
set_option maxRecDepth 100000 in
theorem may_b {cx cy a b d : Int} (h : mayP cx cy a b d) : (cx.natAbs ≤ 4194304 ∧ cy.natAbs ≤ 4194304) ∧ a.natAbs ≤ 140737488355328 ∧ b.natAbs ≤ 140737488355328 ∧ d.natAbs ≤ 140737488355328 := by
  unfold mayP withinP at h; omega
set_option maxRecDepth 100000 in
abbrev trP (cx cy a b d : Int) : Int := if mayP cx cy a b d then a + d else 0
theorem trP_b (cx cy a b d : Int) : (if mayP cx cy a b d then a + d else 0) < 9223372036854775808 := by
  split
  · rename_i hm; have := may_b hm; omega
  · omega
set_option maxRecDepth 100000 in
def mmayP (a b d : Int) : Prop := (-2305843009213693952 ≤ a ∧ a ≤ 2305843009213693952) ∧ (-2305843009213693952 ≤ b ∧ b ≤ 2305843009213693952) ∧ (-2305843009213693952 ≤ d ∧ d ≤ 2305843009213693952)
instance (a b d : Int) : Decidable (mmayP a b d) := by unfold mmayP; infer_instance
def leastP (a b d p q r : Int) : Prop := mmayP a b d ∧ mmayP p q r ∧ psdP (a - p) (b - q) (d - r)
instance (a b d p q r : Int) : Decidable (leastP a b d p q r) := by unfold leastP; infer_instance
set_option maxRecDepth 100000 in
def quadZ (a b d x y : Int) : Int := (a * (x * x) + d * (y * y)) + (b * (x * y) + b * (x * y))
set_option maxRecDepth 100000 in
theorem quad_nn {a b d x y : Int} (ha : 1 ≤ a) (hdet : 0 ≤ a * d - b * b) : 0 ≤ quadZ a b d x y := by
  have h1 : 0 ≤ (a * x + b * y) * (a * x + b * y) := by rcases Int.le_total 0 (a * x + b * y) with h | h; exact Int.mul_nonneg h h; exact Int.mul_nonneg_of_nonpos_of_nonpos h h
  have h2 : 0 ≤ (a * d - b * b) * (y * y) := Int.mul_nonneg hdet (by rcases Int.le_total 0 y with h | h; exact Int.mul_nonneg h h; exact Int.mul_nonneg_of_nonpos_of_nonpos h h)
  have e : a * quadZ a b d x y = (a * x + b * y) * (a * x + b * y) + (a * d - b * b) * (y * y) := by unfold quadZ; grind
  refine Int.not_lt.1 fun h => ?_
  have := Int.mul_neg_of_pos_of_neg (by omega : 0 < a) h
  omega
theorem quad_B {a b d x y : Int} (ha : a.natAbs ≤ 140737488355328) (hbb : b.natAbs ≤ 140737488355328) (hd : d.natAbs ≤ 140737488355328) (hx : x.natAbs ≤ 16777216) (hy : y.natAbs ≤ 16777216) : (quadZ a b d x y).natAbs ≤ 158456325028528675187087900672 := by
  have h1 := mulB hx hx
  have h2 := mulB hx hy
  have h3 := mulB hy hy
  have k1 := mulB ha h1
  have k2 := mulB hbb h2
  have k3 := mulB hd h3
  unfold quadZ; omega
def alongN (a b d x y : Int) : Nat := usq (quadZ a b d x y).toNat
set_option maxRecDepth 100000 in
theorem cMayPointz (x y x' y' : Int) (h : List (Option Chunk)) (e1 : x' = x) (e2 : y' = y) : CallOK Try.prog 43 [.agg #[.int .i64 x', .int .i64 y']] h (.bool (decide (withinP 4194304 x y))) [] [] := by
  subst e1 e2; exact cMayPoint x' y' h
end Go.Proofs.Ytpafcfelaaibgaa


/-
  The walk of Put.
-/
set_option linter.unusedVariables false
set_option linter.unusedSimpArgs false
namespace Go.Proofs.Ytpafcfelaaibgaa
open Go Go.RowKit Sx

abbrev elV (x y a b d : Int) : Value := .agg #[.int .i64 x, .int .i64 y, .int .i64 a, .int .i64 b, .int .i64 d]
abbrev timeP (t : Int) : Prop := 0 ≤ t ∧ t ≤ 1000000
def Ent.put (e : Ent) (x y a b d w : Int) : Ent := ⟨e.node, e.boot, e.heard, true, x, y, a, b, d, w⟩
set_option maxRecDepth 100000 in
set_option maxHeartbeats 2000000 in
theorem cPutN (T : Tbl) (n x y a b d w : Int) (hn : -9223372036854775808 ≤ n ∧ n ≤ 9223372036854775807) (hg : dGet T.E n = none) (i : Nat) (h : List (Option Chunk)) (hi : h[i]? = some (some (tblC T))) :
    CallOK Try.prog 16 [.pointer (some ⟨i, 0, some 0⟩), .int .i64 n, elV x y a b d, .int .i64 w] h (.int .i64 7) [(i, tblC (T))] [] := by
  refine call_res (G := tys) (livesOK T.lives) (tblH T) [⟨i, tblC T, tblC T, tblC (T)⟩] [] [.pointer (some ⟨0, 0, some 0⟩), .int .i64 n, elV x y a b d, .int .i64 w] tysOK mixed Try.func16 (by rfl) (Try.call16) ⟨hi, trivial⟩ ⟨⟨fun h => ⟨rfl, Nat.le_refl _⟩, Nat.le_refl _, fun j hj => absurd hj (Nat.not_lt_zero j)⟩, trivial⟩ (by simp [Apart]) ⟨.inr ⟨rfl, rfl⟩, trivial⟩ trivial ⟨.ptr rfl, .plain rfl, .plain rfl, .plain rfl, trivial⟩ pack_opens ?_
  intro β hβ
  repeat' (refine N.go ?_; first | with_reducible refine N.obl (by decide) ?_ | with_reducible refine N.obl (flat_wi _ _ _) ?_ | with_reducible refine N.obl (flat_lim _ _) ?_ | with_reducible refine N.eq ?_ | with_reducible refine N.obl rfl ?_ | with_reducible refine N.obl ⟨by kernel_rfl, by kernel_rfl⟩ ?_ | with_reducible refine N.alt ?_ | with_reducible refine N.forkT ?_ | with_reducible refine N.forkF ?_ | refine N_look entV T.E rfl Try.underlying64 Try.underlying3 Try.type36 rfl (.tuple ⟨[entV Ent.zero, .bool false]⟩) (by rw [hg]; rfl) rfl ?_ | refine tblClose (T) β 0 1 2 [] tbl_piece (fun i hi => .inl (by simpa using hi)) hβ (by rfl) (by rfl) (by rfl) (by rfl) (by rfl) (by rfl) (by rfl) (by rfl) (by rfl) (by decide) (fun k hk => by cases hk) safe0 (plain_sc rfl) ?_ | refine N.forkYes (show (!false) = true from rfl) ?_ | refine N.forkNo (show (!true) = false from rfl) ?_ | refine N.obl (.plain rfl) ?_ | refine N.obl ⟨⟨_, rfl, id, Nat.le_refl _, fun j hj => absurd hj (Nat.not_lt_zero j)⟩, trivial⟩ ?_ | refine N.obl trivial ?_ | refine N.obl ⟨⟨.inr ⟨_, rfl, rfl⟩, trivial⟩, trivial⟩ ?_ | exact N.true | fail_if_success skip)
set_option maxRecDepth 100000 in
set_option maxHeartbeats 2000000 in
theorem cPutB (T : Tbl) (n x y a b d w : Int) (hn : -9223372036854775808 ≤ n ∧ n ≤ 9223372036854775807) (e : Ent) (hg : dGet T.E n = some e) (hm : ¬ (mayP x y a b d ∧ timeP w)) (i : Nat) (h : List (Option Chunk)) (hi : h[i]? = some (some (tblC T))) :
    CallOK Try.prog 16 [.pointer (some ⟨i, 0, some 0⟩), .int .i64 n, elV x y a b d, .int .i64 w] h (.int .i64 1) [(i, tblC (T))] [] := by
  refine call_res (G := tys) (livesOK T.lives) (tblH T) [⟨i, tblC T, tblC T, tblC (T)⟩] [] [.pointer (some ⟨0, 0, some 0⟩), .int .i64 n, elV x y a b d, .int .i64 w] tysOK mixed Try.func16 (by rfl) (Try.call16) ⟨hi, trivial⟩ ⟨⟨fun h => ⟨rfl, Nat.le_refl _⟩, Nat.le_refl _, fun j hj => absurd hj (Nat.not_lt_zero j)⟩, trivial⟩ (by simp [Apart]) ⟨.inr ⟨rfl, rfl⟩, trivial⟩ trivial ⟨.ptr rfl, .plain rfl, .plain rfl, .plain rfl, trivial⟩ pack_opens ?_
  intro β hβ
  by_cases h1 : mayP x y a b d
  · have h2 : ¬ timeP w := fun h => hm ⟨h1, h⟩
    repeat' (refine N.go ?_; first | with_reducible refine N.obl (by decide) ?_ | with_reducible refine N.obl (flat_wi _ _ _) ?_ | with_reducible refine N.obl (flat_lim _ _) ?_ | with_reducible refine N.eq ?_ | with_reducible refine N.obl rfl ?_ | with_reducible refine N.obl ⟨by kernel_rfl, by kernel_rfl⟩ ?_ | with_reducible refine N.alt ?_ | with_reducible refine N.forkT ?_ | with_reducible refine N.forkF ?_ | refine N.forkNo (by rw [decide_eq_true h1]; rfl) ?_ | refine N.forkYes (by rw [decide_eq_false h2]; rfl) ?_ | refine N_look entV T.E rfl Try.underlying64 Try.underlying3 Try.type36 rfl (.tuple ⟨[entV e, .bool true]⟩) (by rw [hg]; rfl) rfl ?_ | refine N.call (cEMay x y a b d _) ?_ | refine N.call (cTtime w _) ?_ | refine tblClose (T) β 0 1 2 [] tbl_piece (fun i hi => .inl (by simpa using hi)) hβ (by rfl) (by rfl) (by rfl) (by rfl) (by rfl) (by rfl) (by rfl) (by rfl) (by rfl) (by decide) (fun k hk => by cases hk) safe0 (plain_sc rfl) ?_ | refine N.obl (.plain rfl) ?_ | refine N.obl ⟨⟨_, rfl, id, Nat.le_refl _, fun j hj => absurd hj (Nat.not_lt_zero j)⟩, trivial⟩ ?_ | refine N.obl trivial ?_ | refine N.obl ⟨⟨.inr ⟨_, rfl, rfl⟩, trivial⟩, trivial⟩ ?_ | exact N.true | refine N.forkYes (show (!false) = true from rfl) ?_ | refine N.forkNo (show (!true) = false from rfl) ?_ | fail_if_success skip)
  · repeat' (refine N.go ?_; first | with_reducible refine N.obl (by decide) ?_ | with_reducible refine N.obl (flat_wi _ _ _) ?_ | with_reducible refine N.obl (flat_lim _ _) ?_ | with_reducible refine N.eq ?_ | with_reducible refine N.obl rfl ?_ | with_reducible refine N.obl ⟨by kernel_rfl, by kernel_rfl⟩ ?_ | with_reducible refine N.alt ?_ | with_reducible refine N.forkT ?_ | with_reducible refine N.forkF ?_ | refine N.forkYes (by rw [decide_eq_false h1]; rfl) ?_ | refine N_look entV T.E rfl Try.underlying64 Try.underlying3 Try.type36 rfl (.tuple ⟨[entV e, .bool true]⟩) (by rw [hg]; rfl) rfl ?_ | refine N.call (cEMay x y a b d _) ?_ | refine N.call (cTtime w _) ?_ | refine tblClose (T) β 0 1 2 [] tbl_piece (fun i hi => .inl (by simpa using hi)) hβ (by rfl) (by rfl) (by rfl) (by rfl) (by rfl) (by rfl) (by rfl) (by rfl) (by rfl) (by decide) (fun k hk => by cases hk) safe0 (plain_sc rfl) ?_ | refine N.obl (.plain rfl) ?_ | refine N.obl ⟨⟨_, rfl, id, Nat.le_refl _, fun j hj => absurd hj (Nat.not_lt_zero j)⟩, trivial⟩ ?_ | refine N.obl trivial ?_ | refine N.obl ⟨⟨.inr ⟨_, rfl, rfl⟩, trivial⟩, trivial⟩ ?_ | exact N.true | refine N.forkYes (show (!false) = true from rfl) ?_ | refine N.forkNo (show (!true) = false from rfl) ?_ | fail_if_success skip)
set_option maxRecDepth 100000 in
set_option maxHeartbeats 2000000 in
theorem cPutY (T : Tbl) (n x y a b d w : Int) (hn : -9223372036854775808 ≤ n ∧ n ≤ 9223372036854775807) (e : Ent) (hg : dGet T.E n = some e) (hm : mayP x y a b d) (hw : timeP w) (i : Nat) (h : List (Option Chunk)) (hi : h[i]? = some (some (tblC T))) :
    CallOK Try.prog 16 [.pointer (some ⟨i, 0, some 0⟩), .int .i64 n, elV x y a b d, .int .i64 w] h (.int .i64 0) [(i, tblC (⟨T.most, dPut T.E n (e.put x y a b d w), T.lives⟩))] [] := by
  refine call_res (G := tys) (livesOK T.lives) (tblH T) [⟨i, tblC T, tblC T, tblC (⟨T.most, dPut T.E n (e.put x y a b d w), T.lives⟩)⟩] [] [.pointer (some ⟨0, 0, some 0⟩), .int .i64 n, elV x y a b d, .int .i64 w] tysOK mixed Try.func16 (by rfl) (Try.call16) ⟨hi, trivial⟩ ⟨⟨fun h => ⟨rfl, Nat.le_refl _⟩, Nat.le_refl _, fun j hj => absurd hj (Nat.not_lt_zero j)⟩, trivial⟩ (by simp [Apart]) ⟨.inr ⟨rfl, rfl⟩, trivial⟩ trivial ⟨.ptr rfl, .plain rfl, .plain rfl, .plain rfl, trivial⟩ pack_opens ?_
  intro β hβ
  repeat' (refine N.go ?_; first | with_reducible refine N.obl (by decide) ?_ | with_reducible refine N.obl (flat_wi _ _ _) ?_ | with_reducible refine N.obl (flat_lim _ _) ?_ | with_reducible refine N.eq ?_ | with_reducible refine N.obl rfl ?_ | with_reducible refine N.obl ⟨by kernel_rfl, by kernel_rfl⟩ ?_ | with_reducible refine N.alt ?_ | with_reducible refine N.forkT ?_ | with_reducible refine N.forkF ?_ | refine N.forkNo (by rw [decide_eq_true hm]; rfl) ?_ | refine N.forkNo (by rw [decide_eq_true hw]; rfl) ?_ | refine N_look entV T.E rfl Try.underlying64 Try.underlying3 Try.type36 rfl (.tuple ⟨[entV e, .bool true]⟩) (by rw [hg]; rfl) rfl ?_ | refine N.call (cEMay x y a b d _) ?_ | refine N.call (cTtime w _) ?_ | refine N_put entV T.E (e.put x y a b d w) rfl rfl hn rfl Try.underlying64 Try.underlying3 ?_ | refine tblClose (⟨T.most, dPut T.E n (e.put x y a b d w), T.lives⟩) β 0 1 2 [] tbl_piece (fun i hi => .inl (by simpa using hi)) hβ (by rfl) (by rfl) (by rfl) (by rfl) (by rfl) (by rfl) (by rfl) (by rfl) (by rfl) (by decide) (fun k hk => by cases hk) safe0 (plain_sc rfl) ?_ | refine N.forkYes (show (!false) = true from rfl) ?_ | refine N.forkNo (show (!true) = false from rfl) ?_ | refine N.obl (.plain rfl) ?_ | refine N.obl ⟨⟨_, rfl, id, Nat.le_refl _, fun j hj => absurd hj (Nat.not_lt_zero j)⟩, trivial⟩ ?_ | refine N.obl trivial ?_ | refine N.obl ⟨⟨.inr ⟨_, rfl, rfl⟩, trivial⟩, trivial⟩ ?_ | exact N.true | fail_if_success skip)
end Go.Proofs.Ytpafcfelaaibgaa


/-
  Numbers by words of 32 bits: plain laws.
-/
set_option linter.unusedVariables false
namespace Go.Proofs.Ytpafcfelaaibgaa
/-- The words of 32 bits of a number. -/
def bw (i : Nat) : Nat := 4294967296 ^ i
theorem bw_succ (i : Nat) : bw (i + 1) = bw i * 4294967296 := Nat.pow_succ ..
theorem bw_pos (i : Nat) : 0 < bw i := Nat.pow_pos (by decide)
theorem bw_zero : bw 0 = 1 := rfl
theorem bw_one : bw 1 = 4294967296 := rfl
theorem bw_add (i j : Nat) : bw (i + j) = bw i * bw j := Nat.pow_add ..
theorem bw_mono {i j : Nat} (h : i ≤ j) : bw i ≤ bw j := Nat.pow_le_pow_right (by decide) h
def lm (v j : Nat) : Nat := v / bw j % 4294967296
theorem lm_lt (v j : Nat) : lm v j < 4294967296 := Nat.mod_lt _ (by decide)
theorem lm_big {v j : Nat} (h : v < bw j) : lm v j = 0 := by unfold lm; rw [Nat.div_eq_of_lt h]
/-- What lies above a word: one more word. -/
theorem up_word (v j : Nat) : v / bw j = v / bw (j + 1) * 4294967296 + lm v j := by
  unfold lm
  rw [bw_succ, ← Nat.div_div_eq_div_mul]
  have := Nat.div_add_mod (v / bw j) 4294967296
  omega
theorem low_word (v j : Nat) : v % bw (j + 1) = v % bw j + lm v j * bw j := by
  unfold lm
  rw [bw_succ, Nat.mod_mul, Nat.mul_comm (bw j)]
theorem lm_mod {v i j : Nat} (h : j < i) : lm (v % bw i) j = lm v j := by
  unfold lm
  obtain ⟨d, rfl⟩ : ∃ d, i = j + 1 + d := ⟨i - (j + 1), by omega⟩
  rw [bw_add, bw_succ, Nat.mul_assoc, Nat.mod_mul_right_div_self, Nat.mod_mul_right_mod]
theorem lm_add {v j : Nat} (u : Nat) {i : Nat} (h : j < i) : lm (v + u * bw i) j = lm v j := by
  rw [← lm_mod h (v := v + u * bw i), Nat.add_mul_mod_self_right, lm_mod h]
def nl : Nat → Nat
  | 0 => 0
  | v + 1 => nl ((v + 1) / 4294967296) + 1
decreasing_by exact Nat.div_lt_self (by omega) (by decide)
theorem nl_zero : nl 0 = 0 := by unfold nl; rfl
theorem nl_pos {v : Nat} (h : 0 < v) : nl v = nl (v / 4294967296) + 1 := by
  obtain ⟨u, rfl⟩ : ∃ u, v = u + 1 := ⟨v - 1, by omega⟩
  rw [nl]
theorem nl_le : ∀ {n v : Nat}, nl v ≤ n ↔ v < bw n
  | 0, v => by
    rw [bw_zero]
    rcases Nat.eq_zero_or_pos v with rfl | h
    · rw [nl_zero]; simp
    · rw [nl_pos h]; omega
  | n + 1, v => by
    rcases Nat.eq_zero_or_pos v with rfl | h
    · rw [nl_zero]; exact ⟨fun _ => bw_pos _, fun _ => Nat.zero_le _⟩
    · rw [nl_pos h, bw_succ]
      have ih := nl_le (n := n) (v := v / 4294967296)
      rw [Nat.div_lt_iff_lt_mul (by decide)] at ih
      rw [← ih]; omega
theorem nl_self (v : Nat) : v < bw (nl v) := nl_le.1 (Nat.le_refl _)
theorem nl_eq {v n : Nat} (h1 : v < bw (n + 1)) (h2 : bw n ≤ v) : nl v = n + 1 := by
  have := nl_le.2 h1
  have h3 : ¬ nl v ≤ n := fun h => by have := nl_le.1 h; omega
  omega
theorem nl_zero_iff {v : Nat} : nl v = 0 ↔ v = 0 := by
  constructor
  · intro h
    have := nl_le.1 (Nat.le_of_eq h)
    rw [bw_zero] at this; omega
  · rintro rfl; exact nl_zero
/-- The last word of a number that is not trimmed. -/
theorem trim_word {v l : Nat} (h : v < bw (l + 1)) : lm v l = 0 ↔ v < bw l := by
  constructor
  · intro h1
    have := up_word v l
    rw [Nat.div_eq_of_lt h, h1] at this
    rcases Nat.lt_or_ge v (bw l) with h2 | h2
    · exact h2
    · have := (Nat.le_div_iff_mul_le (bw_pos l)).2 (by rw [Nat.one_mul]; exact h2)
      omega
  · exact lm_big
theorem top_word {v : Nat} (h : 0 < v) : lm v (nl v - 1) ≠ 0 := by
  have h0 : nl v ≠ 0 := fun e => by have := nl_zero_iff.1 e; omega
  have h1 := nl_self v
  rw [show nl v = nl v - 1 + 1 from by omega] at h1
  intro e
  have := nl_le.2 ((trim_word h1).1 e)
  omega
/-- One word more of a number times a word. -/
theorem mul_word (a y i : Nat) (hy : y < 4294967296) :
    let S := a % bw i * y; let t := lm a i * y + lm S i
    (∀ j, j < i → lm (a % bw (i + 1) * y) j = lm S j) ∧ lm (a % bw (i + 1) * y) i = t % 4294967296 ∧ lm (a % bw (i + 1) * y) (i + 1) = t / 4294967296 ∧ t < 18446744073709551616 ∧ (∀ j, i + 1 < j → lm (a % bw (i + 1) * y) j = 0) := by
  intro S t
  have hS : S < bw (i + 1) := by
    rw [bw_succ]
    exact Nat.lt_of_le_of_lt (Nat.mul_le_mul_left _ (Nat.le_of_lt hy)) (Nat.mul_lt_mul_of_pos_right (Nat.mod_lt _ (bw_pos i)) (by decide))
  have hT : a % bw (i + 1) * y = S + lm a i * y * bw i := by
    rw [low_word, Nat.add_mul, Nat.mul_right_comm]
  have hx := lm_lt a i
  have hSi := lm_lt S i
  have hxy : lm a i * y ≤ 4294967295 * 4294967295 := Nat.mul_le_mul (by omega) (by omega)
  have hd : (a % bw (i + 1) * y) / bw i = t := by
    rw [hT, Nat.add_mul_div_right _ _ (bw_pos i), up_word S i, Nat.div_eq_of_lt hS]
    omega
  refine ⟨fun j hj => ?_, ?_, ?_, by omega, fun j hj => ?_⟩
  · rw [hT]; exact lm_add _ hj
  · show (a % bw (i + 1) * y) / bw i % 4294967296 = _; rw [hd]
  · show (a % bw (i + 1) * y) / bw (i + 1) % 4294967296 = _
    rw [bw_succ i, ← Nat.div_div_eq_div_mul, ← bw_succ, hd]
    exact Nat.mod_eq_of_lt (by omega)
  · apply lm_big
    have h1 : a % bw (i + 1) * y < bw (i + 1) * 4294967296 :=
      Nat.lt_of_le_of_lt (Nat.mul_le_mul_left _ (Nat.le_of_lt hy)) (Nat.mul_lt_mul_of_pos_right (Nat.mod_lt _ (bw_pos _)) (by decide))
    rw [← bw_succ] at h1
    exact Nat.lt_of_lt_of_le h1 (bw_mono (by omega))
/-- One word of a quotient by a word. -/
theorem div_word (v b i : Nat) (hb : 0 < b) (hb1 : b < 4294967296) :
    let r := v / bw (i + 1) % b; let t := r * 4294967296 + lm v i
    lm (v / b) i = t / b ∧ v / bw i % b = t % b ∧ t < b * 4294967296 ∧ t / b < 4294967296 := by
  intro r t
  have hr : r < b := Nat.mod_lt _ hb
  have hx := lm_lt v i
  have ht : t < b * 4294967296 := by
    have : (r + 1) * 4294967296 ≤ b * 4294967296 := Nat.mul_le_mul_right _ hr
    omega
  have hq : t / b < 4294967296 := (Nat.div_lt_iff_lt_mul hb).2 (by rw [Nat.mul_comm]; exact ht)
  have he : v / bw i = v / bw (i + 1) / b * 4294967296 * b + t := by
    have h1 := Nat.div_add_mod (v / bw (i + 1)) b
    rw [up_word v i]
    have h2 : v / bw (i + 1) = v / bw (i + 1) / b * b + r := by rw [Nat.mul_comm]; exact h1.symm
    have h3 : v / bw (i + 1) / b * 4294967296 * b = v / bw (i + 1) / b * b * 4294967296 := Nat.mul_right_comm _ _ _
    rw [h3]
    generalize v / bw (i + 1) / b * b = q at h2 ⊢
    omega
  refine ⟨?_, ?_, ht, hq⟩
  · unfold lm
    rw [Nat.div_div_eq_div_mul, Nat.mul_comm, ← Nat.div_div_eq_div_mul, he, Nat.add_comm, Nat.add_mul_div_right _ _ hb, Nat.add_mul_mod_self_right]
    exact Nat.mod_eq_of_lt hq
  · rw [he, Nat.add_comm, Nat.add_mul_mod_self_right]
/-- One word of a sum. -/
theorem add_word (a b i : Nat) :
    let c := (a % bw i + b % bw i) / bw i; let t := c + lm a i + lm b i
    lm (a + b) i = t % 4294967296 ∧ (a % bw (i + 1) + b % bw (i + 1)) / bw (i + 1) = t / 4294967296 ∧ c ≤ 1 := by
  intro c t
  have hp := bw_pos i
  have hc : c ≤ 1 := by
    have h1 := Nat.mod_lt a hp
    have h2 := Nat.mod_lt b hp
    have : c < 2 := (Nat.div_lt_iff_lt_mul hp).2 (by omega)
    omega
  have he : (a + b) / bw i = c + a / bw i + b / bw i := by
    have h1 := Nat.div_add_mod a (bw i)
    have h2 := Nat.div_add_mod b (bw i)
    have h3 : a + b = (a % bw i + b % bw i) + (a / bw i + b / bw i) * bw i := by
      rw [Nat.add_mul, Nat.mul_comm (a / bw i), Nat.mul_comm (b / bw i)]; omega
    rw [h3, Nat.add_mul_div_right _ _ hp]; omega
  refine ⟨?_, ?_, hc⟩
  · show (a + b) / bw i % 4294967296 = (c + a / bw i % 4294967296 + b / bw i % 4294967296) % 4294967296
    rw [he]; omega
  · have h1 : (a % bw (i + 1) + b % bw (i + 1)) = (a % bw i + b % bw i) + (lm a i + lm b i) * bw i := by
      rw [low_word, low_word, Nat.add_mul]; omega
    rw [h1, bw_succ, ← Nat.div_div_eq_div_mul, Nat.add_mul_div_right _ _ hp]
    congr 1
    show c + _ = _
    omega
end Go.Proofs.Ytpafcfelaaibgaa


/-
  The walks of the document's numbers: trim, bits, cmp.
-/
set_option linter.unusedVariables false
set_option linter.unusedSimpArgs false
namespace Go.Proofs.Ytpafcfelaaibgaa
open Go Go.RowKit Sx

theorem i64n (n : Int) (h0 : -9223372036854775808 ≤ n) (h1 : n < 9223372036854775808) : IntKind.i64.wrap n = n := by rw [IntKind.wrap_i64]; omega
theorem re_eqn {ix : List (Nat × Nat)} {v u : Value} (h : v = u) (hp : plain3 v = true) : Re ix v u := by subst h; exact .plain hp
theorem inteq {k : IntKind} {a b : Int} (h : a = b) : Value.int k a = .int k b := by rw [h]
theorem re_sl {ix : List (Nat × Nat)} {i k l l' c : Nat} (h : ixK ix k = some i) (e : l = l') : Re ix (.slice (some ⟨i, 0, some 0⟩) l c) (.slice (some ⟨k, 0, some 0⟩) l' c) := by subst e; exact .one (.slice h)
theorem MakeN.mk1 {a b : Int} {bytes size : Nat} {K : Nat → Nat → Prop} {K0 : Prop} (n m : Nat) (ha : a = (n : Nat)) (hb : b = (n : Nat)) (h1 : bytes * n ≤ 281474976710656) (h2 : n ≤ 9223372036854775807) (hm : m = n * size) (k : K n m) : N (MakeN a b bytes size K K0) := N.mk (.inl ⟨n, m, ha, hb, h1, h2, hm, k⟩)
/-- Words of a number, m of them. -/
abbrev numC (o : Bool) (m v : Nat) : Chunk := ⟨o, m, [(0, m, .agg ⟨segL m (fun j => .int .u32 ((lm v j : Nat) : Int))⟩)]⟩
/-- A stretch that holds the words of a number. -/
def IsNum (c : Chunk) (m v : Nat) : Prop := c.n = m ∧ ∀ j, j < m → c.f j = .int .u32 ((lm v j : Nat) : Int)
theorem isNum (o : Bool) (m v : Nat) : IsNum (numC o m v) m v := ⟨rfl, fun j hj => seg_cell hj⟩
theorem num_re {ix : List (Nat × Nat)} {c : Chunk} {o : Bool} {m v : Nat} (hc : IsNum c m v) : ChunkRe ix c (numC o m v) := fun j hj => by
  have hj : j < m := hj
  rw [seg_cell hj, hc.2 j hj]; exact .plain rfl
theorem reads_num {o : Bool} {m v p q : Nat} (h : p < m) (e : q = p) : Reads (numC o m v) q false 1 (.int .u32 ((lm v p : Nat) : Int)) := by
  subst e; exact reads_seg1 h rfl rfl
theorem N.bnd {lo hi : Option Value} {len cap : Nat} {K : Nat → Nat → Nat → Prop} (p q s : Nat) (h1 : Bnd hi len cap q) (h2 : Bnd lo 0 q p) (k : K p q s) : N (BndN lo hi len cap K) := N.mk ⟨p, q, s, h1, h2, k⟩
theorem sl_cut {i m x y : Nat} (h : y = x) : Value.slice (some ⟨i, 0 + (if m = 0 then 0 else 0 * 1), some 0⟩) (y - 0) (m - 0) = .slice (some ⟨i, 0, some 0⟩) x m := by
  subst h; simp
set_option maxRecDepth 100000 in
set_option maxHeartbeats 2000000 in
theorem cTrim (v m l i : Nat) (o : Chunk) (h : List (Option Chunk)) (hi : h[i]? = some (some o)) (hin : IsNum o m v) (hl : l ≤ m) (hm : m ≤ 1000000) (hv : v < bw l) :
    CallOK Try.prog 67 [.slice (some ⟨i, 0, some 0⟩) l m] h (.slice (some ⟨i, 0, some 0⟩) (nl v) m) [] [i] := by
  refine call_sub (G := tys) [⟨i, _, numC false m v, ⟨false, 0, []⟩⟩] [] [.slice (some ⟨0, 0, some 0⟩) l m] tysOK mixed Try.func67 (by rfl) (Try.call67) ⟨hi, trivial⟩ ⟨⟨fun h => (by cases h), Nat.le_of_eq hin.1.symm, num_re hin⟩, trivial⟩ (by simp [Apart]) trivial ⟨.slice rfl, trivial⟩ ?_
  repeat' (refine N.go ?_; first | with_reducible refine N.obl (by decide) ?_ | with_reducible refine N.obl (flat_wi _ _ _) ?_ | with_reducible refine N.obl (flat_lim _ _) ?_ | with_reducible refine N.eq ?_ | with_reducible refine N.obl rfl ?_ | with_reducible refine N.obl ⟨by kernel_rfl, by kernel_rfl⟩ ?_ | with_reducible refine N.alt ?_ | with_reducible refine N.forkT ?_ | with_reducible refine N.forkF ?_ | fail_if_success skip)
  refine N.go ?_
  refine N.loop (α := Nat) (fun x => x ≤ l ∧ v < bw x) (fun x => x) (fun x => [(0, .slice (some ⟨0, 0, some 0⟩) x m)]) (fun _ => []) l ⟨Nat.le_refl _, hv⟩ ?_ ?_
  · repeat (refine N.go ?_; first | exact N.true | with_reducible refine N.obl rfl ?_ | with_reducible refine N.obl (ChunkLe.refl _) ?_ | refine N.obl (int_i64 (by rw [IntWalk.i64_in _ (by omega)]; rfl)) ?_ |  fail_if_success skip)
  · intro x hx
    obtain ⟨x1, x2⟩ := hx
    rcases Nat.eq_zero_or_pos x with rfl | hp
    · have hv0 : v = 0 := by rw [bw_zero] at x2; omega
      subst hv0
      repeat' (refine N.go ?_; first | with_reducible refine N.obl (by decide) ?_ | with_reducible refine N.obl (flat_wi _ _ _) ?_ | with_reducible refine N.obl (flat_lim _ _) ?_ | with_reducible refine N.eq ?_ | with_reducible refine N.obl rfl ?_ | with_reducible refine N.obl ⟨by kernel_rfl, by kernel_rfl⟩ ?_ | with_reducible refine N.alt ?_ | with_reducible refine N.forkT ?_ | with_reducible refine N.forkF ?_ | refine N.forkNo (by decide) ?_ | refine N.forkYes (by decide) ?_ | refine N.obl (re_sl (by rfl) nl_zero) ?_ | refine N.obl trivial ?_ | exact N.true | fail_if_success skip)
    · obtain ⟨y, rfl⟩ : ∃ y, x = y + 1 := ⟨x - 1, by omega⟩
      have e1 : IntKind.i64.wrap (((y + 1 : Nat) : Int) - 1) = (y : Int) := by rw [i64n _ (by omega) (by omega)]; omega
      by_cases h0 : lm v y = 0
      · have x3 := (trim_word x2).1 h0
        repeat' (refine N.go ?_; first | with_reducible refine N.obl (by decide) ?_ | with_reducible refine N.obl (flat_wi _ _ _) ?_ | with_reducible refine N.obl (flat_lim _ _) ?_ | with_reducible refine N.eq ?_ | with_reducible refine N.obl rfl ?_ | with_reducible refine N.obl ⟨by kernel_rfl, by kernel_rfl⟩ ?_ | with_reducible refine N.alt ?_ | with_reducible refine N.forkT ?_ | with_reducible refine N.forkF ?_ | refine N.idx y 1 e1 (by omega) ?_ | refine N.load _ (reads_num (p := y) (by omega) (by omega)) ?_ | refine N.forkYes (by rw [h0]; rfl) ?_ | refine N.forkYes (by rw [decide_eq_true_eq]; omega) ?_ | refine N.bnd 0 y 0 ⟨e1, by omega⟩ rfl ?_ | fail_if_success skip)
        refine N.go ?_
        refine N.next y ⟨⟨by omega, x3⟩, by omega⟩ ?_
        repeat (refine N.go ?_; first | exact N.true | with_reducible refine N.obl rfl ?_ | with_reducible refine N.obl (ChunkLe.refl _) ?_ | refine N.obl (int_i64 (by rw [IntWalk.i64_in _ (by omega)]; rfl)) ?_ | refine N.obl (sl_cut rfl) ?_ |  fail_if_success skip)
      · have x3 : nl v = y + 1 := nl_eq x2 (by rcases Nat.lt_or_ge v (bw y) with h | h; exact absurd (lm_big h) h0; exact h)
        repeat' (refine N.go ?_; first | with_reducible refine N.obl (by decide) ?_ | with_reducible refine N.obl (flat_wi _ _ _) ?_ | with_reducible refine N.obl (flat_lim _ _) ?_ | with_reducible refine N.eq ?_ | with_reducible refine N.obl rfl ?_ | with_reducible refine N.obl ⟨by kernel_rfl, by kernel_rfl⟩ ?_ | with_reducible refine N.alt ?_ | with_reducible refine N.forkT ?_ | with_reducible refine N.forkF ?_ | refine N.idx y 1 e1 (by omega) ?_ | refine N.load _ (reads_num (p := y) (by omega) (by omega)) ?_ | refine N.forkNo (by rw [beq_eq_false_iff_ne]; omega) ?_ | refine N.forkYes (by rw [decide_eq_true_eq]; omega) ?_ | refine N.obl (re_sl (by rfl) x3) ?_ | refine N.obl trivial ?_ | exact N.true | fail_if_success skip)
/-- How many bits a word has. -/
def bn : Nat → Nat
  | 0 => 0
  | v + 1 => bn ((v + 1) / 2) + 1
decreasing_by exact Nat.div_lt_self (by omega) (by decide)
theorem bn_zero : bn 0 = 0 := by unfold bn; rfl
theorem bn_pos {v : Nat} (h : 0 < v) : bn v = bn (v / 2) + 1 := by
  obtain ⟨u, rfl⟩ : ∃ u, v = u + 1 := ⟨v - 1, by omega⟩
  rw [bn]
theorem bn_le : ∀ (n v : Nat), v < 2 ^ n → bn v ≤ n
  | 0, v, h => by
    obtain rfl : v = 0 := by simpa using h
    rw [bn_zero]; exact Nat.le_refl _
  | n + 1, v, h => by
    rcases Nat.eq_zero_or_pos v with rfl | hv
    · rw [bn_zero]; exact Nat.zero_le _
    · rw [bn_pos hv]
      have := bn_le n (v / 2) (by rw [Nat.pow_succ] at h; omega)
      omega
theorem fd1 (n : Nat) : ((n : Nat) : Int).fdiv (2 ^ sh 1 IntKind.u32) = ((n / 2 : Nat) : Int) := by
  rw [show sh 1 IntKind.u32 = 1 from by decide, Int.fdiv_eq_ediv_of_nonneg _ (by decide)]; omega
theorem fd32 (n : Nat) : ((n : Nat) : Int).fdiv (2 ^ sh 32 IntKind.u64) = ((n / 4294967296 : Nat) : Int) := by
  rw [show sh 32 IntKind.u64 = 32 from by decide, Int.fdiv_eq_ediv_of_nonneg _ (by decide)]; omega
def bitn (v : Nat) : Nat := if v = 0 then 0 else 32 * (nl v - 1) + bn (lm v (nl v - 1))
theorem bitn_le (v : Nat) : bitn v ≤ 32 * nl v := by
  unfold bitn
  split
  · exact Nat.zero_le _
  · rename_i h
    have h0 : nl v ≠ 0 := fun e => h (nl_zero_iff.1 e)
    have := bn_le 32 (lm v (nl v - 1)) (lm_lt v _)
    omega
set_option maxRecDepth 100000 in
set_option maxHeartbeats 2000000 in
theorem cBits32 (v m i : Nat) (o : Chunk) (h : List (Option Chunk)) (hi : h[i]? = some (some o)) (hin : IsNum o m v) (hl : nl v ≤ m) (hm : m ≤ 1000000) :
    CallOK Try.prog 68 [.slice (some ⟨i, 0, some 0⟩) (nl v) m] h (.int .i64 (bitn v : Nat)) [] [i] := by
  refine call_sub (G := tys) [⟨i, _, numC false m v, ⟨false, 0, []⟩⟩] [] [.slice (some ⟨0, 0, some 0⟩) (nl v) m] tysOK mixed Try.func68 (by rfl) (Try.call68) ⟨hi, trivial⟩ ⟨⟨fun h => (by cases h), Nat.le_of_eq hin.1.symm, num_re hin⟩, trivial⟩ (by simp [Apart]) trivial ⟨.slice rfl, trivial⟩ ?_
  rcases Nat.eq_zero_or_pos v with rfl | hp
  · rw [nl_zero]
    repeat' (refine N.go ?_; first | with_reducible refine N.obl (by decide) ?_ | with_reducible refine N.obl (flat_wi _ _ _) ?_ | with_reducible refine N.obl (flat_lim _ _) ?_ | with_reducible refine N.eq ?_ | with_reducible refine N.obl rfl ?_ | with_reducible refine N.obl ⟨by kernel_rfl, by kernel_rfl⟩ ?_ | with_reducible refine N.alt ?_ | with_reducible refine N.forkT ?_ | with_reducible refine N.forkF ?_ | refine N.forkNo (by decide) ?_ | refine N.forkYes (by decide) ?_ | refine N.obl (re_eqn (inteq (by decide)) rfl) ?_ | refine N.obl trivial ?_ | exact N.true | fail_if_success skip)
  · have h0 : nl v ≠ 0 := fun e => by have := nl_zero_iff.1 e; omega
    have hbv : bitn v = 32 * (nl v - 1) + bn (lm v (nl v - 1)) := by unfold bitn; rw [if_neg (by omega)]
    have htop := lm_lt v (nl v - 1)
    obtain ⟨y, hy⟩ : ∃ y, nl v = y + 1 := ⟨nl v - 1, by omega⟩
    rw [hy] at hbv htop
    rw [show y + 1 - 1 = y from by omega] at hbv htop
    rw [hbv, hy]
    rw [hy] at hl
    generalize hT : lm v y = T at *
    have hbT := bn_le 32 T htop
    have e1 : IntKind.i64.wrap (((y + 1 : Nat) : Int) - 1) = (y : Int) := by rw [i64n _ (by omega) (by omega)]; omega
    repeat' (refine N.go ?_; first | with_reducible refine N.obl (by decide) ?_ | with_reducible refine N.obl (flat_wi _ _ _) ?_ | with_reducible refine N.obl (flat_lim _ _) ?_ | with_reducible refine N.eq ?_ | with_reducible refine N.obl rfl ?_ | with_reducible refine N.obl ⟨by kernel_rfl, by kernel_rfl⟩ ?_ | with_reducible refine N.alt ?_ | with_reducible refine N.forkT ?_ | with_reducible refine N.forkF ?_ | refine N.forkNo (by rw [beq_eq_false_iff_ne]; omega) ?_ | refine N.idx y 1 e1 (by omega) ?_ | refine N.load _ (reads_num (p := y) (by omega) (by omega)) ?_ | fail_if_success skip)
    refine N.go ?_
    refine N.loop (α := Nat) (fun x => x < 4294967296 ∧ bn x ≤ bn T) (fun x => x) (fun x => [(3, .int .i64 ((32 * y + (bn T - bn x) : Nat) : Int)), (4, .int .u32 (x : Int))]) (fun _ => []) T ⟨htop, Nat.le_refl _⟩ ?_ ?_
    · repeat (refine N.go ?_; first | exact N.true | with_reducible refine N.obl rfl ?_ | with_reducible refine N.obl (ChunkLe.refl _) ?_ | refine N.obl (int_i64 (by rw [IntWalk.i64_in _ (by omega)]; rfl)) ?_ | refine N.obl (inteq (by rw [e1, i64n _ (by omega) (by omega)]; omega)) ?_ | refine N.obl (inteq (by rw [hT])) ?_ |  fail_if_success skip)
    · intro x hx
      obtain ⟨x1, x2⟩ := hx
      rcases Nat.eq_zero_or_pos x with rfl | hp
      · repeat' (refine N.go ?_; first | with_reducible refine N.obl (by decide) ?_ | with_reducible refine N.obl (flat_wi _ _ _) ?_ | with_reducible refine N.obl (flat_lim _ _) ?_ | with_reducible refine N.eq ?_ | with_reducible refine N.obl rfl ?_ | with_reducible refine N.obl ⟨by kernel_rfl, by kernel_rfl⟩ ?_ | with_reducible refine N.alt ?_ | with_reducible refine N.forkT ?_ | with_reducible refine N.forkF ?_ | refine N.forkNo (by decide) ?_ | refine N.forkYes (by decide) ?_ | refine N.obl (re_eqn (inteq (by rw [bn_zero]; omega)) rfl) ?_ | refine N.obl trivial ?_ | exact N.true | fail_if_success skip)
      · have e2 := bn_pos hp
        repeat' (refine N.go ?_; first | with_reducible refine N.obl (by decide) ?_ | with_reducible refine N.obl (flat_wi _ _ _) ?_ | with_reducible refine N.obl (flat_lim _ _) ?_ | with_reducible refine N.eq ?_ | with_reducible refine N.obl rfl ?_ | with_reducible refine N.obl ⟨by kernel_rfl, by kernel_rfl⟩ ?_ | with_reducible refine N.alt ?_ | with_reducible refine N.forkT ?_ | with_reducible refine N.forkF ?_ | refine N.forkNo (by simp; omega) ?_ | refine N.forkYes (by simp; omega) ?_ | fail_if_success skip)
        refine N.go ?_
        refine N.next (x / 2) ⟨⟨by omega, by omega⟩, by omega⟩ ?_
        repeat (refine N.go ?_; first | exact N.true | with_reducible refine N.obl rfl ?_ | with_reducible refine N.obl (ChunkLe.refl _) ?_ | refine N.obl (int_i64 (by rw [IntWalk.i64_in _ (by omega)]; rfl)) ?_ | refine N.obl (inteq (fd1 x)) ?_ | refine N.obl (inteq (by rw [i64n _ (by omega) (by omega)]; omega)) ?_ |  fail_if_success skip)
theorem cmp_word {a b y : Nat} (h : a / bw (y + 1) = b / bw (y + 1)) : (lm a y < lm b y → a < b) ∧ (lm a y = lm b y → a / bw y = b / bw y) := by
  have h1 := up_word a y
  have h2 := up_word b y
  refine ⟨fun h3 => ?_, fun h3 => by omega⟩
  have h4 : a / bw y < b / bw y := by omega
  rcases Nat.lt_or_ge a b with h5 | h5
  · exact h5
  · have := Nat.div_le_div_right (c := bw y) h5; omega
theorem nl_lt {a b : Nat} (h : nl a < nl b) : a < b := by
  have h1 := nl_self a
  rcases Nat.lt_or_ge b (bw (nl a)) with h2 | h2
  · have := nl_le.2 h2; omega
  · omega
def cmpN (a b : Nat) : Int := if a < b then -1 else if a = b then 0 else 1
set_option maxRecDepth 100000 in
set_option maxHeartbeats 2000000 in
theorem cCmp (a b m q i j : Nat) (o o2 : Chunk) (h : List (Option Chunk)) (hi : h[i]? = some (some o)) (hin : IsNum o m a) (hj : h[j]? = some (some o2)) (hjn : IsNum o2 q b) (hl : nl a ≤ m) (hm : m ≤ 1000000) (hl2 : nl b ≤ q) (hq : q ≤ 1000000) :
    CallOK Try.prog 88 [.slice (some ⟨i, 0, some 0⟩) (nl a) m, .slice (some ⟨j, 0, some 0⟩) (nl b) q] h (.int .i64 (cmpN a b)) [] [i, j] := by
  refine call_sub (G := tys) [⟨i, _, numC false m a, ⟨false, 0, []⟩⟩, ⟨j, _, numC false q b, ⟨false, 0, []⟩⟩] [] [.slice (some ⟨0, 0, some 0⟩) (nl a) m, .slice (some ⟨1, 0, some 0⟩) (nl b) q] tysOK mixed Try.func88 (by rfl) (Try.call88) ⟨hi, hj, trivial⟩ ⟨⟨fun h => (by cases h), Nat.le_of_eq hin.1.symm, num_re hin⟩, ⟨fun h => (by cases h), Nat.le_of_eq hjn.1.symm, num_re hjn⟩, trivial⟩ (by simp [Apart]) trivial ⟨.slice rfl, .slice rfl, trivial⟩ ?_
  by_cases hne : nl a = nl b
  · repeat' (refine N.go ?_; first | with_reducible refine N.obl (by decide) ?_ | with_reducible refine N.obl (flat_wi _ _ _) ?_ | with_reducible refine N.obl (flat_lim _ _) ?_ | with_reducible refine N.eq ?_ | with_reducible refine N.obl rfl ?_ | with_reducible refine N.obl ⟨by kernel_rfl, by kernel_rfl⟩ ?_ | with_reducible refine N.alt ?_ | with_reducible refine N.forkT ?_ | with_reducible refine N.forkF ?_ | refine N.forkNo (by rw [hne]; simp) ?_ | fail_if_success skip)
    refine N.go ?_
    refine N.loop (α := Nat) (fun c => c ≤ nl a ∧ a / bw c = b / bw c) (fun x => x) (fun x => [(5, .int .i64 ((x : Int) - 1))]) (fun _ => []) (nl a) ⟨Nat.le_refl _, by rw [Nat.div_eq_of_lt (nl_self a), hne, Nat.div_eq_of_lt (nl_self b)]⟩ ?_ ?_
    · repeat (refine N.go ?_; first | exact N.true | with_reducible refine N.obl rfl ?_ | with_reducible refine N.obl (ChunkLe.refl _) ?_ | refine N.obl (int_i64 (by rw [IntWalk.i64_in _ (by omega)]; rfl)) ?_ | refine N.obl (inteq (by rw [i64n _ (by omega) (by omega)])) ?_ |  fail_if_success skip)
    · intro c hc
      obtain ⟨c1, c2⟩ := hc
      rcases Nat.eq_zero_or_pos c with rfl | hp
      · have he : a = b := by rw [bw_zero, Nat.div_one, Nat.div_one] at c2; exact c2
        have hr : cmpN a b = 0 := by unfold cmpN; rw [if_neg (by omega), if_pos he]
        repeat' (refine N.go ?_; first | with_reducible refine N.obl (by decide) ?_ | with_reducible refine N.obl (flat_wi _ _ _) ?_ | with_reducible refine N.obl (flat_lim _ _) ?_ | with_reducible refine N.eq ?_ | with_reducible refine N.obl rfl ?_ | with_reducible refine N.obl ⟨by kernel_rfl, by kernel_rfl⟩ ?_ | with_reducible refine N.alt ?_ | with_reducible refine N.forkT ?_ | with_reducible refine N.forkF ?_ | refine N.forkNo (by decide) ?_ | refine N.forkYes (by decide) ?_ | refine N.forkYes (by rw [decide_eq_true_eq]; omega) ?_ | refine N.forkNo (by rw [decide_eq_false_iff_not]; omega) ?_ | refine N.obl (re_eqn (inteq hr) rfl) ?_ | refine N.obl trivial ?_ | exact N.true | fail_if_success skip)
      · obtain ⟨y, rfl⟩ : ∃ y, c = y + 1 := ⟨c - 1, by omega⟩
        have e1 : (((y + 1 : Nat) : Int) - 1) = (y : Int) := by omega
        have cw := cmp_word c2
        have cw2 := (cmp_word c2.symm).1
        by_cases h1 : lm a y = lm b y
        · repeat' (refine N.go ?_; first | with_reducible refine N.obl (by decide) ?_ | with_reducible refine N.obl (flat_wi _ _ _) ?_ | with_reducible refine N.obl (flat_lim _ _) ?_ | with_reducible refine N.eq ?_ | with_reducible refine N.obl rfl ?_ | with_reducible refine N.obl ⟨by kernel_rfl, by kernel_rfl⟩ ?_ | with_reducible refine N.alt ?_ | with_reducible refine N.forkT ?_ | with_reducible refine N.forkF ?_ | refine N.idx y 1 e1 (by omega) ?_ | refine N.load _ (reads_num (p := y) (by omega) (by omega)) ?_ | refine N.forkYes (by rw [decide_eq_true_eq]; omega) ?_ | refine N.forkNo (by rw [decide_eq_false_iff_not]; omega) ?_ | refine N.forkNo (by rw [h1]; simp) ?_ | fail_if_success skip)
          refine N.go ?_
          refine N.next y ⟨⟨by omega, cw.2 h1⟩, by omega⟩ ?_
          repeat (refine N.go ?_; first | exact N.true | with_reducible refine N.obl rfl ?_ | with_reducible refine N.obl (ChunkLe.refl _) ?_ | refine N.obl (int_i64 (by rw [IntWalk.i64_in _ (by omega)]; rfl)) ?_ | refine N.obl (inteq (by rw [i64n _ (by omega) (by omega)]; omega)) ?_ |  fail_if_success skip)
        · rcases Nat.lt_or_ge (lm a y) (lm b y) with h2 | h2
          · have hr : cmpN a b = -1 := by unfold cmpN; rw [if_pos (cw.1 h2)]
            repeat' (refine N.go ?_; first | with_reducible refine N.obl (by decide) ?_ | with_reducible refine N.obl (flat_wi _ _ _) ?_ | with_reducible refine N.obl (flat_lim _ _) ?_ | with_reducible refine N.eq ?_ | with_reducible refine N.obl rfl ?_ | with_reducible refine N.obl ⟨by kernel_rfl, by kernel_rfl⟩ ?_ | with_reducible refine N.alt ?_ | with_reducible refine N.forkT ?_ | with_reducible refine N.forkF ?_ | refine N.idx y 1 e1 (by omega) ?_ | refine N.load _ (reads_num (p := y) (by omega) (by omega)) ?_ | refine N.forkYes (by rw [decide_eq_true_eq]; omega) ?_ | refine N.forkNo (by rw [decide_eq_false_iff_not]; omega) ?_ | refine N.forkYes (by simp; omega) ?_ | refine N.forkNo (by simp; omega) ?_ | refine N.obl (re_eqn (inteq hr) rfl) ?_ | refine N.obl trivial ?_ | exact N.true | fail_if_success skip)
          · have := cw2 (by omega)
            have hr : cmpN a b = 1 := by unfold cmpN; rw [if_neg (by omega), if_neg (by omega)]
            repeat' (refine N.go ?_; first | with_reducible refine N.obl (by decide) ?_ | with_reducible refine N.obl (flat_wi _ _ _) ?_ | with_reducible refine N.obl (flat_lim _ _) ?_ | with_reducible refine N.eq ?_ | with_reducible refine N.obl rfl ?_ | with_reducible refine N.obl ⟨by kernel_rfl, by kernel_rfl⟩ ?_ | with_reducible refine N.alt ?_ | with_reducible refine N.forkT ?_ | with_reducible refine N.forkF ?_ | refine N.idx y 1 e1 (by omega) ?_ | refine N.load _ (reads_num (p := y) (by omega) (by omega)) ?_ | refine N.forkYes (by rw [decide_eq_true_eq]; omega) ?_ | refine N.forkNo (by rw [decide_eq_false_iff_not]; omega) ?_ | refine N.forkYes (by simp; omega) ?_ | refine N.forkNo (by simp; omega) ?_ | refine N.obl (re_eqn (inteq hr) rfl) ?_ | refine N.obl trivial ?_ | exact N.true | fail_if_success skip)
  · rcases Nat.lt_or_ge (nl a) (nl b) with h2 | h2
    · have := nl_lt h2
      have hr : cmpN a b = -1 := by unfold cmpN; rw [if_pos (by omega)]
      repeat' (refine N.go ?_; first | with_reducible refine N.obl (by decide) ?_ | with_reducible refine N.obl (flat_wi _ _ _) ?_ | with_reducible refine N.obl (flat_lim _ _) ?_ | with_reducible refine N.eq ?_ | with_reducible refine N.obl rfl ?_ | with_reducible refine N.obl ⟨by kernel_rfl, by kernel_rfl⟩ ?_ | with_reducible refine N.alt ?_ | with_reducible refine N.forkT ?_ | with_reducible refine N.forkF ?_ | refine N.forkYes (by rw [decide_eq_true_eq]; omega) ?_ | refine N.forkNo (by rw [decide_eq_false_iff_not]; omega) ?_ | refine N.forkYes (by simp; omega) ?_ | refine N.forkNo (by simp; omega) ?_ | refine N.obl (re_eqn (inteq hr) rfl) ?_ | refine N.obl trivial ?_ | exact N.true | fail_if_success skip)
    · have := nl_lt (show nl b < nl a by omega)
      have hr : cmpN a b = 1 := by unfold cmpN; rw [if_neg (by omega), if_neg (by omega)]
      repeat' (refine N.go ?_; first | with_reducible refine N.obl (by decide) ?_ | with_reducible refine N.obl (flat_wi _ _ _) ?_ | with_reducible refine N.obl (flat_lim _ _) ?_ | with_reducible refine N.eq ?_ | with_reducible refine N.obl rfl ?_ | with_reducible refine N.obl ⟨by kernel_rfl, by kernel_rfl⟩ ?_ | with_reducible refine N.alt ?_ | with_reducible refine N.forkT ?_ | with_reducible refine N.forkF ?_ | refine N.forkYes (by rw [decide_eq_true_eq]; omega) ?_ | refine N.forkNo (by rw [decide_eq_false_iff_not]; omega) ?_ | refine N.forkYes (by simp; omega) ?_ | refine N.forkNo (by simp; omega) ?_ | refine N.obl (re_eqn (inteq hr) rfl) ?_ | refine N.obl trivial ?_ | exact N.true | fail_if_success skip)
end Go.Proofs.Ytpafcfelaaibgaa


/-
  The walks of the document's numbers: made, Of, times, plus, quo.
-/
set_option linter.unusedVariables false
set_option linter.unusedSimpArgs false
namespace Go.Proofs.Ytpafcfelaaibgaa
open Go Go.RowKit Sx

theorem re_big {ix : List (Nat × Nat)} {i k l l' c : Nat} {r b : Bool} (h : ixK ix k = some i) (e : b = r) (e2 : l = l') : Re ix (.agg ⟨[.bool r, .bool false, .slice (some ⟨i, 0, some 0⟩) l c]⟩) (.agg ⟨[.bool b, .bool false, .slice (some ⟨k, 0, some 0⟩) l' c]⟩) := by
  subst e e2; exact .one (.agg ⟨.plain rfl, .plain rfl, .slice h, trivial⟩)
set_option maxRecDepth 100000 in
set_option maxHeartbeats 2000000 in
theorem cMade32 (v m l i : Nat) (s r : Bool) (hr : r = (s && decide (0 < v))) (o : Chunk) (h : List (Option Chunk)) (hi : h[i]? = some (some o)) (hin : IsNum o m v) (hl : l ≤ m) (hm : m ≤ 31) (hv : v < bw l) :
    CallOK Try.prog 58 [.bool s, .slice (some ⟨i, 0, some 0⟩) l m] h (.agg #[.bool r, .bool false, .slice (some ⟨i, 0, some 0⟩) (nl v) m]) [] [i] := by
  have hn : nl v ≤ l := nl_le.2 hv
  have hb := bitn_le v
  refine call_sub (G := tys) [⟨i, _, numC false m v, ⟨false, 0, []⟩⟩] [] [.bool s, .slice (some ⟨0, 0, some 0⟩) l m] tysOK mixed Try.func58 (by rfl) (Try.call58) ⟨hi, trivial⟩ ⟨⟨fun h => (by cases h), Nat.le_of_eq hin.1.symm, num_re hin⟩, trivial⟩ (by simp [Apart]) trivial ⟨.plain rfl, .slice rfl, trivial⟩ ?_
  cases s with
  | false =>
    rw [Bool.false_and] at hr; subst hr
    repeat' (refine N.go ?_; first | with_reducible refine N.obl (by decide) ?_ | with_reducible refine N.obl (flat_wi _ _ _) ?_ | with_reducible refine N.obl (flat_lim _ _) ?_ | with_reducible refine N.eq ?_ | with_reducible refine N.obl rfl ?_ | with_reducible refine N.obl ⟨by kernel_rfl, by kernel_rfl⟩ ?_ | with_reducible refine N.alt ?_ | with_reducible refine N.forkT ?_ | with_reducible refine N.forkF ?_ | refine N.call (cTrim v m l _ _ _ (by rfl) (isNum _ _ _) hl (by omega) hv) ?_ | refine N.call (cBits32 v m _ _ _ (by rfl) (isNum _ _ _) (by omega) (by omega)) ?_ | refine N.forkNo (by decide) ?_ | refine N.forkYes (by decide) ?_ | refine N.forkYes (by rw [decide_eq_true_eq]; omega) ?_ | refine N.forkNo (by rw [decide_eq_false_iff_not]; omega) ?_ | refine N.obl (.one (.agg ⟨.plain (by rfl), .plain rfl, .slice (by rfl), trivial⟩)) ?_ | refine N.obl trivial ?_ | exact N.true | fail_if_success skip)
  | true =>
    rw [Bool.true_and] at hr
    rcases Nat.eq_zero_or_pos v with hz | hp
    · have hr : r = false := by rw [hr, hz]; rfl
      subst hr
      have h0 : nl v = 0 := nl_zero_iff.2 hz
      repeat' (refine N.go ?_; first | with_reducible refine N.obl (by decide) ?_ | with_reducible refine N.obl (flat_wi _ _ _) ?_ | with_reducible refine N.obl (flat_lim _ _) ?_ | with_reducible refine N.eq ?_ | with_reducible refine N.obl rfl ?_ | with_reducible refine N.obl ⟨by kernel_rfl, by kernel_rfl⟩ ?_ | with_reducible refine N.alt ?_ | with_reducible refine N.forkT ?_ | with_reducible refine N.forkF ?_ | refine N.call (cTrim v m l _ _ _ (by rfl) (isNum _ _ _) hl (by omega) hv) ?_ | refine N.call (cBits32 v m _ _ _ (by rfl) (isNum _ _ _) (by omega) (by omega)) ?_ | refine N.forkNo (by decide) ?_ | refine N.forkYes (by decide) ?_ | refine N.forkYes (by rw [decide_eq_true_eq]; omega) ?_ | refine N.forkNo (by rw [decide_eq_false_iff_not]; omega) ?_ | refine N.obl (re_big (by rfl) (by rw [decide_eq_false_iff_not]; omega) rfl) ?_ | refine N.obl trivial ?_ | exact N.true | fail_if_success skip)
    · rw [decide_eq_true hp] at hr
      subst hr
      have h0 : nl v ≠ 0 := fun e => by have := nl_zero_iff.1 e; omega
      repeat' (refine N.go ?_; first | with_reducible refine N.obl (by decide) ?_ | with_reducible refine N.obl (flat_wi _ _ _) ?_ | with_reducible refine N.obl (flat_lim _ _) ?_ | with_reducible refine N.eq ?_ | with_reducible refine N.obl rfl ?_ | with_reducible refine N.obl ⟨by kernel_rfl, by kernel_rfl⟩ ?_ | with_reducible refine N.alt ?_ | with_reducible refine N.forkT ?_ | with_reducible refine N.forkF ?_ | refine N.call (cTrim v m l _ _ _ (by rfl) (isNum _ _ _) hl (by omega) hv) ?_ | refine N.call (cBits32 v m _ _ _ (by rfl) (isNum _ _ _) (by omega) (by omega)) ?_ | refine N.forkNo (by decide) ?_ | refine N.forkYes (by decide) ?_ | refine N.forkYes (by rw [decide_eq_true_eq]; omega) ?_ | refine N.forkNo (by rw [decide_eq_false_iff_not]; omega) ?_ | refine N.obl (re_big (by rfl) (by rw [decide_eq_true_eq]; omega) rfl) ?_ | refine N.obl trivial ?_ | exact N.true | fail_if_success skip)
theorem trimnil_x (w : World) : Calls Try.prog 67 #[.slice none 0 0] w fun e w' => e = .returned (.slice none 0 0) ∧ Below w.heap.size w w' := by
  refine calls_pure (G := tys) w tysOK mixed Try.func67 (by rfl) (by rfl) (by rfl) ?_
  repeat' (refine N.go ?_; first | with_reducible refine N.obl (by decide) ?_ | with_reducible refine N.obl (flat_wi _ _ _) ?_ | with_reducible refine N.obl (flat_lim _ _) ?_ | with_reducible refine N.eq ?_ | with_reducible refine N.obl rfl ?_ | with_reducible refine N.obl ⟨by kernel_rfl, by kernel_rfl⟩ ?_ | with_reducible refine N.alt ?_ | with_reducible refine N.forkT ?_ | with_reducible refine N.forkF ?_ | refine N.roll 1 ?_ | refine N.forkNo (by decide) ?_ | refine N.forkYes (by decide) ?_ | fail_if_success skip)
  all_goals rfl
theorem bitsnil_x (w : World) : Calls Try.prog 68 #[.slice none 0 0] w fun e w' => e = .returned (.int .i64 0) ∧ Below w.heap.size w w' := by
  refine calls_pure (G := tys) w tysOK mixed Try.func68 (by rfl) (by rfl) (by rfl) ?_
  repeat' (refine N.go ?_; first | with_reducible refine N.obl (by decide) ?_ | with_reducible refine N.obl (flat_wi _ _ _) ?_ | with_reducible refine N.obl (flat_lim _ _) ?_ | with_reducible refine N.eq ?_ | with_reducible refine N.obl rfl ?_ | with_reducible refine N.obl ⟨by kernel_rfl, by kernel_rfl⟩ ?_ | with_reducible refine N.alt ?_ | with_reducible refine N.forkT ?_ | with_reducible refine N.forkF ?_ | refine N.roll 1 ?_ | refine N.forkNo (by decide) ?_ | refine N.forkYes (by decide) ?_ | fail_if_success skip)
  all_goals rfl
set_option maxRecDepth 100000 in
theorem madenil_x (s : Bool) (w : World) : Calls Try.prog 58 #[.bool s, .slice none 0 0] w fun e w' => e = .returned (.agg #[.bool false, .bool false, .slice none 0 0]) ∧ Below w.heap.size w w' := by
  cases s with
  | false =>
    refine calls_pure (G := tys) w tysOK mixed Try.func58 (by rfl) (by rfl) (by rfl) ?_
    repeat' (refine N.go ?_; first | with_reducible refine N.obl (by decide) ?_ | with_reducible refine N.obl (flat_wi _ _ _) ?_ | with_reducible refine N.obl (flat_lim _ _) ?_ | with_reducible refine N.eq ?_ | with_reducible refine N.obl rfl ?_ | with_reducible refine N.obl ⟨by kernel_rfl, by kernel_rfl⟩ ?_ | with_reducible refine N.alt ?_ | with_reducible refine N.forkT ?_ | with_reducible refine N.forkF ?_ | refine N.call (call_pure (by rfl) (by rfl) (Try.call67 _) (fun w => trimnil_x w)) ?_ | refine N.call (call_pure (by rfl) (by rfl) (Try.call68 _) (fun w => bitsnil_x w)) ?_ | refine N.forkNo (by decide) ?_ | refine N.forkYes (by decide) ?_ | fail_if_success skip)
    all_goals rfl
  | true =>
    refine calls_pure (G := tys) w tysOK mixed Try.func58 (by rfl) (by rfl) (by rfl) ?_
    repeat' (refine N.go ?_; first | with_reducible refine N.obl (by decide) ?_ | with_reducible refine N.obl (flat_wi _ _ _) ?_ | with_reducible refine N.obl (flat_lim _ _) ?_ | with_reducible refine N.eq ?_ | with_reducible refine N.obl rfl ?_ | with_reducible refine N.obl ⟨by kernel_rfl, by kernel_rfl⟩ ?_ | with_reducible refine N.alt ?_ | with_reducible refine N.forkT ?_ | with_reducible refine N.forkF ?_ | refine N.call (call_pure (by rfl) (by rfl) (Try.call67 _) (fun w => trimnil_x w)) ?_ | refine N.call (call_pure (by rfl) (by rfl) (Try.call68 _) (fun w => bitsnil_x w)) ?_ | refine N.forkNo (by decide) ?_ | refine N.forkYes (by decide) ?_ | fail_if_success skip)
    all_goals rfl
theorem cMadeNil (s : Bool) (h : List (Option Chunk)) : CallOK Try.prog 58 [.bool s, .slice none 0 0] h (.agg #[.bool false, .bool false, .slice none 0 0]) [] [] := call_pure rfl rfl (Try.call58 _) (madenil_x s)
theorem two_words {n : Nat} (h : n < 18446744073709551616) : n < bw 2 ∧ nl n ≤ 2 := by
  have : bw 2 = 18446744073709551616 := by decide
  exact ⟨by omega, nl_le.2 (by omega)⟩
theorem isNum2 {o : Bool} {n : Nat} {x y : Int} (hx : x = ((n % 4294967296 : Nat) : Int)) (hy : y = ((n / 4294967296 % 4294967296 : Nat) : Int)) : IsNum ⟨o, 2, [(0, 2, .agg ⟨[.int .u32 x, .int .u32 y]⟩)]⟩ 2 n := ⟨rfl, fun j hj => by
  subst hx hy
  match j, hj with
  | 0, _ => unfold lm; rw [bw_zero, Nat.div_one]; rfl
  | 1, _ => rfl⟩
theorem isNum1 {o : Bool} {n : Nat} {x : Int} (hx : x = ((n % 4294967296 : Nat) : Int)) : IsNum ⟨o, 1, [(0, 1, .agg ⟨[.int .u32 x]⟩)]⟩ 1 n := ⟨rfl, fun j hj => by
  subst hx
  match j, hj with
  | 0, _ => unfold lm; rw [bw_zero, Nat.div_one]; rfl⟩
theorem post_num {ix : List (Nat × Nat)} {h : List (Option Chunk)} {k m v : Nat} {c : Chunk} (hh : h[k]? = some (some c)) (ho : c.own = true) (hc : IsNum c m v) : PostC ix h k (numC true m v) :=
  ⟨c, hh, fun _ => ho, Nat.le_of_eq hc.1.symm, fun j hj => by
    have hj : j < m := hj
    rw [seg_cell hj, hc.2 j hj]; exact .plain rfl⟩
theorem w32 (n : Nat) : IntKind.u32.wrap (n : Int) = ((n % 4294967296 : Nat) : Int) := by rw [IntKind.wrap_u32]; omega
theorem w64 {n : Nat} (h : n < 18446744073709551616) : IntKind.u64.wrap (n : Int) = (n : Int) := by rw [IntKind.wrap_u64]; omega
set_option maxRecDepth 100000 in
set_option maxHeartbeats 2000000 in
theorem cROf (n K : Nat) (h : List (Option Chunk)) (h0 : h[K]? = some none) (hn : n < 9223372036854775808) :
    CallOK Try.prog 47 [.int .i64 (n : Int)] h (.agg #[.bool false, .bool false, .slice (some ⟨K, 0, some 0⟩) (nl n) 2]) [(K, numC true 2 n)] [] := by
  have h2 := two_words (n := n) (by omega)
  refine call_sub (G := tys) [] [⟨K, 1, numC true 2 n⟩] [.int .i64 (n : Int)] tysOK mixed Try.func47 (by rfl) (Try.call47) trivial trivial trivial ⟨⟨h0, rfl, by show 0 < 2; decide, by simp⟩, trivial⟩ ⟨.plain rfl, trivial⟩ ?_
  repeat' (refine N.go ?_; first | with_reducible refine N.obl (by decide) ?_ | with_reducible refine N.obl (flat_wi _ _ _) ?_ | with_reducible refine N.obl (flat_lim _ _) ?_ | with_reducible refine N.eq ?_ | with_reducible refine N.obl rfl ?_ | with_reducible refine N.obl ⟨by kernel_rfl, by kernel_rfl⟩ ?_ | with_reducible refine N.alt ?_ | with_reducible refine N.forkT ?_ | with_reducible refine N.forkF ?_ | refine N.call (cMade32 n 2 2 _ false false rfl _ _ (by rfl) (isNum2 (by rw [w64 (by omega), w32]) (by rw [w64 (by omega), fd32, w32])) (by omega) (by omega) h2.1) ?_ | refine N.forkNo (by decide) ?_ | refine N.forkYes (by decide) ?_ | refine N.forkYes (by rw [decide_eq_true_eq]; omega) ?_ | refine N.forkNo (by rw [decide_eq_false_iff_not]; omega) ?_ | refine N.obl (.one (.agg ⟨.plain (by rfl), .plain rfl, .slice (by rfl), trivial⟩)) ?_ | refine N.obl ⟨⟨Nat.zero_le _, post_num (by rfl) rfl (isNum2 (by rw [w64 (by omega), w32]) (by rw [w64 (by omega), fd32, w32]))⟩, trivial⟩ ?_ | refine N.obl trivial ?_ | exact N.true | fail_if_success skip)
theorem zeros_num {o : Bool} {m : Nat} : ChunkLe (numC o m 0) ⟨o, m, [(0, m, .agg ⟨segL m (repZ 1 (.int .u32 0))⟩)]⟩ := .mk id (Nat.le_refl _) fun j hj => by
  have hj : j < m := hj
  rw [seg_cell hj, seg_cell hj]
  unfold repZ lm
  rw [Nat.mod_one, Nat.zero_div]; rfl
end Go.Proofs.Ytpafcfelaaibgaa


/-
  The walks of the document's numbers: plus, quo (by one word).
-/
set_option linter.unusedVariables false
set_option linter.unusedSimpArgs false
namespace Go.Proofs.Ytpafcfelaaibgaa
open Go Go.RowKit Sx

theorem lm_up (v i j : Nat) (h : i ≤ j) : lm (v % bw i) j = 0 := lm_big (Nat.lt_of_lt_of_le (Nat.mod_lt _ (bw_pos i)) (bw_mono h))
theorem writes_next {m v i q : Nat} {x : Int} (e : q = i) (h : i < m) (hx : x = ((lm v i : Nat) : Int)) : Writes (numC true m (v % bw i)) q 1 (.int .u32 x) (numC true m (v % bw (i + 1))) := by
  subst e hx
  refine ⟨rfl, by show q + 1 ≤ m; omega, rfl, fun j hj => ?_⟩
  have hj : j < m := hj
  rw [seg_cell hj, seg_cell hj]
  rcases Nat.lt_trichotomy j q with h1 | h1 | h1
  · rw [if_neg (by omega), lm_mod h1, lm_mod (by omega)]
  · subst h1; rw [if_pos (by omega), Nat.sub_self, lm_mod (by omega)]; rfl
  · rw [if_neg (by omega), lm_up _ _ _ (by omega), lm_up _ _ _ (by omega)]
theorem lm_down (v i j : Nat) : lm (v / bw i * bw i) j = if i ≤ j then lm v j else 0 := by
  by_cases h : i ≤ j
  · rw [if_pos h]
    unfold lm
    obtain ⟨d, rfl⟩ : ∃ d, j = i + d := ⟨j - i, by omega⟩
    rw [bw_add, ← Nat.div_div_eq_div_mul, Nat.mul_div_cancel _ (bw_pos i), Nat.div_div_eq_div_mul]
  · rw [if_neg h]
    unfold lm
    obtain ⟨d, rfl⟩ : ∃ d, i = j + 1 + d := ⟨i - (j + 1), by omega⟩
    rw [bw_add, bw_succ]
    generalize v / (bw j * 4294967296 * bw d) = q
    rw [show q * (bw j * 4294967296 * bw d) = q * bw d * 4294967296 * bw j from by rw [Nat.mul_assoc (bw j), Nat.mul_comm (bw j), ← Nat.mul_assoc, Nat.mul_comm 4294967296, ← Nat.mul_assoc], Nat.mul_div_cancel _ (bw_pos j)]
    exact Nat.mul_mod_left _ _
theorem writes_down {m v i q : Nat} {x : Int} (e : q = i) (h : i < m) (hx : x = ((lm v i : Nat) : Int)) : Writes (numC true m (v / bw (i + 1) * bw (i + 1))) q 1 (.int .u32 x) (numC true m (v / bw i * bw i)) := by
  subst e hx
  refine ⟨rfl, by show q + 1 ≤ m; omega, rfl, fun j hj => ?_⟩
  have hj : j < m := hj
  rw [seg_cell hj, seg_cell hj, lm_down, lm_down]
  rcases Nat.lt_trichotomy j q with h1 | h1 | h1
  · rw [if_neg (by omega), if_neg (by omega), if_neg (by omega)]
  · subst h1; rw [if_pos (by omega), if_pos (by omega), Nat.sub_self]; rfl
  · rw [if_pos (by omega), if_neg (by omega), if_pos (by omega)]
set_option maxRecDepth 100000 in
set_option maxHeartbeats 2000000 in
theorem cPlus (a b m q i j K : Nat) (o o2 : Chunk) (h : List (Option Chunk)) (hi : h[i]? = some (some o)) (hin : IsNum o m a) (hj : h[j]? = some (some o2)) (hjn : IsNum o2 q b) (hl : nl a ≤ m) (hm : m ≤ 20) (hba : nl b ≤ nl a) (hq : nl b ≤ q ∧ q ≤ 20) (h0 : h[K]? = some none) :
    CallOK Try.prog 87 [.slice (some ⟨i, 0, some 0⟩) (nl a) m, .slice (some ⟨j, 0, some 0⟩) (nl b) q] h (.slice (some ⟨K, 0, some 0⟩) (nl (a + b)) (nl a + 1)) [(K, numC true (nl a + 1) (a + b))] [i, j] := by
  have hs : a + b < bw (nl a + 1) := by
    rw [bw_succ]
    have h1 := nl_self a
    have h2 := nl_le.1 hba
    omega
  refine call_sub (G := tys) [⟨i, _, numC false m a, ⟨false, 0, []⟩⟩, ⟨j, _, numC false q b, ⟨false, 0, []⟩⟩] [⟨K, 6, numC true (nl a + 1) (a + b)⟩] [.slice (some ⟨0, 0, some 0⟩) (nl a) m, .slice (some ⟨1, 0, some 0⟩) (nl b) q] tysOK mixed Try.func87 (by rfl) (Try.call87) ⟨hi, hj, trivial⟩ ⟨⟨fun h => (by cases h), Nat.le_of_eq hin.1.symm, num_re hin⟩, ⟨fun h => (by cases h), Nat.le_of_eq hjn.1.symm, num_re hjn⟩, trivial⟩ (by simp [Apart]) ⟨⟨h0, rfl, by show 0 < nl a + 1; omega, by simp⟩, trivial⟩ ⟨.slice rfl, .slice rfl, trivial⟩ ?_
  repeat' (refine N.go ?_; first | with_reducible refine N.obl (by decide) ?_ | with_reducible refine N.obl (flat_wi _ _ _) ?_ | with_reducible refine N.obl (flat_lim _ _) ?_ | with_reducible refine N.eq ?_ | with_reducible refine N.obl rfl ?_ | with_reducible refine N.obl ⟨by kernel_rfl, by kernel_rfl⟩ ?_ | with_reducible refine N.alt ?_ | with_reducible refine N.forkT ?_ | with_reducible refine N.forkF ?_ | refine MakeN.mk1 (nl a + 1) (nl a + 1) (by rw [i64n _ (by omega) (by omega)]; rfl) (by rw [i64n _ (by omega) (by omega)]; rfl) (by show 4 * (nl a + 1) ≤ _; omega) (by omega) (Nat.mul_one _).symm ?_ | refine N.forkNo (by decide) ?_ | refine N.forkYes (by decide) ?_ | refine N.forkYes (by rw [decide_eq_true_eq]; omega) ?_ | refine N.forkNo (by rw [decide_eq_false_iff_not]; omega) ?_ | refine N.obl trivial ?_ | exact N.true | fail_if_success skip)
  refine N.go ?_
  refine N.loop (α := Nat) (fun i => i ≤ nl a) (fun i => nl a - i) (fun i => [(21, .int .i64 (i : Int)), (6, .int .u64 (((a % bw i + b % bw i) / bw i : Nat) : Int))]) (fun i => [(6, numC true (nl a + 1) ((a + b) % bw i))]) 0 (Nat.zero_le _) ?_ ?_
  · repeat (refine N.go ?_; first | exact N.true | with_reducible refine N.obl rfl ?_ | with_reducible refine N.obl (ChunkLe.refl _) ?_ | refine N.obl (int_i64 (by rw [IntWalk.i64_in _ (by omega)]; rfl)) ?_ | refine N.obl (by rw [bw_zero, Nat.mod_one]; exact zeros_num) ?_ | refine N.obl (inteq (by rw [bw_zero, Nat.mod_one, Nat.mod_one]; rfl)) ?_ |  fail_if_success skip)
  · intro i hi'
    have hi' : i ≤ nl a := hi'
    rcases Nat.lt_or_ge i (nl a) with hlt | hge
    · obtain ⟨m1, m2, m3⟩ := add_word a b i
      generalize hC : (a % bw i + b % bw i) / bw i = C at *
      have hx := lm_lt a i
      have hy := lm_lt b i
      have ev : IntKind.u64.wrap (IntKind.u64.wrap ((C : Int) + IntKind.u64.wrap ((lm a i : Nat) : Int)) + IntKind.u64.wrap ((lm b i : Nat) : Int)) = ((C + lm a i + lm b i : Nat) : Int) := by
        rw [w64 (n := lm a i) (by omega), w64 (n := lm b i) (by omega), ← Int.natCast_add, w64 (n := C + lm a i) (by omega), ← Int.natCast_add, w64 (by omega)]
      have ev0 : IntKind.u64.wrap ((C : Int) + IntKind.u64.wrap ((lm a i : Nat) : Int)) = ((C + lm a i : Nat) : Int) := by
        rw [w64 (n := lm a i) (by omega), ← Int.natCast_add, w64 (n := C + lm a i) (by omega)]
      rcases Nat.lt_or_ge i (nl b) with hib | hib
      · repeat' (refine N.go ?_; first | with_reducible refine N.obl (by decide) ?_ | with_reducible refine N.obl (flat_wi _ _ _) ?_ | with_reducible refine N.obl (flat_lim _ _) ?_ | with_reducible refine N.eq ?_ | with_reducible refine N.obl rfl ?_ | with_reducible refine N.obl ⟨by kernel_rfl, by kernel_rfl⟩ ?_ | with_reducible refine N.alt ?_ | with_reducible refine N.forkT ?_ | with_reducible refine N.forkF ?_ | refine N.store _ (writes_next rfl (by omega) (by rw [ev, w32, m1])) ?_ | refine N.idx i 1 rfl (by omega) ?_ | refine N.load _ (reads_num (p := i) (by omega) (by omega)) ?_ | refine N.forkNo (by decide) ?_ | refine N.forkYes (by decide) ?_ | refine N.forkYes (by rw [decide_eq_true_eq]; omega) ?_ | refine N.forkNo (by rw [decide_eq_false_iff_not]; omega) ?_ | refine N.obl trivial ?_ | exact N.true | fail_if_success skip)
        refine N.go ?_
        refine N.next (i + 1) ⟨by show i + 1 ≤ nl a; omega, by omega⟩ ?_
        repeat (refine N.go ?_; first | exact N.true | with_reducible refine N.obl rfl ?_ | with_reducible refine N.obl (ChunkLe.refl _) ?_ | refine N.obl (int_i64 (by rw [IntWalk.i64_in _ (by omega)]; rfl)) ?_ | refine N.obl (inteq (by rw [i64n _ (by omega) (by omega)]; omega)) ?_ | refine N.obl (inteq (by rw [ev, fd32, m2])) ?_ |  fail_if_success skip)
      · have hz : lm b i = 0 := lm_big (Nat.lt_of_lt_of_le (nl_self b) (bw_mono hib))
        repeat' (refine N.go ?_; first | with_reducible refine N.obl (by decide) ?_ | with_reducible refine N.obl (flat_wi _ _ _) ?_ | with_reducible refine N.obl (flat_lim _ _) ?_ | with_reducible refine N.eq ?_ | with_reducible refine N.obl rfl ?_ | with_reducible refine N.obl ⟨by kernel_rfl, by kernel_rfl⟩ ?_ | with_reducible refine N.alt ?_ | with_reducible refine N.forkT ?_ | with_reducible refine N.forkF ?_ | refine N.store _ (writes_next rfl (by omega) (by rw [ev0, w32, m1, hz]; rfl)) ?_ | refine N.idx i 1 rfl (by omega) ?_ | refine N.load _ (reads_num (p := i) (by omega) (by omega)) ?_ | refine N.forkNo (by decide) ?_ | refine N.forkYes (by decide) ?_ | refine N.forkYes (by rw [decide_eq_true_eq]; omega) ?_ | refine N.forkNo (by rw [decide_eq_false_iff_not]; omega) ?_ | refine N.obl trivial ?_ | exact N.true | fail_if_success skip)
        refine N.go ?_
        refine N.next (i + 1) ⟨by show i + 1 ≤ nl a; omega, by omega⟩ ?_
        repeat (refine N.go ?_; first | exact N.true | with_reducible refine N.obl rfl ?_ | with_reducible refine N.obl (ChunkLe.refl _) ?_ | refine N.obl (int_i64 (by rw [IntWalk.i64_in _ (by omega)]; rfl)) ?_ | refine N.obl (inteq (by rw [i64n _ (by omega) (by omega)]; omega)) ?_ | refine N.obl (inteq (by rw [ev0, fd32, m2, hz]; rfl)) ?_ |  fail_if_success skip)
    · obtain rfl : i = nl a := by omega
      have ha := nl_self a
      have hb := nl_le.1 hba
      have hc : ((a % bw (nl a) + b % bw (nl a)) / bw (nl a)) = lm (a + b) (nl a) := by
        rw [Nat.mod_eq_of_lt ha, Nat.mod_eq_of_lt hb]
        unfold lm
        rw [Nat.mod_eq_of_lt ((Nat.div_lt_iff_lt_mul (bw_pos _)).2 (by rw [Nat.mul_comm, ← bw_succ]; exact hs))]
      have hlt := lm_lt (a + b) (nl a)
      have he : (a + b) % bw (nl a + 1) = a + b := Nat.mod_eq_of_lt hs
      repeat' (refine N.go ?_; first | with_reducible refine N.obl (by decide) ?_ | with_reducible refine N.obl (flat_wi _ _ _) ?_ | with_reducible refine N.obl (flat_lim _ _) ?_ | with_reducible refine N.eq ?_ | with_reducible refine N.obl rfl ?_ | with_reducible refine N.obl ⟨by kernel_rfl, by kernel_rfl⟩ ?_ | with_reducible refine N.alt ?_ | with_reducible refine N.forkT ?_ | with_reducible refine N.forkF ?_ | refine N.idx (nl a) 1 rfl (by omega) ?_ | refine N.store _ (writes_next rfl (by omega) (by rw [w32, hc]; omega)) ?_ | refine N.call (cTrim (a + b) (nl a + 1) (nl a + 1) _ _ _ (by rfl) (by rw [he]; exact isNum _ _ _) (by omega) (by omega) hs) ?_ | refine N.obl (re_sl (by rfl) rfl) ?_ | refine N.obl ⟨⟨by show 2 ≤ 6; decide, post_num (by rfl) rfl (by rw [he]; exact isNum _ _ _)⟩, trivial⟩ ?_ | refine N.forkNo (by decide) ?_ | refine N.forkYes (by decide) ?_ | refine N.forkYes (by rw [decide_eq_true_eq]; omega) ?_ | refine N.forkNo (by rw [decide_eq_false_iff_not]; omega) ?_ | refine N.obl trivial ?_ | exact N.true | fail_if_success skip)
theorem or_add (r x : Nat) (hr : r < 4294967296) (hx : x < 4294967296) : IntKind.u64.wrap ((BitVec.ofInt IntKind.u64.bits (((r * 4294967296 : Nat) : Int)) ||| BitVec.ofInt IntKind.u64.bits ((x : Nat) : Int)).toNat : Nat) = ((r * 4294967296 + x : Nat) : Int) := by
  have e : (BitVec.ofInt IntKind.u64.bits (((r * 4294967296 : Nat) : Int)) ||| BitVec.ofInt IntKind.u64.bits ((x : Nat) : Int)).toNat = r * 4294967296 + x := by
    rw [BitVec.toNat_or, BitVec.toNat_ofInt, BitVec.toNat_ofInt]
    have h1 : (((r * 4294967296 : Nat) : Int) % ((2 ^ IntKind.u64.bits : Nat) : Int)).toNat = r * 4294967296 := by
      show (((r * 4294967296 : Nat) : Int) % 18446744073709551616).toNat = _
      omega
    have h2 : (((x : Nat) : Int) % ((2 ^ IntKind.u64.bits : Nat) : Int)).toNat = x := by
      show (((x : Nat) : Int) % 18446744073709551616).toNat = _
      omega
    rw [h1, h2]
    have := Nat.shiftLeft_add_eq_or_of_lt (b := x) (i := 32) (by omega) r
    rw [Nat.shiftLeft_eq] at this
    exact this.symm
  rw [e, w64 (by omega)]
theorem shl_or (r x y : Nat) (hr : r < y) (hy : y < 4294967296) (hx : x < 4294967296) : IntKind.u64.wrap ((BitVec.ofInt IntKind.u64.bits (IntKind.u64.wrap ((r : Int) * 2 ^ sh 32 IntKind.u64)) ||| BitVec.ofInt IntKind.u64.bits (IntKind.u64.wrap ((x : Nat) : Int))).toNat : Nat) = ((r * 4294967296 + x : Nat) : Int) := by
  rw [show sh 32 IntKind.u64 = 32 from by decide, show ((r : Int) * 2 ^ 32) = ((r * 4294967296 : Nat) : Int) from by omega, w64 (n := r * 4294967296) (by omega), w64 (n := x) (by omega)]
  exact or_add r x (by omega) hx
end Go.Proofs.Ytpafcfelaaibgaa


/-
  The walks of the document's numbers: plus, minus, times at any length.
-/
set_option linter.unusedVariables false
set_option linter.unusedSimpArgs false
namespace Go.Proofs.Ytpafcfelaaibgaa
open Go Go.RowKit Sx

theorem lm_mix (p q k j : Nat) : lm (p % bw k + q / bw k * bw k) j = if j < k then lm p j else lm q j := by
  by_cases h : j < k
  · rw [if_pos h, lm_add _ h, lm_mod h]
  · rw [if_neg h]
    have h1 : lm (p % bw k + q / bw k * bw k) j = lm (q / bw k * bw k) j := by
      unfold lm
      obtain ⟨d, rfl⟩ : ∃ d, j = k + d := ⟨j - k, by omega⟩
      rw [bw_add, ← Nat.div_div_eq_div_mul, ← Nat.div_div_eq_div_mul, Nat.add_mul_div_right _ _ (bw_pos k), Nat.div_eq_of_lt (Nat.mod_lt _ (bw_pos k)), Nat.zero_add, Nat.mul_div_cancel _ (bw_pos k)]
    rw [h1, lm_down, if_pos (by omega)]
/-- The words below k are p's, those above q's; the next one of p' is written. -/
theorem writes_mix {m p p' q k r : Nat} {x : Int} (e : r = k) (h : k < m) (hx : x = ((lm p' k : Nat) : Int)) (hp : p' % bw k = p % bw k) : Writes (numC true m (p % bw k + q / bw k * bw k)) r 1 (.int .u32 x) (numC true m (p' % bw (k + 1) + q / bw (k + 1) * bw (k + 1))) := by
  subst e hx
  refine ⟨rfl, by show r + 1 ≤ m; omega, rfl, fun j hj => ?_⟩
  have hj : j < m := hj
  rw [seg_cell hj, seg_cell hj, lm_mix, lm_mix]
  rcases Nat.lt_trichotomy j r with h1 | h1 | h1
  · rw [if_neg (show ¬ (r ≤ j ∧ j < r + 1) by omega), if_pos (show j < r + 1 by omega), if_pos h1, ← lm_mod h1, hp, lm_mod h1]
  · subst h1; rw [if_pos (show j ≤ j ∧ j < j + 1 by omega), if_pos (show j < j + 1 by omega), Nat.sub_self]; rfl
  · rw [if_neg (show ¬ (r ≤ j ∧ j < r + 1) by omega), if_neg (show ¬ j < r + 1 by omega), if_neg (show ¬ j < r by omega)]
theorem mul_nl2 (a b : Nat) : a * b < bw (nl a + nl b) ∨ a * b = 0 := by
  rcases Nat.eq_zero_or_pos (a * b) with h | h
  · exact .inr h
  · left
    rw [bw_add]
    have ha := nl_self a
    have hb := nl_self b
    have hb0 : 0 < b := Nat.pos_of_ne_zero fun e => by rw [e, Nat.mul_zero] at h; omega
    exact Nat.lt_of_lt_of_le (Nat.mul_lt_mul_of_pos_right ha hb0) (Nat.mul_le_mul_left _ (Nat.le_of_lt hb))
theorem mul_nl3 (a b : Nat) : a * b < bw (nl a + nl b) := by
  rcases mul_nl2 a b with h | h
  · exact h
  · rw [h]; exact bw_pos _
/-- One word of a row of a product: S is what the rows before came to, C the carry. -/
theorem row_word (S x b i j C : Nat) (hx : x < 4294967296) (hC : C < 4294967296) (h : (S + x * (b % bw j) * bw i) / bw (i + j) = C + S / bw (i + j)) :
    lm (S + x * (b % bw (j + 1)) * bw i) (i + j) = (C + (x * lm b j + lm S (i + j))) % 4294967296 ∧
    (S + x * (b % bw (j + 1)) * bw i) / bw (i + j + 1) = (C + (x * lm b j + lm S (i + j))) / 4294967296 + S / bw (i + j + 1) ∧
    C + (x * lm b j + lm S (i + j)) < 18446744073709551616 ∧ (C + (x * lm b j + lm S (i + j))) / 4294967296 < 4294967296 ∧
    (S + x * (b % bw (j + 1)) * bw i) % bw (i + j) = (S + x * (b % bw j) * bw i) % bw (i + j) := by
  have hb := lm_lt b j
  have hS := lm_lt S (i + j)
  have hxy : x * lm b j ≤ 4294967295 * 4294967295 := Nat.mul_le_mul (by omega) (by omega)
  have hV : S + x * (b % bw (j + 1)) * bw i = (S + x * (b % bw j) * bw i) + x * lm b j * bw (i + j) := by
    rw [low_word, Nat.mul_add, Nat.add_mul, bw_add, Nat.mul_comm (bw i) (bw j), ← Nat.mul_assoc, ← Nat.mul_assoc, Nat.add_assoc]
  have hd : (S + x * (b % bw (j + 1)) * bw i) / bw (i + j) = (C + (x * lm b j + lm S (i + j))) + S / bw (i + j + 1) * 4294967296 := by
    rw [hV, Nat.add_mul_div_right _ _ (bw_pos _), h, up_word S (i + j)]; omega
  refine ⟨?_, ?_, by omega, by omega, ?_⟩
  · show (S + x * (b % bw (j + 1)) * bw i) / bw (i + j) % 4294967296 = _
    rw [hd, Nat.add_mul_mod_self_right]
  · rw [bw_succ (i + j), ← Nat.div_div_eq_div_mul, hd, Nat.add_mul_div_right _ _ (by decide), ← bw_succ]
  · rw [hV, Nat.add_mul_mod_self_right]
/-- One word of a difference. -/
def brw (a b i : Nat) : Int := if a % bw i < b % bw i then -1 else 0
theorem sub_word (a b i : Nat) (h : b ≤ a) : ((brw a b i + (lm a i : Nat)) - (lm b i : Nat)) % 4294967296 = (lm (a - b) i : Nat) ∧ ((brw a b i + (lm a i : Nat)) - (lm b i : Nat)).fdiv 4294967296 = brw a b (i + 1) ∧ -1 ≤ brw a b i ∧ brw a b i ≤ 0 := by
  have hD := bw_pos i
  have ha := Nat.div_add_mod a (bw i)
  have hb := Nat.div_add_mod b (bw i)
  have hA := Nat.mod_lt a hD
  have hB := Nat.mod_lt b hD
  have hqq : ∀ {x y : Nat}, x < y → bw i * x + bw i ≤ bw i * y := fun {x y} hxy => by
    have := Nat.mul_le_mul_left (bw i) (show x + 1 ≤ y by omega)
    rwa [Nat.mul_add, Nat.mul_one] at this
  have key : (((a - b) / bw i : Nat) : Int) = brw a b i + ((a / bw i : Nat) : Int) - ((b / bw i : Nat) : Int) := by
    unfold brw
    generalize a / bw i = qa at *
    generalize b / bw i = qb at *
    generalize a % bw i = A at *
    generalize b % bw i = B at *
    by_cases hlt : A < B
    · rw [if_pos hlt]
      have hq : qb < qa := by
        refine Nat.lt_of_not_le fun hle => ?_
        have : bw i * qa ≤ bw i * qb := Nat.mul_le_mul_left _ hle
        omega
      have e : a - b = (bw i + A - B) + (qa - qb - 1) * bw i := by
        obtain ⟨d, rfl⟩ : ∃ d, qa = qb + 1 + d := ⟨qa - (qb + 1), by omega⟩
        rw [show qb + 1 + d - qb - 1 = d from by omega, Nat.mul_comm d]
        rw [Nat.mul_add, Nat.mul_add, Nat.mul_one] at ha
        omega
      rw [e, Nat.add_mul_div_right _ _ hD, Nat.div_eq_of_lt (by omega)]
      omega
    · rw [if_neg hlt]
      have hq : qb ≤ qa := by
        refine Nat.le_of_not_lt fun hle => ?_
        have := hqq hle
        omega
      have e : a - b = (A - B) + (qa - qb) * bw i := by
        obtain ⟨d, rfl⟩ : ∃ d, qa = qb + d := ⟨qa - qb, by omega⟩
        rw [show qb + d - qb = d from by omega, Nat.mul_comm d]
        rw [Nat.mul_add] at ha
        omega
      rw [e, Nat.add_mul_div_right _ _ hD, Nat.div_eq_of_lt (by omega)]
      omega
  have hb1 : -1 ≤ brw a b i ∧ brw a b i ≤ 0 := by unfold brw; split <;> omega
  have hx := lm_lt a i
  have hy := lm_lt b i
  refine ⟨?_, ?_, hb1.1, hb1.2⟩
  · unfold lm at hx hy ⊢
    omega
  · have h1 : brw a b (i + 1) = if a % bw i + lm a i * bw i < b % bw i + lm b i * bw i then -1 else 0 := by
      unfold brw; rw [low_word, low_word]
    rw [h1]
    unfold brw at hb1 ⊢
    generalize a % bw i = A at *
    generalize b % bw i = B at *
    generalize lm a i = x at *
    generalize lm b i = y at *
    have hf : ∀ z : Int, z.fdiv 4294967296 = z / 4294967296 := fun z => Int.fdiv_eq_ediv_of_nonneg _ (by decide)
    rw [hf]
    rcases Nat.lt_trichotomy x y with hxy | hxy | hxy
    · have := hqq hxy
      rw [if_pos (show A + x * bw i < B + y * bw i by rw [Nat.mul_comm x, Nat.mul_comm y]; omega)]
      split <;> omega
    · subst hxy
      by_cases hlt : A < B
      · rw [if_pos hlt, if_pos (by omega)]; omega
      · rw [if_neg hlt, if_neg (by omega)]; omega
    · have := hqq hxy
      rw [if_neg (show ¬ A + x * bw i < B + y * bw i by rw [Nat.mul_comm x, Nat.mul_comm y]; omega)]
      split <;> omega
set_option maxRecDepth 100000 in
set_option maxHeartbeats 2000000 in
theorem cTimesN (a b m q i j K : Nat) (o o2 : Chunk) (h : List (Option Chunk)) (hi : h[i]? = some (some o)) (hin : IsNum o m a) (hj : h[j]? = some (some o2)) (hjn : IsNum o2 q b) (hl : nl a ≤ m) (hm : m ≤ 31) (hl2 : nl b ≤ q) (hq : q ≤ 31) (hp : 0 < nl a + nl b) (h0 : h[K]? = some none) :
    CallOK Try.prog 66 [.slice (some ⟨i, 0, some 0⟩) (nl a) m, .slice (some ⟨j, 0, some 0⟩) (nl b) q] h (.slice (some ⟨K, 0, some 0⟩) (nl (a * b)) (nl a + nl b)) [(K, numC true (nl a + nl b) (a * b))] [i, j] := by
  have hab := mul_nl3 a b
  refine call_sub (G := tys) [⟨i, _, numC false m a, ⟨false, 0, []⟩⟩, ⟨j, _, numC false q b, ⟨false, 0, []⟩⟩] [⟨K, 10, numC true (nl a + nl b) (a * b)⟩] [.slice (some ⟨0, 0, some 0⟩) (nl a) m, .slice (some ⟨1, 0, some 0⟩) (nl b) q] tysOK mixed Try.func66 (by rfl) (Try.call66) ⟨hi, hj, trivial⟩ ⟨⟨fun h => (by cases h), Nat.le_of_eq hin.1.symm, num_re hin⟩, ⟨fun h => (by cases h), Nat.le_of_eq hjn.1.symm, num_re hjn⟩, trivial⟩ (by simp [Apart]) ⟨⟨h0, rfl, by show 0 < nl a + nl b; exact hp, by simp⟩, trivial⟩ ⟨.slice rfl, .slice rfl, trivial⟩ ?_
  repeat' (refine N.go ?_; first | with_reducible refine N.obl (by decide) ?_ | with_reducible refine N.obl (flat_wi _ _ _) ?_ | with_reducible refine N.obl (flat_lim _ _) ?_ | with_reducible refine N.eq ?_ | with_reducible refine N.obl rfl ?_ | with_reducible refine N.obl ⟨by kernel_rfl, by kernel_rfl⟩ ?_ | with_reducible refine N.alt ?_ | with_reducible refine N.forkT ?_ | with_reducible refine N.forkF ?_ | refine MakeN.mk1 (nl a + nl b) (nl a + nl b) (by rw [i64n _ (by omega) (by omega)]; rfl) (by rw [i64n _ (by omega) (by omega)]; rfl) (by show 4 * (nl a + nl b) ≤ _; omega) (by omega) (Nat.mul_one _).symm ?_ | refine N.forkNo (by decide) ?_ | refine N.forkYes (by decide) ?_ | refine N.forkYes (by rw [decide_eq_true_eq]; omega) ?_ | refine N.forkNo (by rw [decide_eq_false_iff_not]; omega) ?_ | refine N.obl trivial ?_ | exact N.true | fail_if_success skip)
  refine N.go ?_
  refine N.loop (α := Nat) (fun i => i ≤ nl a) (fun i => nl a - i) (fun i => [(19, .int .i64 (i : Int))]) (fun i => [(10, numC true (nl a + nl b) (a % bw i * b))]) 0 (Nat.zero_le _) ?_ ?_
  · repeat (refine N.go ?_; first | exact N.true | with_reducible refine N.obl rfl ?_ | with_reducible refine N.obl (ChunkLe.refl _) ?_ | refine N.obl (int_i64 (by rw [IntWalk.i64_in _ (by omega)]; rfl)) ?_ | refine N.obl (by rw [bw_zero, Nat.mod_one, Nat.zero_mul]; exact zeros_num) ?_ |  fail_if_success skip)
  · intro i hi'
    have hi' : i ≤ nl a := hi'
    rcases Nat.lt_or_ge i (nl a) with hlt | hge
    · have hx := lm_lt a i
      have hSlt : a % bw i * b < bw (i + nl b) := by
        rw [bw_add]
        rcases Nat.eq_zero_or_pos b with e | e
        · subst e; rw [Nat.mul_zero]; exact Nat.mul_pos (bw_pos _) (bw_pos _)
        · exact Nat.lt_of_lt_of_le (Nat.mul_lt_mul_of_pos_right (Nat.mod_lt _ (bw_pos i)) e) (Nat.mul_le_mul_left _ (Nat.le_of_lt (nl_self b)))
      have hV : a % bw (i + 1) * b = a % bw i * b + lm a i * (b % bw (nl b)) * bw i := by
        rw [low_word, Nat.add_mul, Nat.mod_eq_of_lt (nl_self b), Nat.mul_right_comm]
      have hVlt : a % bw (i + 1) * b < bw (i + nl b + 1) := by
        have hbb := bw_add (i + 1) (nl b)
        rw [show i + nl b + 1 = (i + 1) + nl b from by omega, hbb]
        rcases Nat.eq_zero_or_pos b with e | e
        · rw [e, Nat.mul_zero]; exact Nat.mul_pos (bw_pos _) (bw_pos _)
        · exact Nat.lt_of_lt_of_le (Nat.mul_lt_mul_of_pos_right (Nat.mod_lt _ (bw_pos _)) e) (Nat.mul_le_mul_left _ (Nat.le_of_lt (nl_self b)))
      generalize hS : a % bw i * b = S at *
      generalize hX : lm a i = x at *
      repeat' (refine N.go ?_; first | with_reducible refine N.obl (by decide) ?_ | with_reducible refine N.obl (flat_wi _ _ _) ?_ | with_reducible refine N.obl (flat_lim _ _) ?_ | with_reducible refine N.eq ?_ | with_reducible refine N.obl rfl ?_ | with_reducible refine N.obl ⟨by kernel_rfl, by kernel_rfl⟩ ?_ | with_reducible refine N.alt ?_ | with_reducible refine N.forkT ?_ | with_reducible refine N.forkF ?_ | refine N.idx i 1 (by first | rfl | exact i64n _ (by omega) (by omega) | (rw [i64n _ (by omega) (by omega)]; omega)) (by omega) ?_ | refine N.load (.int .u32 ((x : Nat) : Int)) (by rw [← hX]; exact reads_num (p := i) (by omega) (by omega)) ?_ | refine N.forkNo (by decide) ?_ | refine N.forkYes (by decide) ?_ | refine N.forkYes (by rw [decide_eq_true_eq]; omega) ?_ | refine N.forkNo (by rw [decide_eq_false_iff_not]; omega) ?_ | refine N.obl trivial ?_ | exact N.true | fail_if_success skip)
      refine N.go ?_
      refine N.loop (α := Nat × Nat) (fun s => s.1 ≤ nl b ∧ s.2 < 4294967296 ∧ (S + x * (b % bw s.1) * bw i) / bw (i + s.1) = s.2 + S / bw (i + s.1)) (fun s => nl b - s.1) (fun s => [(26, .int .i64 (s.1 : Int)), (8, .int .u64 (s.2 : Int))]) (fun s => [(10, numC true (nl a + nl b) ((S + x * (b % bw s.1) * bw i) % bw (i + s.1) + S / bw (i + s.1) * bw (i + s.1)))]) (0, 0) ⟨Nat.zero_le _, by decide, by rw [bw_zero, Nat.mod_one, Nat.mul_zero, Nat.zero_mul, Nat.add_zero, Nat.zero_add]⟩ ?_ ?_
      · repeat (refine N.go ?_; first | exact N.true | with_reducible refine N.obl rfl ?_ | with_reducible refine N.obl (ChunkLe.refl _) ?_ | refine N.obl (int_i64 (by rw [IntWalk.i64_in _ (by omega)]; rfl)) ?_ | refine N.obl (by rw [bw_zero, Nat.mod_one, Nat.mul_zero, Nat.zero_mul, Nat.add_zero, Nat.add_zero, Nat.mod_add_div' ]; exact ChunkLe.refl _) ?_ |  fail_if_success skip)
      · rintro ⟨j, C⟩ ⟨hj', hC, hrel⟩
        have hj' : j ≤ nl b := hj'
        have hC : C < 4294967296 := hC
        have hrel : (S + x * (b % bw j) * bw i) / bw (i + j) = C + S / bw (i + j) := hrel
        rcases Nat.lt_or_ge j (nl b) with hjl | hjg
        · obtain ⟨m1, m2, m3, m4, m5⟩ := row_word S x b i j C hx hC hrel
          have hy := lm_lt b j
          have hz := lm_lt S (i + j)
          have hold : lm ((S + x * (b % bw j) * bw i) % bw (i + j) + S / bw (i + j) * bw (i + j)) (i + j) = lm S (i + j) := by rw [lm_mix, if_neg (Nat.lt_irrefl _)]
          have hxy : x * lm b j ≤ 4294967295 * 4294967295 := Nat.mul_le_mul (by omega) (by omega)
          have ev : IntKind.u64.wrap ((C : Int) + IntKind.u64.wrap (IntKind.u64.wrap (IntKind.u64.wrap ((x : Nat) : Int) * IntKind.u64.wrap ((lm b j : Nat) : Int)) + IntKind.u64.wrap ((lm ((S + x * (b % bw j) * bw i) % bw (i + j) + S / bw (i + j) * bw (i + j)) (i + j) : Nat) : Int))) = ((C + (x * lm b j + lm S (i + j)) : Nat) : Int) := by
            rw [hold, w64 (n := x) (by omega), w64 (n := lm b j) (by omega), w64 (n := lm S (i + j)) (by omega), ← Int.natCast_mul, w64 (n := x * lm b j) (by omega), ← Int.natCast_add, w64 (n := x * lm b j + lm S (i + j)) (by omega), ← Int.natCast_add, w64 m3]
          generalize hT : C + (x * lm b j + lm S (i + j)) = T at *
          repeat' (refine N.go ?_; first | with_reducible refine N.obl (by decide) ?_ | with_reducible refine N.obl (flat_wi _ _ _) ?_ | with_reducible refine N.obl (flat_lim _ _) ?_ | with_reducible refine N.eq ?_ | with_reducible refine N.obl rfl ?_ | with_reducible refine N.obl ⟨by kernel_rfl, by kernel_rfl⟩ ?_ | with_reducible refine N.alt ?_ | with_reducible refine N.forkT ?_ | with_reducible refine N.forkF ?_ | refine N.idx j 1 (by first | rfl | exact i64n _ (by omega) (by omega) | (rw [i64n _ (by omega) (by omega)]; omega)) (by omega) ?_ | refine N.load _ (reads_num (p := j) (by omega) (by omega)) ?_ | refine N.idx (i + j) 1 (by first | rfl | exact i64n _ (by omega) (by omega) | (rw [i64n _ (by omega) (by omega)]; omega)) (by omega) ?_ | refine N.load _ (reads_num (p := i + j) (by omega) (by omega)) ?_ | refine N.store _ (writes_mix (p' := S + x * (b % bw (j + 1)) * bw i) (by omega) (by omega) (by rw [ev, w32, m1]) m5) ?_ | refine N.forkNo (by decide) ?_ | refine N.forkYes (by decide) ?_ | refine N.forkYes (by rw [decide_eq_true_eq]; omega) ?_ | refine N.forkNo (by rw [decide_eq_false_iff_not]; omega) ?_ | refine N.obl trivial ?_ | exact N.true | fail_if_success skip)
          refine N.go ?_
          refine N.next ((j + 1, T / 4294967296) : Nat × Nat) ⟨⟨by show j + 1 ≤ nl b; omega, m4, m2⟩, by show nl b - (j + 1) < nl b - j; omega⟩ ?_
          repeat (refine N.go ?_; first | exact N.true | with_reducible refine N.obl rfl ?_ | with_reducible refine N.obl (ChunkLe.refl _) ?_ | refine N.obl (int_i64 (by rw [IntWalk.i64_in _ (by omega)]; rfl)) ?_ | refine N.obl (inteq (by rw [i64n _ (by omega) (by omega)]; rfl)) ?_ | refine N.obl (inteq (by rw [ev, fd32])) ?_ |  fail_if_success skip)
        · obtain rfl : j = nl b := by omega
          have hq0 : S / bw (i + nl b) = 0 := Nat.div_eq_of_lt hSlt
          have hCe : (C : Int) = ((lm (a % bw (i + 1) * b) (i + nl b) : Nat) : Int) := by
            rw [hq0, Nat.add_zero, ← hV] at hrel
            unfold lm; rw [hrel, Nat.mod_eq_of_lt hC]
          have hch : (S + x * (b % bw (nl b)) * bw i) % bw (i + nl b) + S / bw (i + nl b) * bw (i + nl b) = (a % bw (i + 1) * b) % bw (i + nl b) := by rw [hq0, Nat.zero_mul, Nat.add_zero, ← hV]
          have hme : a % bw (i + 1) * b = a % bw (i + 1) * b % bw (i + nl b + 1) := (Nat.mod_eq_of_lt hVlt).symm
          rw [hch]
          repeat' (refine N.go ?_; first | with_reducible refine N.obl (by decide) ?_ | with_reducible refine N.obl (flat_wi _ _ _) ?_ | with_reducible refine N.obl (flat_lim _ _) ?_ | with_reducible refine N.eq ?_ | with_reducible refine N.obl rfl ?_ | with_reducible refine N.obl ⟨by kernel_rfl, by kernel_rfl⟩ ?_ | with_reducible refine N.alt ?_ | with_reducible refine N.forkT ?_ | with_reducible refine N.forkF ?_ | refine N.idx (i + nl b) 1 (by first | rfl | exact i64n _ (by omega) (by omega) | (rw [i64n _ (by omega) (by omega)]; omega)) (by omega) ?_ | refine N.store _ (writes_next (v := a % bw (i + 1) * b) (by omega) (by omega) (by rw [w32, Nat.mod_eq_of_lt hC]; exact hCe)) ?_ | refine N.forkNo (by decide) ?_ | refine N.forkYes (by decide) ?_ | refine N.forkYes (by rw [decide_eq_true_eq]; omega) ?_ | refine N.forkNo (by rw [decide_eq_false_iff_not]; omega) ?_ | refine N.obl trivial ?_ | exact N.true | fail_if_success skip)
          refine N.go ?_
          refine N.next (i + 1) ⟨by show i + 1 ≤ nl a; omega, by show nl a - (i + 1) < nl a - i; omega⟩ ?_
          repeat (refine N.go ?_; first | exact N.true | with_reducible refine N.obl rfl ?_ | with_reducible refine N.obl (ChunkLe.refl _) ?_ | refine N.obl (int_i64 (by rw [IntWalk.i64_in _ (by omega)]; rfl)) ?_ | refine N.obl (inteq (by rw [i64n _ (by omega) (by omega)]; rfl)) ?_ | refine N.obl (by rw [← hme]; exact ChunkLe.refl _) ?_ |  fail_if_success skip)
    · obtain rfl : i = nl a := by omega
      have he : a % bw (nl a) * b = a * b := by rw [Nat.mod_eq_of_lt (nl_self a)]
      repeat' (refine N.go ?_; first | with_reducible refine N.obl (by decide) ?_ | with_reducible refine N.obl (flat_wi _ _ _) ?_ | with_reducible refine N.obl (flat_lim _ _) ?_ | with_reducible refine N.eq ?_ | with_reducible refine N.obl rfl ?_ | with_reducible refine N.obl ⟨by kernel_rfl, by kernel_rfl⟩ ?_ | with_reducible refine N.alt ?_ | with_reducible refine N.forkT ?_ | with_reducible refine N.forkF ?_ | refine N.call (cTrim (a * b) (nl a + nl b) (nl a + nl b) _ _ _ (by rfl) (by rw [he]; exact isNum _ _ _) (by omega) (by omega) hab) ?_ | refine N.obl (re_sl (by rfl) rfl) ?_ | refine N.obl ⟨⟨by show 2 ≤ 10; decide, post_num (by rfl) rfl (by rw [he]; exact isNum _ _ _)⟩, trivial⟩ ?_ | refine N.forkNo (by decide) ?_ | refine N.forkYes (by decide) ?_ | refine N.forkYes (by rw [decide_eq_true_eq]; omega) ?_ | refine N.forkNo (by rw [decide_eq_false_iff_not]; omega) ?_ | refine N.obl trivial ?_ | exact N.true | fail_if_success skip)
set_option maxRecDepth 100000 in
set_option maxHeartbeats 2000000 in
theorem cMinus (a b m q i j K : Nat) (o o2 : Chunk) (h : List (Option Chunk)) (hi : h[i]? = some (some o)) (hin : IsNum o m a) (hj : h[j]? = some (some o2)) (hjn : IsNum o2 q b) (hl : nl a ≤ m) (hm : m ≤ 31) (hl2 : nl b ≤ q) (hq : q ≤ 31) (hba : b ≤ a) (hp : 0 < nl a) (h0 : h[K]? = some none) :
    CallOK Try.prog 89 [.slice (some ⟨i, 0, some 0⟩) (nl a) m, .slice (some ⟨j, 0, some 0⟩) (nl b) q] h (.slice (some ⟨K, 0, some 0⟩) (nl (a - b)) (nl a)) [(K, numC true (nl a) (a - b))] [i, j] := by
  have hs : a - b < bw (nl a) := Nat.lt_of_le_of_lt (Nat.sub_le _ _) (nl_self a)
  refine call_sub (G := tys) [⟨i, _, numC false m a, ⟨false, 0, []⟩⟩, ⟨j, _, numC false q b, ⟨false, 0, []⟩⟩] [⟨K, 6, numC true (nl a) (a - b)⟩] [.slice (some ⟨0, 0, some 0⟩) (nl a) m, .slice (some ⟨1, 0, some 0⟩) (nl b) q] tysOK mixed Try.func89 (by rfl) (Try.call89) ⟨hi, hj, trivial⟩ ⟨⟨fun h => (by cases h), Nat.le_of_eq hin.1.symm, num_re hin⟩, ⟨fun h => (by cases h), Nat.le_of_eq hjn.1.symm, num_re hjn⟩, trivial⟩ (by simp [Apart]) ⟨⟨h0, rfl, by show 0 < nl a; exact hp, by simp⟩, trivial⟩ ⟨.slice rfl, .slice rfl, trivial⟩ ?_
  repeat' (refine N.go ?_; first | with_reducible refine N.obl (by decide) ?_ | with_reducible refine N.obl (flat_wi _ _ _) ?_ | with_reducible refine N.obl (flat_lim _ _) ?_ | with_reducible refine N.eq ?_ | with_reducible refine N.obl rfl ?_ | with_reducible refine N.obl ⟨by kernel_rfl, by kernel_rfl⟩ ?_ | with_reducible refine N.alt ?_ | with_reducible refine N.forkT ?_ | with_reducible refine N.forkF ?_ | refine MakeN.mk1 (nl a) (nl a) rfl rfl (by show 4 * (nl a) ≤ _; omega) (by omega) (Nat.mul_one _).symm ?_ | refine N.forkNo (by decide) ?_ | refine N.forkYes (by decide) ?_ | refine N.forkYes (by rw [decide_eq_true_eq]; omega) ?_ | refine N.forkNo (by rw [decide_eq_false_iff_not]; omega) ?_ | refine N.obl trivial ?_ | exact N.true | fail_if_success skip)
  refine N.go ?_
  refine N.loop (α := Nat) (fun i => i ≤ nl a) (fun i => nl a - i) (fun i => [(13, .int .i64 (i : Int)), (6, .int .i64 (brw a b i))]) (fun i => [(6, numC true (nl a) ((a - b) % bw i))]) 0 (Nat.zero_le _) ?_ ?_
  · repeat (refine N.go ?_; first | exact N.true | with_reducible refine N.obl rfl ?_ | with_reducible refine N.obl (ChunkLe.refl _) ?_ | refine N.obl (int_i64 (by rw [IntWalk.i64_in _ (by omega)]; rfl)) ?_ | refine N.obl (by rw [bw_zero, Nat.mod_one]; exact zeros_num) ?_ | refine N.obl (inteq (by unfold brw; rw [bw_zero, Nat.mod_one, Nat.mod_one]; rfl)) ?_ |  fail_if_success skip)
  · intro i hi'
    have hi' : i ≤ nl a := hi'
    rcases Nat.lt_or_ge i (nl a) with hlt | hge
    · obtain ⟨m1, m2, m3, m4⟩ := sub_word a b i hba
      have hx := lm_lt a i
      have hy := lm_lt b i
      have hsh : ∀ z : Int, z.fdiv (2 ^ sh 32 IntKind.i64) = z.fdiv 4294967296 := fun z => rfl
      generalize hc0 : brw a b i = C at *
      have ev : IntKind.i64.wrap (IntKind.i64.wrap (C + IntKind.i64.wrap ((lm a i : Nat) : Int)) - IntKind.i64.wrap ((lm b i : Nat) : Int)) = C + (lm a i : Nat) - (lm b i : Nat) := by
        rw [i64n (lm a i : Nat) (by omega) (by omega), i64n (lm b i : Nat) (by omega) (by omega), i64n (C + (lm a i : Nat)) (by omega) (by omega), i64n _ (by omega) (by omega)]
      rcases Nat.lt_or_ge i (nl b) with hib | hib
      · repeat' (refine N.go ?_; first | with_reducible refine N.obl (by decide) ?_ | with_reducible refine N.obl (flat_wi _ _ _) ?_ | with_reducible refine N.obl (flat_lim _ _) ?_ | with_reducible refine N.eq ?_ | with_reducible refine N.obl rfl ?_ | with_reducible refine N.obl ⟨by kernel_rfl, by kernel_rfl⟩ ?_ | with_reducible refine N.alt ?_ | with_reducible refine N.forkT ?_ | with_reducible refine N.forkF ?_ | refine N.idx i 1 (by first | rfl | exact i64n _ (by omega) (by omega) | (rw [i64n _ (by omega) (by omega)]; omega)) (by omega) ?_ | refine N.load _ (reads_num (p := i) (by omega) (by omega)) ?_ | refine N.store _ (writes_next rfl (by omega) (by rw [ev, IntKind.wrap_u32, m1])) ?_ | refine N.forkNo (by decide) ?_ | refine N.forkYes (by decide) ?_ | refine N.forkYes (by rw [decide_eq_true_eq]; omega) ?_ | refine N.forkNo (by rw [decide_eq_false_iff_not]; omega) ?_ | refine N.obl trivial ?_ | exact N.true | fail_if_success skip)
        refine N.go ?_
        refine N.next (i + 1) ⟨by show i + 1 ≤ nl a; omega, by show nl a - (i + 1) < nl a - i; omega⟩ ?_
        repeat (refine N.go ?_; first | exact N.true | with_reducible refine N.obl rfl ?_ | with_reducible refine N.obl (ChunkLe.refl _) ?_ | refine N.obl (int_i64 (by rw [IntWalk.i64_in _ (by omega)]; rfl)) ?_ | refine N.obl (inteq (by rw [i64n _ (by omega) (by omega)]; rfl)) ?_ | refine N.obl (inteq (by rw [ev, hsh, m2])) ?_ |  fail_if_success skip)
      · have hz : lm b i = 0 := lm_big (Nat.lt_of_lt_of_le (nl_self b) (bw_mono hib))
        have ev0 : IntKind.i64.wrap (C + IntKind.i64.wrap ((lm a i : Nat) : Int)) = C + (lm a i : Nat) - (lm b i : Nat) := by
          rw [hz, i64n (lm a i : Nat) (by omega) (by omega), i64n _ (by omega) (by omega)]; omega
        repeat' (refine N.go ?_; first | with_reducible refine N.obl (by decide) ?_ | with_reducible refine N.obl (flat_wi _ _ _) ?_ | with_reducible refine N.obl (flat_lim _ _) ?_ | with_reducible refine N.eq ?_ | with_reducible refine N.obl rfl ?_ | with_reducible refine N.obl ⟨by kernel_rfl, by kernel_rfl⟩ ?_ | with_reducible refine N.alt ?_ | with_reducible refine N.forkT ?_ | with_reducible refine N.forkF ?_ | refine N.idx i 1 (by first | rfl | exact i64n _ (by omega) (by omega) | (rw [i64n _ (by omega) (by omega)]; omega)) (by omega) ?_ | refine N.load _ (reads_num (p := i) (by omega) (by omega)) ?_ | refine N.store _ (writes_next rfl (by omega) (by rw [ev0, IntKind.wrap_u32, m1])) ?_ | refine N.forkNo (by decide) ?_ | refine N.forkYes (by decide) ?_ | refine N.forkYes (by rw [decide_eq_true_eq]; omega) ?_ | refine N.forkNo (by rw [decide_eq_false_iff_not]; omega) ?_ | refine N.obl trivial ?_ | exact N.true | fail_if_success skip)
        refine N.go ?_
        refine N.next (i + 1) ⟨by show i + 1 ≤ nl a; omega, by show nl a - (i + 1) < nl a - i; omega⟩ ?_
        repeat (refine N.go ?_; first | exact N.true | with_reducible refine N.obl rfl ?_ | with_reducible refine N.obl (ChunkLe.refl _) ?_ | refine N.obl (int_i64 (by rw [IntWalk.i64_in _ (by omega)]; rfl)) ?_ | refine N.obl (inteq (by rw [i64n _ (by omega) (by omega)]; rfl)) ?_ | refine N.obl (inteq (by rw [ev0, hsh, m2])) ?_ |  fail_if_success skip)
    · obtain rfl : i = nl a := by omega
      have he : (a - b) % bw (nl a) = a - b := Nat.mod_eq_of_lt hs
      repeat' (refine N.go ?_; first | with_reducible refine N.obl (by decide) ?_ | with_reducible refine N.obl (flat_wi _ _ _) ?_ | with_reducible refine N.obl (flat_lim _ _) ?_ | with_reducible refine N.eq ?_ | with_reducible refine N.obl rfl ?_ | with_reducible refine N.obl ⟨by kernel_rfl, by kernel_rfl⟩ ?_ | with_reducible refine N.alt ?_ | with_reducible refine N.forkT ?_ | with_reducible refine N.forkF ?_ | refine N.call (cTrim (a - b) (nl a) (nl a) _ _ _ (by rfl) (by rw [he]; exact isNum _ _ _) (by omega) (by omega) hs) ?_ | refine N.obl (re_sl (by rfl) rfl) ?_ | refine N.obl ⟨⟨by show 2 ≤ 6; decide, post_num (by rfl) rfl (by rw [he]; exact isNum _ _ _)⟩, trivial⟩ ?_ | refine N.forkNo (by decide) ?_ | refine N.forkYes (by decide) ?_ | refine N.forkYes (by rw [decide_eq_true_eq]; omega) ?_ | refine N.forkNo (by rw [decide_eq_false_iff_not]; omega) ?_ | refine N.obl trivial ?_ | exact N.true | fail_if_success skip)
set_option maxRecDepth 100000 in
set_option maxHeartbeats 2000000 in
theorem cPlusA (a b m q i j K : Nat) (o o2 : Chunk) (h : List (Option Chunk)) (hi : h[i]? = some (some o)) (hin : IsNum o m a) (hj : h[j]? = some (some o2)) (hjn : IsNum o2 q b) (hl : nl a ≤ m) (hm : m ≤ 31) (hl2 : nl b ≤ q) (hq : q ≤ 31) (hba : nl b ≤ nl a) (h0 : h[K]? = some none) :
    CallOK Try.prog 87 [.slice (some ⟨i, 0, some 0⟩) (nl a) m, .slice (some ⟨j, 0, some 0⟩) (nl b) q] h (.slice (some ⟨K, 0, some 0⟩) (nl (a + b)) (nl a + 1)) [(K, numC true (nl a + 1) (a + b))] [i, j] := by
  have hs : a + b < bw (nl a + 1) := by
    rw [bw_succ]
    have h1 := nl_self a
    have h2 := nl_le.1 (show nl b ≤ nl a by omega)
    omega
  refine call_sub (G := tys) [⟨i, _, numC false m a, ⟨false, 0, []⟩⟩, ⟨j, _, numC false q b, ⟨false, 0, []⟩⟩] [⟨K, 6, numC true (nl a + 1) (a + b)⟩] [.slice (some ⟨0, 0, some 0⟩) (nl a) m, .slice (some ⟨1, 0, some 0⟩) (nl b) q] tysOK mixed Try.func87 (by rfl) (Try.call87) ⟨hi, hj, trivial⟩ ⟨⟨fun h => (by cases h), Nat.le_of_eq hin.1.symm, num_re hin⟩, ⟨fun h => (by cases h), Nat.le_of_eq hjn.1.symm, num_re hjn⟩, trivial⟩ (by simp [Apart]) ⟨⟨h0, rfl, by show 0 < nl a + 1; omega, by simp⟩, trivial⟩ ⟨.slice rfl, .slice rfl, trivial⟩ ?_
  repeat' (refine N.go ?_; first | with_reducible refine N.obl (by decide) ?_ | with_reducible refine N.obl (flat_wi _ _ _) ?_ | with_reducible refine N.obl (flat_lim _ _) ?_ | with_reducible refine N.eq ?_ | with_reducible refine N.obl rfl ?_ | with_reducible refine N.obl ⟨by kernel_rfl, by kernel_rfl⟩ ?_ | with_reducible refine N.alt ?_ | with_reducible refine N.forkT ?_ | with_reducible refine N.forkF ?_ | refine MakeN.mk1 (nl a + 1) (nl a + 1) (by rw [i64n _ (by omega) (by omega)]; rfl) (by rw [i64n _ (by omega) (by omega)]; rfl) (by show 4 * (nl a + 1) ≤ _; omega) (by omega) (Nat.mul_one _).symm ?_ | refine N.forkNo (by decide) ?_ | refine N.forkYes (by decide) ?_ | refine N.forkYes (by rw [decide_eq_true_eq]; omega) ?_ | refine N.forkNo (by rw [decide_eq_false_iff_not]; omega) ?_ | refine N.obl trivial ?_ | exact N.true | fail_if_success skip)
  refine N.go ?_
  refine N.loop (α := Nat) (fun i => i ≤ nl a) (fun i => nl a - i) (fun i => [(21, .int .i64 (i : Int)), (6, .int .u64 (((a % bw i + b % bw i) / bw i : Nat) : Int))]) (fun i => [(6, numC true (nl a + 1) ((a + b) % bw i))]) 0 (Nat.zero_le _) ?_ ?_
  · repeat (refine N.go ?_; first | exact N.true | with_reducible refine N.obl rfl ?_ | with_reducible refine N.obl (ChunkLe.refl _) ?_ | refine N.obl (int_i64 (by rw [IntWalk.i64_in _ (by omega)]; rfl)) ?_ | refine N.obl (by rw [bw_zero, Nat.mod_one]; exact zeros_num) ?_ | refine N.obl (inteq (by rw [bw_zero, Nat.mod_one, Nat.mod_one]; rfl)) ?_ |  fail_if_success skip)
  · intro i hi'
    have hi' : i ≤ nl a := hi'
    have hcm : a + b = a + b := by omega
    rcases Nat.lt_or_ge i (nl a) with hlt | hge
    · obtain ⟨m1, m2, m3⟩ := add_word a b i
      rw [hcm] at m1
      generalize hC : (a % bw i + b % bw i) / bw i = C at *
      have hx := lm_lt a i
      have hy := lm_lt b i
      have ev : IntKind.u64.wrap (IntKind.u64.wrap ((C : Int) + IntKind.u64.wrap ((lm a i : Nat) : Int)) + IntKind.u64.wrap ((lm b i : Nat) : Int)) = ((C + lm a i + lm b i : Nat) : Int) := by
        rw [w64 (n := lm a i) (by omega), w64 (n := lm b i) (by omega), ← Int.natCast_add, w64 (n := C + lm a i) (by omega), ← Int.natCast_add, w64 (by omega)]
      have ev0 : IntKind.u64.wrap ((C : Int) + IntKind.u64.wrap ((lm a i : Nat) : Int)) = ((C + lm a i : Nat) : Int) := by
        rw [w64 (n := lm a i) (by omega), ← Int.natCast_add, w64 (n := C + lm a i) (by omega)]
      rcases Nat.lt_or_ge i (nl b) with hib | hib
      · repeat' (refine N.go ?_; first | with_reducible refine N.obl (by decide) ?_ | with_reducible refine N.obl (flat_wi _ _ _) ?_ | with_reducible refine N.obl (flat_lim _ _) ?_ | with_reducible refine N.eq ?_ | with_reducible refine N.obl rfl ?_ | with_reducible refine N.obl ⟨by kernel_rfl, by kernel_rfl⟩ ?_ | with_reducible refine N.alt ?_ | with_reducible refine N.forkT ?_ | with_reducible refine N.forkF ?_ | refine N.store _ (writes_next rfl (by omega) (by rw [ev, w32, m1])) ?_ | refine N.idx i 1 rfl (by omega) ?_ | refine N.load _ (reads_num (p := i) (by omega) (by omega)) ?_ | refine N.forkNo (by decide) ?_ | refine N.forkYes (by decide) ?_ | refine N.forkYes (by rw [decide_eq_true_eq]; omega) ?_ | refine N.forkNo (by rw [decide_eq_false_iff_not]; omega) ?_ | refine N.obl trivial ?_ | exact N.true | fail_if_success skip)
        refine N.go ?_
        refine N.next (i + 1) ⟨by show i + 1 ≤ nl a; omega, by omega⟩ ?_
        repeat (refine N.go ?_; first | exact N.true | with_reducible refine N.obl rfl ?_ | with_reducible refine N.obl (ChunkLe.refl _) ?_ | refine N.obl (int_i64 (by rw [IntWalk.i64_in _ (by omega)]; rfl)) ?_ | refine N.obl (inteq (by rw [i64n _ (by omega) (by omega)]; omega)) ?_ | refine N.obl (inteq (by rw [ev, fd32, m2])) ?_ |  fail_if_success skip)
      · have hz : lm b i = 0 := lm_big (Nat.lt_of_lt_of_le (nl_self b) (bw_mono hib))
        repeat' (refine N.go ?_; first | with_reducible refine N.obl (by decide) ?_ | with_reducible refine N.obl (flat_wi _ _ _) ?_ | with_reducible refine N.obl (flat_lim _ _) ?_ | with_reducible refine N.eq ?_ | with_reducible refine N.obl rfl ?_ | with_reducible refine N.obl ⟨by kernel_rfl, by kernel_rfl⟩ ?_ | with_reducible refine N.alt ?_ | with_reducible refine N.forkT ?_ | with_reducible refine N.forkF ?_ | refine N.store _ (writes_next rfl (by omega) (by rw [ev0, w32, m1, hz]; rfl)) ?_ | refine N.idx i 1 rfl (by omega) ?_ | refine N.load _ (reads_num (p := i) (by omega) (by omega)) ?_ | refine N.forkNo (by decide) ?_ | refine N.forkYes (by decide) ?_ | refine N.forkYes (by rw [decide_eq_true_eq]; omega) ?_ | refine N.forkNo (by rw [decide_eq_false_iff_not]; omega) ?_ | refine N.obl trivial ?_ | exact N.true | fail_if_success skip)
        refine N.go ?_
        refine N.next (i + 1) ⟨by show i + 1 ≤ nl a; omega, by omega⟩ ?_
        repeat (refine N.go ?_; first | exact N.true | with_reducible refine N.obl rfl ?_ | with_reducible refine N.obl (ChunkLe.refl _) ?_ | refine N.obl (int_i64 (by rw [IntWalk.i64_in _ (by omega)]; rfl)) ?_ | refine N.obl (inteq (by rw [i64n _ (by omega) (by omega)]; omega)) ?_ | refine N.obl (inteq (by rw [ev0, fd32, m2, hz]; rfl)) ?_ |  fail_if_success skip)
    · obtain rfl : i = nl a := by omega
      have ha := nl_self a
      have hb := nl_le.1 (show nl b ≤ nl a by omega)
      have hc : ((a % bw (nl a) + b % bw (nl a)) / bw (nl a)) = lm (a + b) (nl a) := by
        rw [Nat.mod_eq_of_lt ha, Nat.mod_eq_of_lt hb, hcm]
        unfold lm
        rw [Nat.mod_eq_of_lt ((Nat.div_lt_iff_lt_mul (bw_pos _)).2 (by rw [Nat.mul_comm, ← bw_succ]; exact hs))]
      have hlt := lm_lt (a + b) (nl a)
      have he : (a + b) % bw (nl a + 1) = a + b := Nat.mod_eq_of_lt hs
      repeat' (refine N.go ?_; first | with_reducible refine N.obl (by decide) ?_ | with_reducible refine N.obl (flat_wi _ _ _) ?_ | with_reducible refine N.obl (flat_lim _ _) ?_ | with_reducible refine N.eq ?_ | with_reducible refine N.obl rfl ?_ | with_reducible refine N.obl ⟨by kernel_rfl, by kernel_rfl⟩ ?_ | with_reducible refine N.alt ?_ | with_reducible refine N.forkT ?_ | with_reducible refine N.forkF ?_ | refine N.idx (nl a) 1 rfl (by omega) ?_ | refine N.store _ (writes_next rfl (by omega) (by rw [w32, hc]; omega)) ?_ | refine N.call (cTrim (a + b) (nl a + 1) (nl a + 1) _ _ _ (by rfl) (by rw [he]; exact isNum _ _ _) (by omega) (by omega) hs) ?_ | refine N.obl (re_sl (by rfl) rfl) ?_ | refine N.obl ⟨⟨by show 2 ≤ 6; decide, post_num (by rfl) rfl (by rw [he]; exact isNum _ _ _)⟩, trivial⟩ ?_ | refine N.forkNo (by decide) ?_ | refine N.forkYes (by decide) ?_ | refine N.forkYes (by rw [decide_eq_true_eq]; omega) ?_ | refine N.forkNo (by rw [decide_eq_false_iff_not]; omega) ?_ | refine N.obl trivial ?_ | exact N.true | fail_if_success skip)
set_option maxRecDepth 100000 in
set_option maxHeartbeats 2000000 in
theorem cPlusB (a b m q i j K : Nat) (o o2 : Chunk) (h : List (Option Chunk)) (hi : h[i]? = some (some o)) (hin : IsNum o m a) (hj : h[j]? = some (some o2)) (hjn : IsNum o2 q b) (hl : nl a ≤ m) (hm : m ≤ 31) (hl2 : nl b ≤ q) (hq : q ≤ 31) (hba : nl a < nl b) (h0 : h[K]? = some none) :
    CallOK Try.prog 87 [.slice (some ⟨i, 0, some 0⟩) (nl a) m, .slice (some ⟨j, 0, some 0⟩) (nl b) q] h (.slice (some ⟨K, 0, some 0⟩) (nl (a + b)) (nl b + 1)) [(K, numC true (nl b + 1) (a + b))] [i, j] := by
  have hs : a + b < bw (nl b + 1) := by
    rw [bw_succ]
    have h1 := nl_self b
    have h2 := nl_le.1 (show nl a ≤ nl b by omega)
    omega
  refine call_sub (G := tys) [⟨i, _, numC false m a, ⟨false, 0, []⟩⟩, ⟨j, _, numC false q b, ⟨false, 0, []⟩⟩] [⟨K, 6, numC true (nl b + 1) (a + b)⟩] [.slice (some ⟨0, 0, some 0⟩) (nl a) m, .slice (some ⟨1, 0, some 0⟩) (nl b) q] tysOK mixed Try.func87 (by rfl) (Try.call87) ⟨hi, hj, trivial⟩ ⟨⟨fun h => (by cases h), Nat.le_of_eq hin.1.symm, num_re hin⟩, ⟨fun h => (by cases h), Nat.le_of_eq hjn.1.symm, num_re hjn⟩, trivial⟩ (by simp [Apart]) ⟨⟨h0, rfl, by show 0 < nl b + 1; omega, by simp⟩, trivial⟩ ⟨.slice rfl, .slice rfl, trivial⟩ ?_
  repeat' (refine N.go ?_; first | with_reducible refine N.obl (by decide) ?_ | with_reducible refine N.obl (flat_wi _ _ _) ?_ | with_reducible refine N.obl (flat_lim _ _) ?_ | with_reducible refine N.eq ?_ | with_reducible refine N.obl rfl ?_ | with_reducible refine N.obl ⟨by kernel_rfl, by kernel_rfl⟩ ?_ | with_reducible refine N.alt ?_ | with_reducible refine N.forkT ?_ | with_reducible refine N.forkF ?_ | refine MakeN.mk1 (nl b + 1) (nl b + 1) (by rw [i64n _ (by omega) (by omega)]; rfl) (by rw [i64n _ (by omega) (by omega)]; rfl) (by show 4 * (nl b + 1) ≤ _; omega) (by omega) (Nat.mul_one _).symm ?_ | refine N.forkNo (by decide) ?_ | refine N.forkYes (by decide) ?_ | refine N.forkYes (by rw [decide_eq_true_eq]; omega) ?_ | refine N.forkNo (by rw [decide_eq_false_iff_not]; omega) ?_ | refine N.obl trivial ?_ | exact N.true | fail_if_success skip)
  refine N.go ?_
  refine N.loop (α := Nat) (fun i => i ≤ nl b) (fun i => nl b - i) (fun i => [(21, .int .i64 (i : Int)), (6, .int .u64 (((b % bw i + a % bw i) / bw i : Nat) : Int))]) (fun i => [(6, numC true (nl b + 1) ((a + b) % bw i))]) 0 (Nat.zero_le _) ?_ ?_
  · repeat (refine N.go ?_; first | exact N.true | with_reducible refine N.obl rfl ?_ | with_reducible refine N.obl (ChunkLe.refl _) ?_ | refine N.obl (int_i64 (by rw [IntWalk.i64_in _ (by omega)]; rfl)) ?_ | refine N.obl (by rw [bw_zero, Nat.mod_one]; exact zeros_num) ?_ | refine N.obl (inteq (by rw [bw_zero, Nat.mod_one, Nat.mod_one]; rfl)) ?_ |  fail_if_success skip)
  · intro i hi'
    have hi' : i ≤ nl b := hi'
    have hcm : b + a = a + b := by omega
    rcases Nat.lt_or_ge i (nl b) with hlt | hge
    · obtain ⟨m1, m2, m3⟩ := add_word b a i
      rw [hcm] at m1
      generalize hC : (b % bw i + a % bw i) / bw i = C at *
      have hx := lm_lt b i
      have hy := lm_lt a i
      have ev : IntKind.u64.wrap (IntKind.u64.wrap ((C : Int) + IntKind.u64.wrap ((lm b i : Nat) : Int)) + IntKind.u64.wrap ((lm a i : Nat) : Int)) = ((C + lm b i + lm a i : Nat) : Int) := by
        rw [w64 (n := lm b i) (by omega), w64 (n := lm a i) (by omega), ← Int.natCast_add, w64 (n := C + lm b i) (by omega), ← Int.natCast_add, w64 (by omega)]
      have ev0 : IntKind.u64.wrap ((C : Int) + IntKind.u64.wrap ((lm b i : Nat) : Int)) = ((C + lm b i : Nat) : Int) := by
        rw [w64 (n := lm b i) (by omega), ← Int.natCast_add, w64 (n := C + lm b i) (by omega)]
      rcases Nat.lt_or_ge i (nl a) with hib | hib
      · repeat' (refine N.go ?_; first | with_reducible refine N.obl (by decide) ?_ | with_reducible refine N.obl (flat_wi _ _ _) ?_ | with_reducible refine N.obl (flat_lim _ _) ?_ | with_reducible refine N.eq ?_ | with_reducible refine N.obl rfl ?_ | with_reducible refine N.obl ⟨by kernel_rfl, by kernel_rfl⟩ ?_ | with_reducible refine N.alt ?_ | with_reducible refine N.forkT ?_ | with_reducible refine N.forkF ?_ | refine N.store _ (writes_next rfl (by omega) (by rw [ev, w32, m1])) ?_ | refine N.idx i 1 rfl (by omega) ?_ | refine N.load _ (reads_num (p := i) (by omega) (by omega)) ?_ | refine N.forkNo (by decide) ?_ | refine N.forkYes (by decide) ?_ | refine N.forkYes (by rw [decide_eq_true_eq]; omega) ?_ | refine N.forkNo (by rw [decide_eq_false_iff_not]; omega) ?_ | refine N.obl trivial ?_ | exact N.true | fail_if_success skip)
        refine N.go ?_
        refine N.next (i + 1) ⟨by show i + 1 ≤ nl b; omega, by omega⟩ ?_
        repeat (refine N.go ?_; first | exact N.true | with_reducible refine N.obl rfl ?_ | with_reducible refine N.obl (ChunkLe.refl _) ?_ | refine N.obl (int_i64 (by rw [IntWalk.i64_in _ (by omega)]; rfl)) ?_ | refine N.obl (inteq (by rw [i64n _ (by omega) (by omega)]; omega)) ?_ | refine N.obl (inteq (by rw [ev, fd32, m2])) ?_ |  fail_if_success skip)
      · have hz : lm a i = 0 := lm_big (Nat.lt_of_lt_of_le (nl_self a) (bw_mono hib))
        repeat' (refine N.go ?_; first | with_reducible refine N.obl (by decide) ?_ | with_reducible refine N.obl (flat_wi _ _ _) ?_ | with_reducible refine N.obl (flat_lim _ _) ?_ | with_reducible refine N.eq ?_ | with_reducible refine N.obl rfl ?_ | with_reducible refine N.obl ⟨by kernel_rfl, by kernel_rfl⟩ ?_ | with_reducible refine N.alt ?_ | with_reducible refine N.forkT ?_ | with_reducible refine N.forkF ?_ | refine N.store _ (writes_next rfl (by omega) (by rw [ev0, w32, m1, hz]; rfl)) ?_ | refine N.idx i 1 rfl (by omega) ?_ | refine N.load _ (reads_num (p := i) (by omega) (by omega)) ?_ | refine N.forkNo (by decide) ?_ | refine N.forkYes (by decide) ?_ | refine N.forkYes (by rw [decide_eq_true_eq]; omega) ?_ | refine N.forkNo (by rw [decide_eq_false_iff_not]; omega) ?_ | refine N.obl trivial ?_ | exact N.true | fail_if_success skip)
        refine N.go ?_
        refine N.next (i + 1) ⟨by show i + 1 ≤ nl b; omega, by omega⟩ ?_
        repeat (refine N.go ?_; first | exact N.true | with_reducible refine N.obl rfl ?_ | with_reducible refine N.obl (ChunkLe.refl _) ?_ | refine N.obl (int_i64 (by rw [IntWalk.i64_in _ (by omega)]; rfl)) ?_ | refine N.obl (inteq (by rw [i64n _ (by omega) (by omega)]; omega)) ?_ | refine N.obl (inteq (by rw [ev0, fd32, m2, hz]; rfl)) ?_ |  fail_if_success skip)
    · obtain rfl : i = nl b := by omega
      have ha := nl_self b
      have hb := nl_le.1 (show nl a ≤ nl b by omega)
      have hc : ((b % bw (nl b) + a % bw (nl b)) / bw (nl b)) = lm (a + b) (nl b) := by
        rw [Nat.mod_eq_of_lt ha, Nat.mod_eq_of_lt hb, hcm]
        unfold lm
        rw [Nat.mod_eq_of_lt ((Nat.div_lt_iff_lt_mul (bw_pos _)).2 (by rw [Nat.mul_comm, ← bw_succ]; exact hs))]
      have hlt := lm_lt (a + b) (nl b)
      have he : (a + b) % bw (nl b + 1) = a + b := Nat.mod_eq_of_lt hs
      repeat' (refine N.go ?_; first | with_reducible refine N.obl (by decide) ?_ | with_reducible refine N.obl (flat_wi _ _ _) ?_ | with_reducible refine N.obl (flat_lim _ _) ?_ | with_reducible refine N.eq ?_ | with_reducible refine N.obl rfl ?_ | with_reducible refine N.obl ⟨by kernel_rfl, by kernel_rfl⟩ ?_ | with_reducible refine N.alt ?_ | with_reducible refine N.forkT ?_ | with_reducible refine N.forkF ?_ | refine N.idx (nl b) 1 rfl (by omega) ?_ | refine N.store _ (writes_next rfl (by omega) (by rw [w32, hc]; omega)) ?_ | refine N.call (cTrim (a + b) (nl b + 1) (nl b + 1) _ _ _ (by rfl) (by rw [he]; exact isNum _ _ _) (by omega) (by omega) hs) ?_ | refine N.obl (re_sl (by rfl) rfl) ?_ | refine N.obl ⟨⟨by show 2 ≤ 6; decide, post_num (by rfl) rfl (by rw [he]; exact isNum _ _ _)⟩, trivial⟩ ?_ | refine N.forkNo (by decide) ?_ | refine N.forkYes (by decide) ?_ | refine N.forkYes (by rw [decide_eq_true_eq]; omega) ?_ | refine N.forkNo (by rw [decide_eq_false_iff_not]; omega) ?_ | refine N.obl trivial ?_ | exact N.true | fail_if_success skip)
theorem zX_selfish : Selfish zX := fun p S w h => (h.1 _).2 rfl
theorem zc_num : IsNum zC 0 0 := ⟨rfl, fun j hj => absurd hj (Nat.not_lt_zero j)⟩
theorem nl0 {a : Nat} (h : nl a = 0) : a = 0 := nl_zero_iff.1 h
theorem post_z {ix : List (Nat × Nat)} {h : List (Option Chunk)} {k : Nat} (hh : h[k]? = some (some zC)) : PostC ix h k zC := ⟨zC, hh, id, Nat.le_refl _, fun j hj => absurd hj (Nat.not_lt_zero j)⟩
set_option maxRecDepth 100000 in
set_option maxHeartbeats 2000000 in
theorem cTimes0 (a b m q i j K : Nat) (o o2 : Chunk) (h : List (Option Chunk)) (hi : h[i]? = some (some o)) (hin : IsNum o m a) (hj : h[j]? = some (some o2)) (hjn : IsNum o2 q b) (hl : nl a ≤ m) (hm : m ≤ 31) (hl2 : nl b ≤ q) (hq : q ≤ 31) (hz : nl a + nl b = 0) (h0 : h[K]? = some none) :
    CallOK Try.prog 66 [.slice (some ⟨i, 0, some 0⟩) (nl a) m, .slice (some ⟨j, 0, some 0⟩) (nl b) q] h (.slice (some ⟨K, 0, some 0⟩) 0 0) [(K, zC)] [i, j] := by
  have ha0 : nl a = 0 := by omega
  have hb0 : nl b = 0 := by have := nl0 ha0; omega
  refine call_res (G := tys) (fun _ : Unit => True) (fun _ => partH [⟨i, _, numC false m a, ⟨false, 0, []⟩⟩, ⟨j, _, numC false q b, ⟨false, 0, []⟩⟩]) [⟨i, _, numC false m a, ⟨false, 0, []⟩⟩, ⟨j, _, numC false q b, ⟨false, 0, []⟩⟩] [⟨K, 10, zC⟩] [.slice (some ⟨0, 0, some 0⟩) (nl a) m, .slice (some ⟨1, 0, some 0⟩) (nl b) q] tysOK mixed Try.func66 (by rfl) (Try.call66) ⟨hi, hj, trivial⟩ ⟨⟨fun h => (by cases h), Nat.le_of_eq hin.1.symm, num_re hin⟩, ⟨fun h => (by cases h), Nat.le_of_eq hjn.1.symm, num_re hjn⟩, trivial⟩ (by simp [Apart]) ⟨.inl rfl, .inl rfl, trivial⟩ ⟨⟨h0, rfl, .inr zX_selfish, by simp⟩, trivial⟩ ⟨.slice rfl, .slice rfl, trivial⟩ Opens.same (fun _ _ => ?_)
  repeat' (refine N.go ?_; first | with_reducible refine N.obl (by decide) ?_ | with_reducible refine N.obl (flat_wi _ _ _) ?_ | with_reducible refine N.obl (flat_lim _ _) ?_ | with_reducible refine N.eq ?_ | with_reducible refine N.obl rfl ?_ | with_reducible refine N.obl ⟨by kernel_rfl, by kernel_rfl⟩ ?_ | with_reducible refine N.alt ?_ | with_reducible refine N.forkT ?_ | with_reducible refine N.forkF ?_ | refine N.mk (.inr ⟨by rw [ha0, hb0]; rfl, by rw [ha0, hb0]; rfl, ?_⟩) | refine N.roll 1 ?_ | refine N.forkNo (by rw [ha0]; rfl) ?_ | refine N.call (cTrim 0 0 0 _ _ _ (by rfl) zc_num (Nat.le_refl _) (by omega) (by rw [bw_zero]; decide)) ?_ | refine N.endSame ?_ | refine N.obl (re_sl (by rfl) (by rw [nl_zero])) ?_ | refine N.obl ⟨⟨by show 2 ≤ 10; decide, post_z (by rfl)⟩, trivial⟩ ?_ | refine N.obl ⟨⟨.inl rfl, .inl rfl, trivial⟩, ⟨.inr ⟨_, by rfl, rfl⟩, trivial⟩⟩ ?_ | refine N.forkNo (by decide) ?_ | refine N.forkYes (by decide) ?_ | refine N.obl trivial ?_ | exact N.true | fail_if_success skip)
set_option maxRecDepth 100000 in
set_option maxHeartbeats 2000000 in
theorem cMinus0 (a b m q i j K : Nat) (o o2 : Chunk) (h : List (Option Chunk)) (hi : h[i]? = some (some o)) (hin : IsNum o m a) (hj : h[j]? = some (some o2)) (hjn : IsNum o2 q b) (hl : nl a ≤ m) (hm : m ≤ 31) (hl2 : nl b ≤ q) (hq : q ≤ 31) (hz : nl a = 0) (hba : b ≤ a) (h0 : h[K]? = some none) :
    CallOK Try.prog 89 [.slice (some ⟨i, 0, some 0⟩) (nl a) m, .slice (some ⟨j, 0, some 0⟩) (nl b) q] h (.slice (some ⟨K, 0, some 0⟩) 0 0) [(K, zC)] [i, j] := by
  have ha0 : nl a = 0 := by omega
  have hb0 : nl b = 0 := by have := nl0 ha0; have hb : b = 0 := (by omega); rw [hb, nl_zero]
  refine call_res (G := tys) (fun _ : Unit => True) (fun _ => partH [⟨i, _, numC false m a, ⟨false, 0, []⟩⟩, ⟨j, _, numC false q b, ⟨false, 0, []⟩⟩]) [⟨i, _, numC false m a, ⟨false, 0, []⟩⟩, ⟨j, _, numC false q b, ⟨false, 0, []⟩⟩] [⟨K, 6, zC⟩] [.slice (some ⟨0, 0, some 0⟩) (nl a) m, .slice (some ⟨1, 0, some 0⟩) (nl b) q] tysOK mixed Try.func89 (by rfl) (Try.call89) ⟨hi, hj, trivial⟩ ⟨⟨fun h => (by cases h), Nat.le_of_eq hin.1.symm, num_re hin⟩, ⟨fun h => (by cases h), Nat.le_of_eq hjn.1.symm, num_re hjn⟩, trivial⟩ (by simp [Apart]) ⟨.inl rfl, .inl rfl, trivial⟩ ⟨⟨h0, rfl, .inr zX_selfish, by simp⟩, trivial⟩ ⟨.slice rfl, .slice rfl, trivial⟩ Opens.same (fun _ _ => ?_)
  repeat' (refine N.go ?_; first | with_reducible refine N.obl (by decide) ?_ | with_reducible refine N.obl (flat_wi _ _ _) ?_ | with_reducible refine N.obl (flat_lim _ _) ?_ | with_reducible refine N.eq ?_ | with_reducible refine N.obl rfl ?_ | with_reducible refine N.obl ⟨by kernel_rfl, by kernel_rfl⟩ ?_ | with_reducible refine N.alt ?_ | with_reducible refine N.forkT ?_ | with_reducible refine N.forkF ?_ | refine N.mk (.inr ⟨by rw [ha0]; rfl, by rw [ha0]; rfl, ?_⟩) | refine N.roll 1 ?_ | refine N.forkNo (by rw [ha0]; rfl) ?_ | refine N.call (cTrim 0 0 0 _ _ _ (by rfl) zc_num (Nat.le_refl _) (by omega) (by rw [bw_zero]; decide)) ?_ | refine N.endSame ?_ | refine N.obl (re_sl (by rfl) (by rw [nl_zero])) ?_ | refine N.obl ⟨⟨by show 2 ≤ 6; decide, post_z (by rfl)⟩, trivial⟩ ?_ | refine N.obl ⟨⟨.inl rfl, .inl rfl, trivial⟩, ⟨.inr ⟨_, by rfl, rfl⟩, trivial⟩⟩ ?_ | refine N.forkNo (by decide) ?_ | refine N.forkYes (by decide) ?_ | refine N.obl trivial ?_ | exact N.true | fail_if_success skip)
end Go.Proofs.Ytpafcfelaaibgaa


/-
  Numbers of the document whose words lie somewhere in memory: what is known of them is kept as one stretch.
-/
set_option linter.unusedVariables false
set_option linter.unusedSimpArgs false
namespace Go.Proofs.Ytpafcfelaaibgaa
open Go Go.RowKit Sx

/-- A number: its words lie at a block, from a place on, with room. -/
structure Nm where
  v : Nat
  b : Nat
  o : Nat
  c : Nat
abbrev Nm.sl (e : Nm) : Value := .slice (some ⟨e.b, e.o, none⟩) (nl e.v) e.c
abbrev Nm.big (s : Bool) (e : Nm) : Value := .agg #[.bool s, .bool false, .slice (some ⟨e.b, e.o, none⟩) (nl e.v) e.c]
structure NumAt (w : World) (e : Nm) : Prop where
  lt : e.b < w.heap.size
  len : nl e.v ≤ e.c
  cap : e.c ≤ 31
  cell : ∀ j, j < e.c → w.cell? ⟨e.b, e.o + j, none⟩ = some (.int .u32 ((lm e.v j : Nat) : Int))
theorem cell_same {w w' : World} {b o : Nat} (h : w'.heap[b]? = w.heap[b]?) : w'.cell? ⟨b, o, none⟩ = w.cell? ⟨b, o, none⟩ := by
  simp only [World.cell?, h]
theorem NumAt.keep {w w' : World} {e : Nm} (h : NumAt w e) (hb : w'.heap[e.b]? = w.heap[e.b]?) : NumAt w' e := by
  refine ⟨?_, h.len, h.cap, fun j hj => (cell_same hb).trans (h.cell j hj)⟩
  have hlt := h.lt
  have : w.heap[e.b]? = some (w.heap[e.b]'hlt) := Array.getElem?_eq_getElem hlt
  rw [this] at hb
  exact (Array.getElem?_eq_some_iff.1 hb).1
theorem NumAt.below {w w' : World} {e : Nm} (h : NumAt w e) (hb : Below w.heap.size w w') : NumAt w' e := h.keep (hb.block e.b h.lt)
abbrev arX (L : List Nm) : Ext where
  inv := fun p S w => ∀ e ∈ L, S e.b ∧ NumAt w e
  keep := fun h hb e he => ⟨(h e he).1, (h e he).2.keep (hb _ (h e he).1)⟩
abbrev arC (L : List Nm) : Chunk := @Chunk.mk (arX L) true 0 []
section
variable {X : Ctx} {ρ : Nat → Nat × Nat} {h : List (Option Chunk)} {w w' : World}
theorem ar_new {K : Nat} {es : List Nm} {e0 : Nm} (H : HOK X ρ h w) (hi : h[K]? = some none) (hB : Below w.heap.size w w') (h0 : e0 ∈ es) (hes : ∀ e ∈ es, NumAt w' e ∧ w.heap.size ≤ e.b) : ∃ ρ', AgreeOn (Fil h) ρ ρ' ∧ HOK X ρ' (h.set K (some (arC es))) w' := by
  obtain ⟨ρ', h1, _, h2⟩ := H.newX hi (d := arC es) (b0 := e0.b) (S' := fun b => ∃ e ∈ es, b = e.b) rfl hB ⟨(hes e0 h0).2, (hes e0 h0).1.lt⟩ (fun b ⟨e, he, hb⟩ => by subst hb; exact ⟨(hes e he).2, (hes e he).1.lt⟩) (fun e he => ⟨⟨e, he, rfl⟩, (hes e he).1⟩)
  exact ⟨ρ', h1, h2⟩
theorem ar_more {i : Nat} {L es : List Nm} (H : HOK X ρ h w) (hi : h[i]? = some (some (arC L))) (hB : Below w.heap.size w w') (hes : ∀ e ∈ es, NumAt w' e ∧ w.heap.size ≤ e.b) : HOK X ρ (h.set i (some (arC (es ++ L)))) w' := by
  obtain ⟨S, E⟩ := H.ext
  have hin := E.inv i _ hi
  refine H.turnX E hi (d := arC (es ++ L)) (S' := fun b => S i b ∨ ∃ e ∈ es, b = e.b) id (Nat.le_refl _) (fun j hj => absurd hj (Nat.not_lt_zero j)) hB.os hB.tape hB.output hB.size (fun b hb _ => hB.block b hb) (fun b hb => ?_) (fun e he => ?_)
  · rcases hb with hb | ⟨e, he, rfl⟩
    · exact ⟨Nat.lt_of_lt_of_le (E.mine i _ b hi hb).2.1 hB.size, .inl rfl, .inl hb⟩
    · exact ⟨(hes e he).1.lt, .inl rfl, .inr (hes e he).2⟩
  · rcases List.mem_append.1 he with he | he
    · exact ⟨.inr ⟨e, he, rfl⟩, (hes e he).1⟩
    · exact ⟨.inl (hin e he).1, (hin e he).2.below hB⟩
end
/-- A slice that stands for the words of a number: known, or in a stretch. -/
inductive SrcS (h : List (Option Chunk)) (L : List Nm) : Value → Nat → Prop
  | ar {e : Nm} (he : e ∈ L) : SrcS h L (.slice (some ⟨e.b, e.o, none⟩) (nl e.v) e.c) e.v
  | ch {j v c : Nat} {o : Chunk} (hj : h[j]? = some (some o)) (hn : IsNum o c v) (hl : nl v ≤ c) (hm : c ≤ 31) : SrcS h L (.slice (some ⟨j, 0, some 0⟩) (nl v) c) v
/-- Arguments, as numbers. -/
inductive AV where
  | at_ (e : Nm)
  | bigat (s : Bool) (e : Nm)
  | pl (v : Value)
  | sl (v : Nat)
  | big (s : Bool) (v : Nat)
inductive ArgS (h : List (Option Chunk)) (L : List Nm) : Value → AV → Prop
  | at_ {e : Nm} (he : e ∈ L) : ArgS h L (.slice (some ⟨e.b, e.o, none⟩) (nl e.v) e.c) (.at_ e)
  | bigat {s : Bool} {e : Nm} (he : e ∈ L) : ArgS h L (.agg #[.bool s, .bool false, .slice (some ⟨e.b, e.o, none⟩) (nl e.v) e.c]) (.bigat s e)
  | pl {v : Value} (hp : plain2 v = true) : ArgS h L v (.pl v)
  | sl {sv : Value} {v : Nat} (s : SrcS h L sv v) : ArgS h L sv (.sl v)
  | big {b : Bool} {sv : Value} {v : Nat} (s : SrcS h L sv v) : ArgS h L (.agg #[.bool b, .bool false, sv]) (.big b v)
inductive AR (w : World) : AV → Value → Prop
  | at_ {e : Nm} (ha : NumAt w e) : AR w (.at_ e) e.sl
  | bigat {s : Bool} {e : Nm} (ha : NumAt w e) : AR w (.bigat s e) (e.big s)
  | pl {v : Value} (hp : plain2 v = true) : AR w (.pl v) v
  | sl {e : Nm} {v : Nat} (ha : NumAt w e) (hv : e.v = v) : AR w (.sl v) e.sl
  | big {s : Bool} {e : Nm} {v : Nat} (ha : NumAt w e) (hv : e.v = v) : AR w (.big s v) (e.big s)
theorem SrcS.at {X : Ctx} {ρ : Nat → Nat × Nat} {h : List (Option Chunk)} {w : World} {L : List Nm} {sv : Value} {v : Nat} (H : HOK X ρ h w) (ha : ∀ e ∈ L, NumAt w e) (s : SrcS h L sv v) :
    ∃ e : Nm, NumAt w e ∧ e.v = v ∧ den ρ sv = e.sl ∧ den0 ρ sv = e.sl ∧ den1 ρ sv = e.sl := by
  cases s with
  | ar he => rename_i e; exact ⟨e, ha e he, rfl, rfl, rfl, rfl⟩
  | ch hj hn hl hm =>
    rename_i j c o
    refine ⟨⟨v, (ρ j).1, (ρ j).2, c⟩, ⟨H.lt j o hj, hl, hm, fun k hk => ?_⟩, rfl, rfl, rfl, rfl⟩
    obtain ⟨x, hx, hd⟩ := H.cell j o hj k (by rw [hn.1]; exact hk)
    rw [hn.2 k hk] at hd
    show w.cell? ⟨(ρ j).1, (ρ j).2 + k, none⟩ = _
    rw [hx, ← hd.self]; rfl
theorem args_at {X : Ctx} {ρ : Nat → Nat × Nat} {h : List (Option Chunk)} {w : World} {L : List Nm} (H : HOK X ρ h w) (ha : ∀ e ∈ L, NumAt w e) : ∀ {vs : List Value} {qs : List AV} {xs : List Value}, All2 (ArgS h L) vs qs → All2 (Den (Fil h) ρ) vs xs → All2 (AR w) qs xs
  | [], [], [], _, _ => trivial
  | [], [], _ :: _, _, h => h.elim
  | [], _ :: _, _, h, _ => h.elim
  | _ :: _, [], _, h, _ => h.elim
  | _ :: _, _ :: _, [], _, h => h.elim
  | v :: vs, a :: qs, x :: xs, h1, h2 => by
    refine ⟨?_, args_at H ha h1.2 h2.2⟩
    have hd := h2.1.self
    cases h1.1 with
    | at_ he => rename_i e; rw [← hd]; exact .at_ (ha e he)
    | bigat he =>
      rename_i s e
      rw [den_plain (v := Nm.big s e) rfl] at hd
      rw [← hd]; exact .bigat (ha e he)
    | pl hp => rw [den_plain hp] at hd; rw [← hd]; exact .pl hp
    | sl s =>
      obtain ⟨e, h1, h2, h3, _⟩ := s.at H ha
      rw [h3] at hd; rw [← hd]; exact .sl h1 h2
    | big s =>
      rename_i b sv u
      obtain ⟨e, h1, h2, _, _, h3⟩ := s.at H ha
      have e1 : den ρ (.agg #[.bool b, .bool false, sv]) = .agg #[den1 ρ (.bool b), den1 ρ (.bool false), den1 ρ sv] := by
        simp only [den, den2, List.map_toArray, List.map_cons, List.map_nil]
      rw [e1, h3] at hd
      rw [← hd]; exact .big h1 h2
section
variable {P : Program} {G : Tys}
/-- A callee's contract by numbers, as a contract that adds what it makes to what is known. -/
theorem call_arM {g : FuncId} {vs : List Value} {qs : List AV} {h : List (Option Chunk)} {L : List Nm} {α : Type} (i : Nat) (hi : h[i]? = some (some (arC L))) (ok : α → Prop) (V : α → Value) (es : α → List Nm) (hr : ∀ xs w, (callFunc g xs).run P w = .ok (.enter g xs) w) (ha : All2 (ArgS h L) vs qs) (hV : ∀ κ, ok κ → plain3 (V κ) = true)
    (hc : ∀ w xs, All2 (AR w) qs xs → Calls P g ⟨xs⟩ w fun e w' => ∃ κ, ok κ ∧ e = .returned (V κ) ∧ Below w.heap.size w w' ∧ ∀ n ∈ es κ, NumAt w' n ∧ w.heap.size ≤ n.b) :
    CallAll P g vs h fun v ms => ∃ κ, ok κ ∧ v = V κ ∧ ms = [(i, arC (es κ ++ L))] := fun X ρ w xs H hx => by
  obtain ⟨S, E⟩ := H.ext
  have hL : ∀ e ∈ L, NumAt w e := fun e he => ((E.inv i _ hi) e he).2
  refine .inr ⟨hr _ w, (hc w xs (args_at H hL ha hx)).mono ?_⟩
  rintro e w' ⟨κ, hok, rfl, hB, hes⟩
  exact ⟨V κ, rfl, V κ, _, ρ, ⟨κ, hok, rfl, rfl⟩, AgreeOn.refl _ _, ar_more H hi hB hes, fun r _ => den_plain3 (hV κ hok) r⟩
/-- The same where nothing is known yet. -/
theorem call_arN {g : FuncId} {vs : List Value} {qs : List AV} {h : List (Option Chunk)} {α : Type} (K : Nat) (hi : h[K]? = some none) (ok : α → Prop) (V : α → Value) (es : α → List Nm) (hr : ∀ xs w, (callFunc g xs).run P w = .ok (.enter g xs) w) (ha : All2 (ArgS h []) vs qs) (hV : ∀ κ, ok κ → plain3 (V κ) = true) (h0 : ∀ κ, ok κ → es κ ≠ [])
    (hc : ∀ w xs, All2 (AR w) qs xs → Calls P g ⟨xs⟩ w fun e w' => ∃ κ, ok κ ∧ e = .returned (V κ) ∧ Below w.heap.size w w' ∧ ∀ n ∈ es κ, NumAt w' n ∧ w.heap.size ≤ n.b) :
    CallAll P g vs h fun v ms => ∃ κ, ok κ ∧ v = V κ ∧ ms = [(K, arC (es κ))] := fun X ρ w xs H hx => by
  refine .inr ⟨hr _ w, (hc w xs (args_at H (fun e he => by cases he) ha hx)).mono ?_⟩
  rintro e w' ⟨κ, hok, rfl, hB, hes⟩
  obtain ⟨e0, he0⟩ := List.exists_mem_of_ne_nil _ (h0 κ hok)
  obtain ⟨ρ', h1, h2⟩ := ar_new H hi hB he0 hes
  exact ⟨V κ, rfl, V κ, _, ρ', ⟨κ, hok, rfl, rfl⟩, h1, h2, fun r _ => den_plain3 (hV κ hok) r⟩
/-- A callee that makes nothing that is kept: it answers a plain value. -/
theorem call_arP {g : FuncId} {vs : List Value} {qs : List AV} {h : List (Option Chunk)} {L : List Nm} {V : Value} (rh : List Nat) (i : Nat) (hi : h[i]? = some (some (arC L)) ∨ L = []) (hrh : i ∈ rh ∨ L = []) (hr : ∀ xs w, (callFunc g xs).run P w = .ok (.enter g xs) w) (ha : ∀ h₂ : List (Option Chunk), (∀ i ∈ rh, h₂[i]? = h[i]?) → All2 (ArgS h₂ L) vs qs) (hV : plain3 V = true)
    (hc : ∀ w xs, All2 (AR w) qs xs → Calls P g ⟨xs⟩ w fun e w' => e = .returned V ∧ Below w.heap.size w w') :
    CallOK P g vs h V [] rh := fun h₂ hrr _ X ρ w xs H hx => by
  obtain ⟨S, E⟩ := H.ext
  have hL : ∀ e ∈ L, NumAt w e := fun e he => by
    rcases hi with hi | hi
    · rcases hrh with h1 | h1
      · exact ((E.inv i _ ((hrr i h1).trans hi)) e he).2
      · rw [h1] at he; cases he
    · rw [hi] at he; cases he
  refine .inr ⟨hr _ w, (hc w xs (args_at H hL (ha h₂ hrr) hx)).mono ?_⟩
  rintro e w' ⟨rfl, hB⟩
  exact ⟨V, rfl, ρ, AgreeOn.refl _ _, H.frame hB, fun r _ => den_plain3 hV r⟩

/-! ### A contract by stretches, as one by numbers -/
def numH (es : List Nm) : List (Option Chunk) := es.map fun e => some (numC false e.c e.v)
def numρ (es : List Nm) (k : Nat) : Nat × Nat := match es[k]? with
  | some e => (e.b, e.o)
  | none => (0, 0)
theorem num_hok {es : List Nm} {w : World} (m : Nat) (he : ∀ e ∈ es, NumAt w e) : HOK ⟨w, fun _ => False, 0, numρ es⟩ (numρ es) (numH es ++ List.replicate m none) w := by
  have getP : ∀ (k : Nat) (c : Chunk), (numH es ++ List.replicate m none)[k]? = some (some c) → ∃ e : Nm, es[k]? = some e ∧ numC false e.c e.v = c := fun k c hk => by
    have hlen : (numH es).length = es.length := by simp [numH]
    rcases Nat.lt_or_ge k es.length with hlt | hge
    · rw [List.getElem?_append_left (by omega)] at hk
      simp only [numH, List.getElem?_map] at hk
      cases e : es[k]? with
      | none => rw [e] at hk; cases hk
      | some s => rw [e] at hk; exact ⟨s, rfl, by simpa using hk⟩
    · rw [List.getElem?_append_right (by omega), List.getElem?_replicate] at hk
      split at hk
      · cases hk
      · cases hk
  have hρ : ∀ (k : Nat) (e : Nm), es[k]? = some e → numρ es k = (e.b, e.o) := fun k e hk => by unfold numρ; rw [hk]
  refine ⟨Evo.refl _ _, fun i hi => absurd hi (by simp), fun k c hk => ?_, fun k c hk j hj => ?_, fun k c hk ho => ?_, fun k c l d hk ho => ?_, ExtOK.nil fun k c hk => ?_⟩
  · obtain ⟨e, hs, rfl⟩ := getP k c hk
    rw [hρ k e hs]; exact (he e (List.mem_of_getElem? hs)).lt
  · obtain ⟨e, hs, rfl⟩ := getP k c hk
    have hj : j < e.c := hj
    rw [hρ k e hs, seg_cell hj]
    exact ⟨_, (he e (List.mem_of_getElem? hs)).cell j hj, Den1.plain rfl⟩
  · obtain ⟨e, hs, rfl⟩ := getP k c hk; cases ho
  · obtain ⟨e, hs, rfl⟩ := getP k c hk; cases ho
  · obtain ⟨e, hs, rfl⟩ := getP k c hk; rfl
inductive NArg (es : List Nm) : Value → Value → Prop
  | pl {v : Value} (hp : plain2 v = true) : NArg es v v
  | sl {k : Nat} {e : Nm} (h : es[k]? = some e) : NArg es (.slice (some ⟨k, 0, some 0⟩) (nl e.v) e.c) e.sl
  | big {k : Nat} {e : Nm} {s : Bool} (h : es[k]? = some e) : NArg es (.agg #[.bool s, .bool false, .slice (some ⟨k, 0, some 0⟩) (nl e.v) e.c]) (e.big s)
theorem narg_den {es : List Nm} {m : Nat} : ∀ {vs xs : List Value}, All2 (NArg es) vs xs → All2 (Den (Fil (numH es ++ List.replicate m none)) (numρ es)) vs xs
  | [], [], _ => trivial
  | [], _ :: _, h => h.elim
  | _ :: _, [], h => h.elim
  | v :: vs, x :: xs, h => by
    refine ⟨?_, narg_den h.2⟩
    have fil : ∀ (k : Nat) (e : Nm), es[k]? = some e → Fil (numH es ++ List.replicate m none) k := fun k e hk => ⟨numC false e.c e.v, by
      rw [List.getElem?_append_left (by simp [numH]; exact (List.getElem?_eq_some_iff.1 hk).1)]
      simp only [numH, List.getElem?_map, hk]; rfl⟩
    have hρ : ∀ (k : Nat) (e : Nm), es[k]? = some e → numρ es k = (e.b, e.o) := fun k e hk => by unfold numρ; rw [hk]
    cases h.1 with
    | pl hp => exact Den.plain hp
    | sl hk =>
      intro r hr
      have e1 := hr _ (fil _ _ hk)
      rw [hρ _ _ hk] at e1
      simp only [den, den2, den1, den0, denA, e1]; rfl
    | big hk =>
      intro r hr
      have e1 := hr _ (fil _ _ hk)
      rw [hρ _ _ hk] at e1
      simp only [den, den2, List.map_toArray, List.map_cons, List.map_nil, den1, den0, denA, e1]; rfl
/-- A contract by stretches that makes one more number. -/
theorem num_new {g : FuncId} {vs xs : List Value} {es : List Nm} {m v : Nat} {V : Nat → Value} {rh : List Nat} {w : World} (hr : ∀ xs w, (callFunc g xs).run P w = .ok (.enter g xs) w) (he : ∀ e ∈ es, NumAt w e) (hx : All2 (NArg es) vs xs) (hm : 0 < m ∧ m ≤ 31) (hl : nl v ≤ m) (W : Nm → Value)
    (hW : ∀ (r : Nat → Nat × Nat), den r (V es.length) = W ⟨v, (r es.length).1, (r es.length).2, m⟩)
    (hc : CallOK P g vs (numH es ++ [none]) (V es.length) [(es.length, numC true m v)] rh) : Calls P g ⟨xs⟩ w fun e w' => ∃ κ : Nm, κ.v = v ∧ e = .returned (W κ) ∧ Below w.heap.size w w' ∧ NumAt w' κ ∧ w.heap.size ≤ κ.b := by
  rcases hc _ (fun _ _ => rfl) (fun _ _ => rfl) _ _ w xs (num_hok 1 he) (narg_den (m := 1) hx) with ⟨x, w', hrun, _⟩ | ⟨_, hcl⟩
  · rw [hr] at hrun; cases hrun
  refine hcl.mono ?_
  rintro e w' ⟨x, rfl, ρ', _, H, hd⟩
  have hk : (modH (numH es ++ [none]) [(es.length, numC true m v)])[es.length]? = some (some (numC true m v)) := by
    show ((numH es ++ [none]).set es.length _)[es.length]? = _
    rw [List.getElem?_set_self (by simp [numH])]
  refine ⟨⟨v, (ρ' es.length).1, (ρ' es.length).2, m⟩, rfl, ?_, H.evo.below, ⟨H.lt _ _ hk, hl, hm.2, fun j hj => ?_⟩, ?_⟩
  · rw [← hW ρ', hd.self]
  · obtain ⟨y, hy, hyd⟩ := H.cell _ _ hk j hj
    rw [seg_cell hj] at hyd
    rw [hy, ← hyd.self]; rfl
  · rcases (H.own _ _ hk rfl 0 hm.1).2 with h1 | h1
    · exact h1
    · exact h1.elim
/-- A contract by stretches that makes nothing: the answer is told by where the arguments lie. -/
theorem num_same {g : FuncId} {vs xs : List Value} {es : List Nm} {V : Value} {rh : List Nat} {w : World} (hr : ∀ xs w, (callFunc g xs).run P w = .ok (.enter g xs) w) (he : ∀ e ∈ es, NumAt w e) (hx : All2 (NArg es) vs xs) (W : Value)
    (hW : All2 (NArg es) [V] [W]) (hc : CallOK P g vs (numH es ++ []) V [] rh) : Calls P g ⟨xs⟩ w fun e w' => e = .returned W ∧ Below w.heap.size w w' := by
  rcases hc _ (fun _ _ => rfl) (fun _ _ => rfl) _ _ w xs (num_hok 0 he) (narg_den (m := 0) hx) with ⟨x, w', hrun, _⟩ | ⟨_, hcl⟩
  · rw [hr] at hrun; cases hrun
  refine hcl.mono ?_
  rintro e w' ⟨x, rfl, ρ', ha, H, hd⟩
  refine ⟨?_, H.evo.below⟩
  have h1 := (narg_den (m := 0) hW).1 ρ' ha
  rw [← h1, hd.self]
/-- A slice without elements that is new. -/
theorem num_new0 {g : FuncId} {vs xs : List Value} {es : List Nm} {V : Nat → Value} {rh : List Nat} {w : World} (hr : ∀ xs w, (callFunc g xs).run P w = .ok (.enter g xs) w) (he : ∀ e ∈ es, NumAt w e) (hx : All2 (NArg es) vs xs) (W : Nm → Value)
    (hW : ∀ (r : Nat → Nat × Nat), den r (V es.length) = W ⟨0, (r es.length).1, (r es.length).2, 0⟩)
    (hc : CallOK P g vs (numH es ++ [none]) (V es.length) [(es.length, zC)] rh) : Calls P g ⟨xs⟩ w fun e w' => ∃ κ : Nm, κ.v = 0 ∧ e = .returned (W κ) ∧ Below w.heap.size w w' ∧ NumAt w' κ ∧ w.heap.size ≤ κ.b := by
  rcases hc _ (fun _ _ => rfl) (fun _ _ => rfl) _ _ w xs (num_hok 1 he) (narg_den (m := 1) hx) with ⟨x, w', hrun, _⟩ | ⟨_, hcl⟩
  · rw [hr] at hrun; cases hrun
  refine hcl.mono ?_
  rintro e w' ⟨x, rfl, ρ', _, H, hd⟩
  have hk : (modH (numH es ++ [none]) [(es.length, zC)])[es.length]? = some (some zC) := by
    show ((numH es ++ [none]).set es.length _)[es.length]? = _
    rw [List.getElem?_set_self (by simp [numH])]
  obtain ⟨S, E⟩ := H.ext
  obtain ⟨hS, _⟩ := E.inv _ _ hk
  refine ⟨⟨0, (ρ' es.length).1, (ρ' es.length).2, 0⟩, rfl, ?_, H.evo.below, ⟨H.lt _ _ hk, by rw [nl_zero]; exact Nat.le_refl _, by show (0 : Nat) ≤ 31; omega, fun j hj => absurd hj (Nat.not_lt_zero j)⟩, ?_⟩
  · rw [← hW ρ', hd.self]
  · rcases (E.mine _ _ _ hk ((hS _).2 rfl)).2.2 with h1 | h1
    · exact h1
    · exact h1.1.elim
theorem N_callM {g : FuncId} {vs : List Value} {h : List (Option Chunk)} {slot : Nat} {C : List Nat → Prop} {K : List Nat → Value → List (Nat × Chunk) → Prop} (hs : List Nat) (R : Value → List (Nat × Chunk) → Prop) (hC : C hs) (hc : ∀ h₂ : List (Option Chunk), (∀ q ∈ hs, h₂[q]? = h[q]?) → CallAll P g vs h₂ R) (k : ∀ v ms, R v ms → (∀ q ∈ ms.map (·.1), q ∈ hs) ∧ K hs v ms) : N (CallM P g vs h slot C K) := N.mk ⟨hs, R, hC, hc, k⟩
/-- What a callee makes: one number more. -/
def Mk (P : Program) (g : FuncId) (xs : List Value) (w : World) (v : Nat) (W : Nm → Value) : Prop := Calls P g ⟨xs⟩ w fun e w' => ∃ κ : Nm, κ.v = v ∧ e = .returned (W κ) ∧ Below w.heap.size w w' ∧ NumAt w' κ ∧ w.heap.size ≤ κ.b
theorem mk_arM {g : FuncId} {vs : List Value} {qs : List AV} {h : List (Option Chunk)} {L : List Nm} (i : Nat) (hi : h[i]? = some (some (arC L))) (v : Nat) (W : Nm → Value) (hr : ∀ xs w, (callFunc g xs).run P w = .ok (.enter g xs) w) (ha : All2 (ArgS h L) vs qs) (hW : ∀ κ : Nm, plain3 (W κ) = true) (hc : ∀ w xs, All2 (AR w) qs xs → Mk P g xs w v W) :
    CallAll P g vs h fun x ms => ∃ κ : Nm, κ.v = v ∧ x = W κ ∧ ms = [(i, arC (κ :: L))] :=
  call_arM i hi (fun κ : Nm => κ.v = v) W (fun κ => [κ]) hr ha (fun κ _ => hW κ) fun w xs hx => (hc w xs hx).mono fun e w' ⟨κ, h1, h2, h3, h4, h5⟩ => ⟨κ, h1, h2, h3, fun n hn => by rw [List.mem_singleton.1 hn]; exact ⟨h4, h5⟩⟩
theorem mk_arN {g : FuncId} {vs : List Value} {qs : List AV} {h : List (Option Chunk)} (K : Nat) (hi : h[K]? = some none) (v : Nat) (W : Nm → Value) (hr : ∀ xs w, (callFunc g xs).run P w = .ok (.enter g xs) w) (ha : All2 (ArgS h []) vs qs) (hW : ∀ κ : Nm, plain3 (W κ) = true) (hc : ∀ w xs, All2 (AR w) qs xs → Mk P g xs w v W) :
    CallAll P g vs h fun x ms => ∃ κ : Nm, κ.v = v ∧ x = W κ ∧ ms = [(K, arC [κ])] :=
  call_arN K hi (fun κ : Nm => κ.v = v) W (fun κ => [κ]) hr ha (fun κ _ => hW κ) (fun _ _ => by simp) fun w xs hx => (hc w xs hx).mono fun e w' ⟨κ, h1, h2, h3, h4, h5⟩ => ⟨κ, h1, h2, h3, fun n hn => by rw [List.mem_singleton.1 hn]; exact ⟨h4, h5⟩⟩
/-- The end of such a callee's walk. -/
def EndM (h : List (Option Chunk)) (x : Value) (v : Nat) (W : Nm → Value) : Prop := ∃ (κ : Nm) (i : Nat) (L : List Nm), κ.v = v ∧ x = W κ ∧ h[i]? = some (some (arC L)) ∧ κ ∈ L
theorem N.endM {h : List (Option Chunk)} {x : Value} {v : Nat} {W : Nm → Value} (κ : Nm) (i : Nat) {L : List Nm} (h1 : κ.v = v) (h2 : x = W κ) (h3 : h[i]? = some (some (arC L))) (h4 : κ ∈ L) : N (EndM h x v W) := N.mk ⟨κ, i, L, h1, h2, h3, h4⟩
theorem calls_nums {f : FuncId} {fn : Func} {c : Code} {vs xs : List Value} {es : List Nm} {v : Nat} {W : Nm → Value} (w : World) (hG : TysOK P G) (hm : P.follows .mixedOrders = true) (hf : P.funcs[f]? = some fn) (hb : fn.body = some c) (he : ∀ e ∈ es, NumAt w e) (hx : All2 (NArg es) vs xs) (hW : ∀ κ : Nm, plain3 (W κ) = true)
    (hwp : initK vs fn.ntmps fun t => wpC P G 0 c (bodyQ P G fn fun x st => N (EndM st.h x v W)) ⟨t, numH es⟩) : Mk P f xs w v W := by
  have H := num_hok (w := w) 0 he
  have hd := narg_den (m := 0) hx
  simp only [List.replicate_zero, List.append_nil] at H hd
  refine (calls_sx (args := ⟨xs⟩) hG hm hf hb H hd hwp).mono ?_
  rintro e w' ⟨ρ', x, st, y, rfl, H', hdx, hq⟩
  obtain ⟨κ, i, L, h1, h2, h3, h4⟩ := hq.out
  obtain ⟨S, E⟩ := H'.ext
  obtain ⟨g1, g2⟩ := E.inv i _ h3 κ h4
  refine ⟨κ, h1, ?_, H'.evo.below, g2, ?_⟩
  · rw [← hdx.self, h2, den_plain3 (hW κ)]
  · rcases (E.mine _ _ _ h3 g1).2.2 with h5 | h5
    · exact h5
    · exact h5.1.elim
/-- A callee of numbers that answers a plain value. -/
theorem calls_numsP {f : FuncId} {fn : Func} {c : Code} {vs xs : List Value} {es : List Nm} {V : Value} (w : World) (hG : TysOK P G) (hm : P.follows .mixedOrders = true) (hf : P.funcs[f]? = some fn) (hb : fn.body = some c) (he : ∀ e ∈ es, NumAt w e) (hx : All2 (NArg es) vs xs) (hV : plain3 V = true)
    (hwp : initK vs fn.ntmps fun t => wpC P G 0 c (bodyQ P G fn fun x _ => N (x = V)) ⟨t, numH es⟩) : Calls P f ⟨xs⟩ w fun e w' => e = .returned V ∧ Below w.heap.size w w' := by
  have H := num_hok (w := w) 0 he
  have hd := narg_den (m := 0) hx
  simp only [List.replicate_zero, List.append_nil] at H hd
  refine (calls_sx (args := ⟨xs⟩) hG hm hf hb H hd hwp).mono ?_
  rintro e w' ⟨ρ', x, st, y, rfl, H', hdx, hq⟩
  have hq := hq.out
  subst hq
  exact ⟨by rw [← hdx.self, den_plain3 hV], H'.evo.below⟩
end
end Go.Proofs.Ytpafcfelaaibgaa


/-
  The document's numbers, wherever their words lie: Of, Mul, Add, Neg, Sub, det, Det, Sign.
-/
set_option linter.unusedVariables false
set_option linter.unusedSimpArgs false
namespace Go.Proofs.Ytpafcfelaaibgaa
open Go Go.RowKit Sx

abbrev bz (z : Int) : AV := .big (decide (z < 0)) z.natAbs
abbrev bzW (z : Int) (κ : Nm) : Value := .agg #[.bool (decide (z < 0)), .bool false, .slice (some ⟨κ.b, κ.o, none⟩) (nl κ.v) κ.c]
theorem ar_sl2 {w : World} {a b : Nat} {xs : List Value} (hx : All2 (AR w) [.sl a, .sl b] xs) : ∃ e e' : Nm, xs = [e.sl, e'.sl] ∧ NumAt w e ∧ e.v = a ∧ NumAt w e' ∧ e'.v = b := by
  rcases xs with _ | ⟨x, _ | ⟨y, _ | ⟨z, xs⟩⟩⟩ <;> first | exact hx.elim | exact hx.2.elim | exact hx.2.2.elim | skip
  obtain ⟨h1, h2, _⟩ := hx
  cases h1 with
  | sl a1 v1 => cases h2 with
    | sl a2 v2 => exact ⟨_, _, rfl, a1, v1, a2, v2⟩
theorem ar_big1 {w : World} {s : Bool} {a : Nat} {xs : List Value} (hx : All2 (AR w) [.big s a] xs) : ∃ e : Nm, xs = [e.big s] ∧ NumAt w e ∧ e.v = a := by
  rcases xs with _ | ⟨x, _ | ⟨y, xs⟩⟩ <;> first | exact hx.elim | exact hx.2.elim | skip
  obtain ⟨h1, _⟩ := hx
  cases h1 with
  | big a1 v1 => exact ⟨_, rfl, a1, v1⟩
theorem ar_big2 {w : World} {s u : Bool} {a b : Nat} {xs : List Value} (hx : All2 (AR w) [.big s a, .big u b] xs) : ∃ e e' : Nm, xs = [e.big s, e'.big u] ∧ NumAt w e ∧ e.v = a ∧ NumAt w e' ∧ e'.v = b := by
  rcases xs with _ | ⟨x, _ | ⟨y, _ | ⟨z, xs⟩⟩⟩ <;> first | exact hx.elim | exact hx.2.elim | exact hx.2.2.elim | skip
  obtain ⟨h1, h2, _⟩ := hx
  cases h1 with
  | big a1 v1 => cases h2 with
    | big a2 v2 => exact ⟨_, _, rfl, a1, v1, a2, v2⟩
theorem ar_big3 {w : World} {s u r : Bool} {a b c : Nat} {xs : List Value} (hx : All2 (AR w) [.big s a, .big u b, .big r c] xs) : ∃ e e' e'' : Nm, xs = [e.big s, e'.big u, e''.big r] ∧ NumAt w e ∧ e.v = a ∧ NumAt w e' ∧ e'.v = b ∧ NumAt w e'' ∧ e''.v = c := by
  rcases xs with _ | ⟨x, _ | ⟨y, _ | ⟨z, _ | ⟨z', xs⟩⟩⟩⟩ <;> first | exact hx.elim | exact hx.2.elim | exact hx.2.2.elim | exact hx.2.2.2.elim | skip
  obtain ⟨h1, h2, h3, _⟩ := hx
  cases h1 with
  | big a1 v1 => cases h2 with
    | big a2 v2 => cases h3 with
      | big a3 v3 => exact ⟨_, _, _, rfl, a1, v1, a2, v2, a3, v3⟩
theorem ar_pl1 {w : World} {v : Value} {xs : List Value} (hx : All2 (AR w) [.pl v] xs) : xs = [v] := by
  rcases xs with _ | ⟨x, _ | ⟨y, xs⟩⟩ <;> first | exact hx.elim | exact hx.2.elim | skip
  obtain ⟨h1, _⟩ := hx
  cases h1; rfl
theorem two_at {w : World} {e e' : Nm} (h : NumAt w e) (h' : NumAt w e') : ∀ x ∈ [e, e'], NumAt w x := fun x hx => by
  rcases List.mem_cons.1 hx with rfl | hx
  · exact h
  · rw [List.mem_singleton.1 hx]; exact h'
theorem one_at {w : World} {e : Nm} (h : NumAt w e) : ∀ x ∈ [e], NumAt w x := fun x hx => by rw [List.mem_singleton.1 hx]; exact h
theorem three_at {w : World} {e e' e'' : Nm} (h : NumAt w e) (h' : NumAt w e') (h'' : NumAt w e'') : ∀ x ∈ [e, e', e''], NumAt w x := fun x hx => by
  rcases List.mem_cons.1 hx with rfl | hx
  · exact h
  · exact two_at h' h'' x hx
theorem wTimes (a b : Nat) (hb : nl a + nl b ≤ 31) (w : World) (xs : List Value) (hx : All2 (AR w) [.sl a, .sl b] xs) : Mk Try.prog 66 xs w (a * b) Nm.sl := by
  obtain ⟨e, e', rfl, h1, v1, h2, v2⟩ := ar_sl2 hx
  subst v1 v2
  by_cases hz : nl e.v + nl e'.v = 0
  · have e0 : e.v * e'.v = 0 := by rw [nl0 (show nl e.v = 0 by omega)]; simp
    rw [e0]
    exact num_new0 (V := fun K => .slice (some ⟨K, 0, some 0⟩) 0 0) (es := [e, e']) (Try.call66) (two_at h1 h2) (vs := [.slice (some ⟨0, 0, some 0⟩) (nl e.v) e.c, .slice (some ⟨1, 0, some 0⟩) (nl e'.v) e'.c]) (xs := [e.sl, e'.sl]) ⟨.sl rfl, .sl rfl, trivial⟩ Nm.sl (fun r => by show _ = Value.slice _ (nl 0) 0; rw [nl_zero]; rfl) (cTimes0 e.v e'.v e.c e'.c 0 1 2 _ _ _ rfl (isNum _ _ _) rfl (isNum _ _ _) h1.len h1.cap h2.len h2.cap hz rfl)
  · exact num_new (V := fun K => .slice (some ⟨K, 0, some 0⟩) (nl (e.v * e'.v)) (nl e.v + nl e'.v)) (es := [e, e']) (Try.call66) (two_at h1 h2) (vs := [.slice (some ⟨0, 0, some 0⟩) (nl e.v) e.c, .slice (some ⟨1, 0, some 0⟩) (nl e'.v) e'.c]) (xs := [e.sl, e'.sl]) ⟨.sl rfl, .sl rfl, trivial⟩ ⟨by omega, by omega⟩ (nl_le.2 (mul_nl3 _ _)) Nm.sl (fun r => rfl) (cTimesN e.v e'.v e.c e'.c 0 1 2 _ _ _ rfl (isNum _ _ _) rfl (isNum _ _ _) h1.len h1.cap h2.len h2.cap (by omega) rfl)
theorem wMinus (a b : Nat) (hba : b ≤ a) (w : World) (xs : List Value) (hx : All2 (AR w) [.sl a, .sl b] xs) : Mk Try.prog 89 xs w (a - b) Nm.sl := by
  obtain ⟨e, e', rfl, h1, v1, h2, v2⟩ := ar_sl2 hx
  subst v1 v2
  by_cases hz : nl e.v = 0
  · have e0 : e.v - e'.v = 0 := by rw [nl0 (show nl e.v = 0 by omega)]; simp
    rw [e0]
    exact num_new0 (V := fun K => .slice (some ⟨K, 0, some 0⟩) 0 0) (es := [e, e']) (Try.call89) (two_at h1 h2) (vs := [.slice (some ⟨0, 0, some 0⟩) (nl e.v) e.c, .slice (some ⟨1, 0, some 0⟩) (nl e'.v) e'.c]) (xs := [e.sl, e'.sl]) ⟨.sl rfl, .sl rfl, trivial⟩ Nm.sl (fun r => by show _ = Value.slice _ (nl 0) 0; rw [nl_zero]; rfl) (cMinus0 e.v e'.v e.c e'.c 0 1 2 _ _ _ rfl (isNum _ _ _) rfl (isNum _ _ _) h1.len h1.cap h2.len h2.cap hz hba rfl)
  · have hl := h1.len
    have hc := h1.cap
    exact num_new (V := fun K => .slice (some ⟨K, 0, some 0⟩) (nl (e.v - e'.v)) (nl e.v)) (es := [e, e']) (Try.call89) (two_at h1 h2) (vs := [.slice (some ⟨0, 0, some 0⟩) (nl e.v) e.c, .slice (some ⟨1, 0, some 0⟩) (nl e'.v) e'.c]) (xs := [e.sl, e'.sl]) ⟨.sl rfl, .sl rfl, trivial⟩ ⟨by omega, by omega⟩ (nl_le.2 (Nat.lt_of_le_of_lt (Nat.sub_le _ _) (nl_self _))) Nm.sl (fun r => rfl) (cMinus e.v e'.v e.c e'.c 0 1 2 _ _ _ rfl (isNum _ _ _) rfl (isNum _ _ _) h1.len h1.cap h2.len h2.cap hba (by omega) rfl)
theorem wPlus (a b : Nat) (ha : nl a ≤ 30) (hb : nl b ≤ 30) (w : World) (xs : List Value) (hx : All2 (AR w) [.sl a, .sl b] xs) : Mk Try.prog 87 xs w (a + b) Nm.sl := by
  obtain ⟨e, e', rfl, h1, v1, h2, v2⟩ := ar_sl2 hx
  subst v1 v2
  by_cases hz : nl e.v < nl e'.v
  · exact num_new (V := fun K => .slice (some ⟨K, 0, some 0⟩) (nl (e.v + e'.v)) (nl e'.v + 1)) (es := [e, e']) (Try.call87) (two_at h1 h2) (vs := [.slice (some ⟨0, 0, some 0⟩) (nl e.v) e.c, .slice (some ⟨1, 0, some 0⟩) (nl e'.v) e'.c]) (xs := [e.sl, e'.sl]) ⟨.sl rfl, .sl rfl, trivial⟩ ⟨by omega, by omega⟩ (nl_le.2 (by rw [bw_succ]; have q1 := nl_self e.v; have q2 := nl_self e'.v; have q3 := bw_mono (show nl e.v ≤ nl e'.v by omega); omega)) Nm.sl (fun r => rfl) (cPlusB e.v e'.v e.c e'.c 0 1 2 _ _ _ rfl (isNum _ _ _) rfl (isNum _ _ _) h1.len h1.cap h2.len h2.cap hz rfl)
  · exact num_new (V := fun K => .slice (some ⟨K, 0, some 0⟩) (nl (e.v + e'.v)) (nl e.v + 1)) (es := [e, e']) (Try.call87) (two_at h1 h2) (vs := [.slice (some ⟨0, 0, some 0⟩) (nl e.v) e.c, .slice (some ⟨1, 0, some 0⟩) (nl e'.v) e'.c]) (xs := [e.sl, e'.sl]) ⟨.sl rfl, .sl rfl, trivial⟩ ⟨by omega, by omega⟩ (nl_le.2 (by rw [bw_succ]; have q1 := nl_self e.v; have q2 := nl_self e'.v; have q3 := bw_mono (show nl e'.v ≤ nl e.v by omega); omega)) Nm.sl (fun r => rfl) (cPlusA e.v e'.v e.c e'.c 0 1 2 _ _ _ rfl (isNum _ _ _) rfl (isNum _ _ _) h1.len h1.cap h2.len h2.cap (by omega) rfl)
theorem wCmp (a b : Nat) (w : World) (xs : List Value) (hx : All2 (AR w) [.sl a, .sl b] xs) : Calls Try.prog 88 ⟨xs⟩ w fun e w' => e = .returned (.int .i64 (cmpN a b)) ∧ Below w.heap.size w w' := by
  obtain ⟨e, e', rfl, h1, v1, h2, v2⟩ := ar_sl2 hx
  subst v1 v2
  have q1 := h1.cap
  have q2 := h2.cap
  exact num_same (es := [e, e']) (Try.call88) (two_at h1 h2) (vs := [.slice (some ⟨0, 0, some 0⟩) (nl e.v) e.c, .slice (some ⟨1, 0, some 0⟩) (nl e'.v) e'.c]) (xs := [e.sl, e'.sl]) ⟨.sl rfl, .sl rfl, trivial⟩ (.int .i64 (cmpN e.v e'.v)) ⟨.pl rfl, trivial⟩ (cCmp e.v e'.v e.c e'.c 0 1 _ _ _ rfl (isNum _ _ _) rfl (isNum _ _ _) h1.len (by omega) h2.len (by omega))
theorem wMade (s : Bool) (e : Nm) (w : World) (h1 : NumAt w e) : Calls Try.prog 58 ⟨[.bool s, e.sl]⟩ w fun e' w' => e' = .returned (e.big (s && decide (0 < e.v))) ∧ Below w.heap.size w w' :=
  num_same (es := [e]) (Try.call58) (one_at h1) (vs := [.bool s, .slice (some ⟨0, 0, some 0⟩) (nl e.v) e.c]) (xs := [.bool s, e.sl]) ⟨.pl rfl, .sl rfl, trivial⟩ (e.big (s && decide (0 < e.v))) (V := .agg #[.bool (s && decide (0 < e.v)), .bool false, .slice (some ⟨0, 0, some 0⟩) (nl e.v) e.c]) ⟨.big rfl, trivial⟩ (cMade32 e.v e.c (nl e.v) 0 s _ rfl _ _ rfl (isNum _ _ _) h1.len h1.cap (nl_self _))
theorem cAMade (s : Bool) (κ : Nm) (i : Nat) {L : List Nm} {h : List (Option Chunk)} (hi : h[i]? = some (some (arC L))) (hκ : κ ∈ L) :
    CallOK Try.prog 58 [.bool s, .slice (some ⟨κ.b, κ.o, none⟩) (nl κ.v) κ.c] h (.agg #[.bool (s && decide (0 < κ.v)), .bool false, .slice (some ⟨κ.b, κ.o, none⟩) (nl κ.v) κ.c]) [] [i] :=
  call_arP (qs := [.pl (.bool s), .at_ κ]) [i] i (.inl hi) (.inl (List.mem_singleton.2 rfl)) (Try.call58) (fun _ _ => ⟨.pl rfl, .at_ hκ, trivial⟩) rfl fun w xs hx => by
    rcases xs with _ | ⟨x, _ | ⟨y, _ | ⟨z, xs⟩⟩⟩ <;> first | exact hx.elim | exact hx.2.elim | exact hx.2.2.elim | skip
    obtain ⟨h1, h2, _⟩ := hx
    cases h1 with
    | pl hp => cases h2 with
      | at_ ha => exact wMade s κ w ha
set_option maxRecDepth 100000 in
set_option maxHeartbeats 2000000 in
theorem cROfNeg (n K : Nat) (h : List (Option Chunk)) (h0 : h[K]? = some none) (hn : n ≤ 9223372036854775808) (hp : 0 < n) :
    CallOK Try.prog 47 [.int .i64 (-(n : Int))] h (.agg #[.bool true, .bool false, .slice (some ⟨K, 0, some 0⟩) (nl n) 2]) [(K, numC true 2 n)] [] := by
  have h2 := two_words (n := n) (by omega)
  have hu : IntKind.u64.wrap (0 - IntKind.u64.wrap (-(n : Int))) = (n : Int) := by rw [IntKind.wrap_u64, IntKind.wrap_u64]; omega
  refine call_sub (G := tys) [] [⟨K, 1, numC true 2 n⟩] [.int .i64 (-(n : Int))] tysOK mixed Try.func47 (by rfl) (Try.call47) trivial trivial trivial ⟨⟨h0, rfl, by show 0 < 2; decide, by simp⟩, trivial⟩ ⟨.plain rfl, trivial⟩ ?_
  repeat' (refine N.go ?_; first | with_reducible refine N.obl (by decide) ?_ | with_reducible refine N.obl (flat_wi _ _ _) ?_ | with_reducible refine N.obl (flat_lim _ _) ?_ | with_reducible refine N.eq ?_ | with_reducible refine N.obl rfl ?_ | with_reducible refine N.obl ⟨by kernel_rfl, by kernel_rfl⟩ ?_ | with_reducible refine N.alt ?_ | with_reducible refine N.forkT ?_ | with_reducible refine N.forkF ?_ | refine N.call (cMade32 n 2 2 _ (decide (-(n : Int) < 0)) true (by rw [decide_eq_true (show -(n : Int) < 0 by omega), decide_eq_true hp]; rfl) _ _ (by rfl) (isNum2 (by rw [hu, w32]) (by rw [hu, fd32, w32])) (by omega) (by omega) h2.1) ?_ | refine N.forkNo (by decide) ?_ | refine N.forkYes (by decide) ?_ | refine N.forkYes (by rw [decide_eq_true_eq]; omega) ?_ | refine N.forkNo (by rw [decide_eq_false_iff_not]; omega) ?_ | refine N.obl (.one (.agg ⟨.plain (by rfl), .plain rfl, .slice (by rfl), trivial⟩)) ?_ | refine N.obl ⟨⟨Nat.zero_le _, post_num (by rfl) rfl (isNum2 (by rw [hu, w32]) (by rw [hu, fd32, w32]))⟩, trivial⟩ ?_ | refine N.obl trivial ?_ | exact N.true | fail_if_success skip)
theorem wOf (z : Int) (hz : -9223372036854775808 ≤ z ∧ z < 9223372036854775808) (w : World) (xs : List Value) (hx : All2 (AR w) [.pl (.int .i64 z)] xs) : Mk Try.prog 47 xs w z.natAbs (bzW z) := by
  obtain rfl := ar_pl1 hx
  have hn2 : nl z.natAbs ≤ 2 := (two_words (n := z.natAbs) (by omega)).2
  by_cases hs : z < 0
  · obtain ⟨n, rfl⟩ : ∃ n : Nat, z = -(n : Int) := ⟨z.natAbs, by omega⟩
    have e1 : (-(n : Int)).natAbs = n := by omega
    rw [e1] at hn2 ⊢
    refine num_new (V := fun K => .agg #[.bool true, .bool false, .slice (some ⟨K, 0, some 0⟩) (nl n) 2]) (es := []) (Try.call47) (fun e he => by cases he) (vs := [.int .i64 (-(n : Int))]) (xs := [.int .i64 (-(n : Int))]) ⟨.pl rfl, trivial⟩ ⟨by decide, by decide⟩ hn2 (bzW (-(n : Int))) (fun r => ?_) (cROfNeg n 0 _ rfl (by omega) (by omega))
    rw [bzW, decide_eq_true hs]; simp only [den, den2, List.map_toArray, List.map_cons, List.map_nil, den1, den0, denA, Nat.add_zero]
  · obtain ⟨n, rfl⟩ : ∃ n : Nat, z = (n : Int) := ⟨z.natAbs, by omega⟩
    have e1 : ((n : Int)).natAbs = n := by omega
    rw [e1] at hn2 ⊢
    refine num_new (V := fun K => .agg #[.bool false, .bool false, .slice (some ⟨K, 0, some 0⟩) (nl n) 2]) (es := []) (Try.call47) (fun e he => by cases he) (vs := [.int .i64 (n : Int)]) (xs := [.int .i64 (n : Int)]) ⟨.pl rfl, trivial⟩ ⟨by decide, by decide⟩ hn2 (bzW (n : Int)) (fun r => ?_) (cROf n 0 _ rfl (by omega))
    rw [bzW, decide_eq_false hs]; simp only [den, den2, List.map_toArray, List.map_cons, List.map_nil, den1, den0, denA, Nat.add_zero]
set_option maxRecDepth 100000 in
set_option maxHeartbeats 2000000 in
theorem cRNegC (v m i : Nat) (s r : Bool) (hr : r = (!s && decide (0 < v))) (o : Chunk) (h : List (Option Chunk)) (hi : h[i]? = some (some o)) (hin : IsNum o m v) (hl : nl v ≤ m) (hm : m ≤ 31) :
    CallOK Try.prog 65 [.agg #[.bool s, .bool false, .slice (some ⟨i, 0, some 0⟩) (nl v) m]] h (.agg #[.bool r, .bool false, .slice (some ⟨i, 0, some 0⟩) (nl v) m]) [] [i] := by
  refine call_sub (G := tys) [⟨i, _, numC false m v, ⟨false, 0, []⟩⟩] [] [.agg #[.bool s, .bool false, .slice (some ⟨0, 0, some 0⟩) (nl v) m]] tysOK mixed Try.func65 (by rfl) (Try.call65) ⟨hi, trivial⟩ ⟨⟨fun h => (by cases h), Nat.le_of_eq hin.1.symm, num_re hin⟩, trivial⟩ (by simp [Apart]) trivial ⟨.agg ⟨.plain rfl, .plain rfl, .slice rfl, trivial⟩, trivial⟩ ?_
  repeat' (refine N.go ?_; first | with_reducible refine N.obl (by decide) ?_ | with_reducible refine N.obl (flat_wi _ _ _) ?_ | with_reducible refine N.obl (flat_lim _ _) ?_ | with_reducible refine N.eq ?_ | with_reducible refine N.obl rfl ?_ | with_reducible refine N.obl ⟨by kernel_rfl, by kernel_rfl⟩ ?_ | with_reducible refine N.alt ?_ | with_reducible refine N.forkT ?_ | with_reducible refine N.forkF ?_ | refine N.call (cMade32 v m (nl v) _ (!s) r hr _ _ (by rfl) (isNum _ _ _) hl hm (nl_self v)) ?_ | refine N.forkNo (by decide) ?_ | refine N.forkYes (by decide) ?_ | refine N.obl (.one (.agg ⟨.plain (by rfl), .plain rfl, .slice (by rfl), trivial⟩)) ?_ | refine N.obl trivial ?_ | exact N.true | fail_if_success skip)
theorem wNeg (s : Bool) (e : Nm) (w : World) (h1 : NumAt w e) : Calls Try.prog 65 ⟨[e.big s]⟩ w fun e' w' => e' = .returned (e.big (!s && decide (0 < e.v))) ∧ Below w.heap.size w w' :=
  num_same (es := [e]) (Try.call65) (one_at h1) (vs := [.agg #[.bool s, .bool false, .slice (some ⟨0, 0, some 0⟩) (nl e.v) e.c]]) (xs := [e.big s]) ⟨.big rfl, trivial⟩ (e.big (!s && decide (0 < e.v))) (V := .agg #[.bool (!s && decide (0 < e.v)), .bool false, .slice (some ⟨0, 0, some 0⟩) (nl e.v) e.c]) ⟨.big rfl, trivial⟩ (cRNegC e.v e.c 0 s _ rfl _ _ rfl (isNum _ _ _) h1.len h1.cap)
theorem cANeg (s : Bool) (κ : Nm) (i : Nat) {L : List Nm} {h : List (Option Chunk)} (hi : h[i]? = some (some (arC L))) (hκ : κ ∈ L) :
    CallOK Try.prog 65 [.agg #[.bool s, .bool false, .slice (some ⟨κ.b, κ.o, none⟩) (nl κ.v) κ.c]] h (.agg #[.bool (!s && decide (0 < κ.v)), .bool false, .slice (some ⟨κ.b, κ.o, none⟩) (nl κ.v) κ.c]) [] [i] :=
  call_arP (qs := [.bigat s κ]) [i] i (.inl hi) (.inl (List.mem_singleton.2 rfl)) (Try.call65) (fun _ _ => ⟨.bigat hκ, trivial⟩) rfl fun w xs hx => by
    rcases xs with _ | ⟨x, _ | ⟨y, xs⟩⟩ <;> first | exact hx.elim | exact hx.2.elim | skip
    obtain ⟨h1, _⟩ := hx
    cases h1 with
    | bigat ha => exact wNeg s κ w ha
/-- Sign of a number: its words are not read. -/
def sgnI (z : Int) : Int := if z < 0 then -1 else if z = 0 then 0 else 1
theorem sign_x (z : Int) (v b o c : Nat) (hv : v = z.natAbs) (w : World) : Calls Try.prog 30 #[.agg #[.bool (decide (z < 0)), .bool false, .slice (some ⟨b, o, none⟩) (nl v) c]] w fun e w' => e = .returned (.int .i64 (sgnI z)) ∧ Below w.heap.size w w' := by
  refine calls_pure (G := tys) w tysOK mixed Try.func30 (by rfl) (by rfl) (by rfl) ?_
  subst hv
  rcases Int.lt_trichotomy z 0 with h | h | h
  · have e1 : sgnI z = -1 := by unfold sgnI; rw [if_pos h]
    have e2 : nl z.natAbs ≠ 0 := fun e => by have := nl0 e; omega
    rw [e1]
    repeat' (refine N.go ?_; first | with_reducible refine N.obl (by decide) ?_ | with_reducible refine N.obl (flat_wi _ _ _) ?_ | with_reducible refine N.obl (flat_lim _ _) ?_ | with_reducible refine N.eq ?_ | with_reducible refine N.obl rfl ?_ | with_reducible refine N.obl ⟨by kernel_rfl, by kernel_rfl⟩ ?_ | with_reducible refine N.alt ?_ | with_reducible refine N.forkT ?_ | with_reducible refine N.forkF ?_ | refine N.forkYes (by rw [e2]; rfl) ?_ | refine N.forkNo (by simpa using e2) ?_ | refine N.forkYes (decide_eq_true (by omega)) ?_ | refine N.forkNo (decide_eq_false (by omega)) ?_ | refine N.forkNo (by decide) ?_ | refine N.forkYes (by decide) ?_ | refine N.forkYes (by rw [decide_eq_true_eq]; omega) ?_ | refine N.forkNo (by rw [decide_eq_false_iff_not]; omega) ?_ | fail_if_success skip)
    all_goals rfl
  · have e1 : sgnI z = 0 := by unfold sgnI; rw [if_neg (by omega), if_pos h]
    have e2 : nl z.natAbs = 0 := by rw [h]; exact nl_zero
    rw [e1]
    repeat' (refine N.go ?_; first | with_reducible refine N.obl (by decide) ?_ | with_reducible refine N.obl (flat_wi _ _ _) ?_ | with_reducible refine N.obl (flat_lim _ _) ?_ | with_reducible refine N.eq ?_ | with_reducible refine N.obl rfl ?_ | with_reducible refine N.obl ⟨by kernel_rfl, by kernel_rfl⟩ ?_ | with_reducible refine N.alt ?_ | with_reducible refine N.forkT ?_ | with_reducible refine N.forkF ?_ | refine N.forkYes (by rw [e2]; rfl) ?_ | refine N.forkNo (by simpa using e2) ?_ | refine N.forkYes (decide_eq_true (by omega)) ?_ | refine N.forkNo (decide_eq_false (by omega)) ?_ | refine N.forkNo (by decide) ?_ | refine N.forkYes (by decide) ?_ | refine N.forkYes (by rw [decide_eq_true_eq]; omega) ?_ | refine N.forkNo (by rw [decide_eq_false_iff_not]; omega) ?_ | fail_if_success skip)
    all_goals rfl
  · have e1 : sgnI z = 1 := by unfold sgnI; rw [if_neg (by omega), if_neg (by omega)]
    have e2 : nl z.natAbs ≠ 0 := fun e => by have := nl0 e; omega
    rw [e1]
    repeat' (refine N.go ?_; first | with_reducible refine N.obl (by decide) ?_ | with_reducible refine N.obl (flat_wi _ _ _) ?_ | with_reducible refine N.obl (flat_lim _ _) ?_ | with_reducible refine N.eq ?_ | with_reducible refine N.obl rfl ?_ | with_reducible refine N.obl ⟨by kernel_rfl, by kernel_rfl⟩ ?_ | with_reducible refine N.alt ?_ | with_reducible refine N.forkT ?_ | with_reducible refine N.forkF ?_ | refine N.forkYes (by rw [e2]; rfl) ?_ | refine N.forkNo (by simpa using e2) ?_ | refine N.forkYes (decide_eq_true (by omega)) ?_ | refine N.forkNo (decide_eq_false (by omega)) ?_ | refine N.forkNo (by decide) ?_ | refine N.forkYes (by decide) ?_ | refine N.forkYes (by rw [decide_eq_true_eq]; omega) ?_ | refine N.forkNo (by rw [decide_eq_false_iff_not]; omega) ?_ | fail_if_success skip)
    all_goals rfl
theorem cASign (z : Int) (v b o c : Nat) (hv : v = z.natAbs) (h : List (Option Chunk)) : CallOK Try.prog 30 [.agg #[.bool (decide (z < 0)), .bool false, .slice (some ⟨b, o, none⟩) (nl v) c]] h (.int .i64 (sgnI z)) [] [] := call_pure rfl rfl (Try.call30 _) (sign_x z v b o c hv)
theorem sgn_mul (x y : Int) : ((decide (x < 0) != decide (y < 0)) && decide (0 < x.natAbs * y.natAbs)) = decide (x * y < 0) := by
  rcases Int.lt_trichotomy x 0 with h | h | h <;> rcases Int.lt_trichotomy y 0 with k | k | k
  all_goals first
    | (subst h; simp; done)
    | (subst k; simp; done)
    | (have h1 : 0 < x.natAbs * y.natAbs := Nat.mul_pos (by omega) (by omega)
       rw [decide_eq_true h1, Bool.and_true]
       first
         | (rw [decide_eq_true h, decide_eq_true k, decide_eq_false (by have := Int.mul_pos_of_neg_of_neg h k; omega)]; rfl)
         | (rw [decide_eq_true h, decide_eq_false (by omega : ¬ y < 0), decide_eq_true (Int.mul_neg_of_neg_of_pos h k)]; rfl)
         | (rw [decide_eq_false (by omega : ¬ x < 0), decide_eq_true k, decide_eq_true (Int.mul_neg_of_pos_of_neg h k)]; rfl)
         | (rw [decide_eq_false (by omega : ¬ x < 0), decide_eq_false (by omega : ¬ y < 0), decide_eq_false (by have := Int.mul_pos h k; omega)]; rfl))
set_option maxRecDepth 100000 in
set_option maxHeartbeats 2000000 in
theorem wMul (x y : Int) (hb : nl x.natAbs + nl y.natAbs ≤ 31) (w : World) (xs : List Value) (hx : All2 (AR w) [bz x, bz y] xs) : Mk Try.prog 57 xs w (x * y).natAbs (bzW (x * y)) := by
  obtain ⟨e, e', rfl, h1, v1, h2, v2⟩ := ar_big2 hx
  have hm : (x * y).natAbs = e.v * e'.v := by rw [v1, v2]; exact Int.natAbs_mul x y
  refine calls_nums (es := [e, e']) (vs := [.agg #[.bool (decide (x < 0)), .bool false, .slice (some ⟨0, 0, some 0⟩) (nl e.v) e.c], .agg #[.bool (decide (y < 0)), .bool false, .slice (some ⟨1, 0, some 0⟩) (nl e'.v) e'.c]]) (xs := [e.big (decide (x < 0)), e'.big (decide (y < 0))]) w tysOK mixed Try.func57 (by rfl) (two_at h1 h2) ⟨.big rfl, .big rfl, trivial⟩ (fun _ => rfl) ?_
  repeat' (refine N.go ?_; first | with_reducible refine N.obl (by decide) ?_ | with_reducible refine N.obl (flat_wi _ _ _) ?_ | with_reducible refine N.obl (flat_lim _ _) ?_ | with_reducible refine N.eq ?_ | with_reducible refine N.obl rfl ?_ | with_reducible refine N.obl ⟨by kernel_rfl, by kernel_rfl⟩ ?_ | with_reducible refine N.forkT ?_ | with_reducible refine N.forkF ?_ | refine N.forkNo (by decide) ?_ | refine N.forkYes (by decide) ?_ | fail_if_success skip)
  refine N.go ?_
  refine N.altP ?_
  refine N.go ?_
  refine N.plan [0, 1, 2, 3, 4, 5, 6, 7, 8] [(9, [10, 11])] (by kernel_rfl) ?_
  repeat' (refine N.go ?_; first | with_reducible refine N.obl (by decide) ?_ | with_reducible refine N.obl (flat_wi _ _ _) ?_ | with_reducible refine N.obl (flat_lim _ _) ?_ | with_reducible refine N.eq ?_ | with_reducible refine N.obl rfl ?_ | with_reducible refine N.obl ⟨by kernel_rfl, by kernel_rfl⟩ ?_ | with_reducible refine N.forkT ?_ | with_reducible refine N.forkF ?_ | refine N.forkNo (by decide) ?_ | refine N.forkYes (by decide) ?_ | fail_if_success skip)
  refine N.go ?_
  refine N_callM [0, 1, 5] _ (by kernel_rfl) (fun h₂ hh => mk_arN 5 ((hh 5 (by simp)).trans rfl) (e.v * e'.v) Nm.sl (Try.call66) (qs := [.sl e.v, .sl e'.v]) ⟨.sl (.ch ((hh 0 (by simp)).trans rfl) (isNum _ _ _) h1.len h1.cap), .sl (.ch ((hh 1 (by simp)).trans rfl) (isNum _ _ _) h2.len h2.cap), trivial⟩ (fun _ => rfl) (wTimes e.v e'.v (by rw [v1, v2]; exact hb))) fun v ms hR => ?_
  obtain ⟨κ, hκ, rfl, rfl⟩ := hR
  refine ⟨by simp, ?_⟩
  have hsg : ((decide (x < 0) != decide (y < 0)) && decide (0 < κ.v)) = decide (x * y < 0) := by rw [hκ, v1, v2, sgn_mul]
  repeat' (refine N.go ?_; first | with_reducible refine N.obl (by decide) ?_ | with_reducible refine N.obl (flat_wi _ _ _) ?_ | with_reducible refine N.obl (flat_lim _ _) ?_ | with_reducible refine N.eq ?_ | with_reducible refine N.obl rfl ?_ | with_reducible refine N.obl ⟨by kernel_rfl, by kernel_rfl⟩ ?_ | with_reducible refine N.forkT ?_ | with_reducible refine N.forkF ?_ | refine N.call (cAMade _ κ 5 (by rfl) (List.mem_singleton.2 rfl)) ?_ | refine N.obl (by show endB _ _ = Bool.true; kernel_rfl) ?_ | refine N.endM κ 5 (hκ.trans hm.symm) (by rw [hsg]) (by rfl) (List.mem_singleton.2 rfl) | refine N.forkNo (by decide) ?_ | refine N.forkYes (by decide) ?_ | fail_if_success skip)
theorem cBCmp (a b : Nat) (i j m q : Nat) (h : List (Option Chunk)) {o o2 : Chunk} (hi : h[i]? = some (some o)) (hin : IsNum o m a) (hj : h[j]? = some (some o2)) (hjn : IsNum o2 q b) (hl : nl a ≤ m) (hm : m ≤ 31) (hl2 : nl b ≤ q) (hq : q ≤ 31) :
    CallOK Try.prog 88 [.slice (some ⟨i, 0, some 0⟩) (nl a) m, .slice (some ⟨j, 0, some 0⟩) (nl b) q] h (.int .i64 (cmpN a b)) [] [i, j] := cCmp a b m q i j o o2 h hi hin hj hjn hl (by omega) hl2 (by omega)
set_option maxRecDepth 100000 in
set_option maxHeartbeats 2000000 in
theorem wAdd (x y : Int) (a b : Nat) (hxa : a = x.natAbs) (hyb : b = y.natAbs) (ha : nl a ≤ 30) (hb : nl b ≤ 30) (w : World) (xs : List Value) (hx : All2 (AR w) [.big (decide (x < 0)) a, .big (decide (y < 0)) b] xs) : Mk Try.prog 64 xs w (x + y).natAbs (bzW (x + y)) := by
  obtain ⟨e, e', rfl, h1, v1, h2, v2⟩ := ar_big2 hx
  have q1 := h1.cap
  have q2 := h2.cap
  refine calls_nums (es := [e, e']) (vs := [.agg #[.bool (decide (x < 0)), .bool false, .slice (some ⟨0, 0, some 0⟩) (nl e.v) e.c], .agg #[.bool (decide (y < 0)), .bool false, .slice (some ⟨1, 0, some 0⟩) (nl e'.v) e'.c]]) (xs := [e.big (decide (x < 0)), e'.big (decide (y < 0))]) w tysOK mixed Try.func64 (by rfl) (two_at h1 h2) ⟨.big rfl, .big rfl, trivial⟩ (fun _ => rfl) ?_
  repeat' (refine N.go ?_; first | with_reducible refine N.obl (by decide) ?_ | with_reducible refine N.obl (flat_wi _ _ _) ?_ | with_reducible refine N.obl (flat_lim _ _) ?_ | with_reducible refine N.eq ?_ | with_reducible refine N.obl rfl ?_ | with_reducible refine N.obl ⟨by kernel_rfl, by kernel_rfl⟩ ?_ | with_reducible refine N.forkT ?_ | with_reducible refine N.forkF ?_ | refine N.forkNo (by decide) ?_ | refine N.forkYes (by decide) ?_ | fail_if_success skip)
  refine N.go ?_
  by_cases hs : decide (x < 0) = decide (y < 0)
  · refine N.forkYes (by rw [hs]; simp) ?_
    refine N.go ?_
    refine N.altP ?_
    refine N.go ?_
    refine N.plan [0, 1, 2, 3, 4, 5] [(6, [7, 8])] (by kernel_rfl) ?_
    repeat' (refine N.go ?_; first | with_reducible refine N.obl (by decide) ?_ | with_reducible refine N.obl (flat_wi _ _ _) ?_ | with_reducible refine N.obl (flat_lim _ _) ?_ | with_reducible refine N.eq ?_ | with_reducible refine N.obl rfl ?_ | with_reducible refine N.obl ⟨by kernel_rfl, by kernel_rfl⟩ ?_ | with_reducible refine N.forkT ?_ | with_reducible refine N.forkF ?_ | refine N.forkNo (by decide) ?_ | refine N.forkYes (by decide) ?_ | fail_if_success skip)
    refine N.go ?_
    refine N_callM [0, 1, 5] _ (by kernel_rfl) (fun h₂ hh => mk_arN 5 ((hh 5 (by simp)).trans rfl) (e.v + e'.v) Nm.sl (Try.call87) (qs := [.sl e.v, .sl e'.v]) ⟨.sl (.ch ((hh 0 (by simp)).trans rfl) (isNum _ _ _) h1.len h1.cap), .sl (.ch ((hh 1 (by simp)).trans rfl) (isNum _ _ _) h2.len h2.cap), trivial⟩ (fun _ => rfl) (wPlus e.v e'.v (by rw [v1]; exact ha) (by rw [v2]; exact hb))) fun v ms hR => ?_
    obtain ⟨κ, hκ, rfl, rfl⟩ := hR
    refine ⟨by simp, ?_⟩
    have hsg : (decide (x < 0) && decide (0 < κ.v)) = decide (x + y < 0) := by
      rw [hκ, v1, v2, hxa, hyb]
      rw [decide_eq_decide] at hs
      rw [Bool.eq_iff_iff, Bool.and_eq_true, decide_eq_true_iff, decide_eq_true_iff, decide_eq_true_iff]; omega
    have hv : e.v + e'.v = (x + y).natAbs := by rw [v1, v2, hxa, hyb]; rw [decide_eq_decide] at hs; omega
    repeat' (refine N.go ?_; first | with_reducible refine N.obl (by decide) ?_ | with_reducible refine N.obl (flat_wi _ _ _) ?_ | with_reducible refine N.obl (flat_lim _ _) ?_ | with_reducible refine N.eq ?_ | with_reducible refine N.obl rfl ?_ | with_reducible refine N.obl ⟨by kernel_rfl, by kernel_rfl⟩ ?_ | with_reducible refine N.forkT ?_ | with_reducible refine N.forkF ?_ | refine N.call (cAMade _ κ 5 (by rfl) (List.mem_singleton.2 rfl)) ?_ | refine N.obl (by show endB _ _ = Bool.true; kernel_rfl) ?_ | refine N.endM κ 5 (hκ.trans hv) (by rw [hsg]) (by rfl) (List.mem_singleton.2 rfl) | refine N.forkNo (by decide) ?_ | refine N.forkYes (by decide) ?_ | fail_if_success skip)
  · refine N.forkNo (by simpa using hs) ?_
    refine N.go ?_
    refine N.call (cBCmp e.v e'.v 0 1 e.c e'.c _ (by rfl) (isNum _ _ _) (by rfl) (isNum _ _ _) h1.len h1.cap h2.len h2.cap) ?_
    repeat' (refine N.go ?_; first | with_reducible refine N.obl (by decide) ?_ | with_reducible refine N.obl (flat_wi _ _ _) ?_ | with_reducible refine N.obl (flat_lim _ _) ?_ | with_reducible refine N.eq ?_ | with_reducible refine N.obl rfl ?_ | with_reducible refine N.obl ⟨by kernel_rfl, by kernel_rfl⟩ ?_ | with_reducible refine N.forkT ?_ | with_reducible refine N.forkF ?_ | refine N.forkNo (by decide) ?_ | refine N.forkYes (by decide) ?_ | fail_if_success skip)
    refine N.go ?_
    by_cases hle : e'.v ≤ e.v
    · refine N.forkYes (by rw [decide_eq_true_eq]; unfold cmpN; rw [if_neg (by omega)]; split <;> decide) ?_
      refine N.go ?_
      refine N.altP ?_
      refine N.go ?_
      refine N.plan [0, 1, 2, 3, 4, 5] [(6, [7, 8])] (by kernel_rfl) ?_
      repeat' (refine N.go ?_; first | with_reducible refine N.obl (by decide) ?_ | with_reducible refine N.obl (flat_wi _ _ _) ?_ | with_reducible refine N.obl (flat_lim _ _) ?_ | with_reducible refine N.eq ?_ | with_reducible refine N.obl rfl ?_ | with_reducible refine N.obl ⟨by kernel_rfl, by kernel_rfl⟩ ?_ | with_reducible refine N.forkT ?_ | with_reducible refine N.forkF ?_ | refine N.forkNo (by decide) ?_ | refine N.forkYes (by decide) ?_ | fail_if_success skip)
      refine N.go ?_
      refine N_callM [0, 1, 5] _ (by kernel_rfl) (fun h₂ hh => mk_arN 5 ((hh 5 (by simp)).trans rfl) (e.v - e'.v) Nm.sl (Try.call89) (qs := [.sl e.v, .sl e'.v]) ⟨.sl (.ch ((hh 0 (by simp)).trans rfl) (isNum _ _ _) h1.len h1.cap), .sl (.ch ((hh 1 (by simp)).trans rfl) (isNum _ _ _) h2.len h2.cap), trivial⟩ (fun _ => rfl) (wMinus e.v e'.v hle)) fun v ms hR => ?_
      obtain ⟨κ, hκ, rfl, rfl⟩ := hR
      refine ⟨by simp, ?_⟩
      have hsg : (decide (x < 0) && decide (0 < κ.v)) = decide (x + y < 0) := by
        rw [hκ]
        rw [v1, v2, hxa, hyb] at hle ⊢
        rw [decide_eq_decide] at hs
        rw [Bool.eq_iff_iff, Bool.and_eq_true, decide_eq_true_iff, decide_eq_true_iff, decide_eq_true_iff]; omega
      have hv : e.v - e'.v = (x + y).natAbs := by rw [v1, v2, hxa, hyb] at hle ⊢; rw [decide_eq_decide] at hs; omega
      repeat' (refine N.go ?_; first | with_reducible refine N.obl (by decide) ?_ | with_reducible refine N.obl (flat_wi _ _ _) ?_ | with_reducible refine N.obl (flat_lim _ _) ?_ | with_reducible refine N.eq ?_ | with_reducible refine N.obl rfl ?_ | with_reducible refine N.obl ⟨by kernel_rfl, by kernel_rfl⟩ ?_ | with_reducible refine N.forkT ?_ | with_reducible refine N.forkF ?_ | refine N.call (cAMade _ κ 5 (by rfl) (List.mem_singleton.2 rfl)) ?_ | refine N.obl (by show endB _ _ = Bool.true; kernel_rfl) ?_ | refine N.endM κ 5 (hκ.trans hv) (by rw [hsg]) (by rfl) (List.mem_singleton.2 rfl) | refine N.forkNo (by decide) ?_ | refine N.forkYes (by decide) ?_ | fail_if_success skip)
    · refine N.forkNo (by rw [decide_eq_false_iff_not]; unfold cmpN; rw [if_pos (by omega)]; decide) ?_
      refine N.go ?_
      refine N.altP ?_
      refine N.go ?_
      refine N.plan [0, 1, 2, 3, 4, 5] [(6, [7, 8])] (by kernel_rfl) ?_
      repeat' (refine N.go ?_; first | with_reducible refine N.obl (by decide) ?_ | with_reducible refine N.obl (flat_wi _ _ _) ?_ | with_reducible refine N.obl (flat_lim _ _) ?_ | with_reducible refine N.eq ?_ | with_reducible refine N.obl rfl ?_ | with_reducible refine N.obl ⟨by kernel_rfl, by kernel_rfl⟩ ?_ | with_reducible refine N.forkT ?_ | with_reducible refine N.forkF ?_ | refine N.forkNo (by decide) ?_ | refine N.forkYes (by decide) ?_ | fail_if_success skip)
      refine N.go ?_
      refine N_callM [0, 1, 5] _ (by kernel_rfl) (fun h₂ hh => mk_arN 5 ((hh 5 (by simp)).trans rfl) (e'.v - e.v) Nm.sl (Try.call89) (qs := [.sl e'.v, .sl e.v]) ⟨.sl (.ch ((hh 1 (by simp)).trans rfl) (isNum _ _ _) h2.len h2.cap), .sl (.ch ((hh 0 (by simp)).trans rfl) (isNum _ _ _) h1.len h1.cap), trivial⟩ (fun _ => rfl) (wMinus e'.v e.v (by omega))) fun v ms hR => ?_
      obtain ⟨κ, hκ, rfl, rfl⟩ := hR
      refine ⟨by simp, ?_⟩
      have hsg : (decide (y < 0) && decide (0 < κ.v)) = decide (x + y < 0) := by
        rw [hκ]
        rw [v1, v2, hxa, hyb] at hle ⊢
        rw [decide_eq_decide] at hs
        rw [Bool.eq_iff_iff, Bool.and_eq_true, decide_eq_true_iff, decide_eq_true_iff, decide_eq_true_iff]; omega
      have hv : e'.v - e.v = (x + y).natAbs := by rw [v1, v2, hxa, hyb] at hle ⊢; rw [decide_eq_decide] at hs; omega
      repeat' (refine N.go ?_; first | with_reducible refine N.obl (by decide) ?_ | with_reducible refine N.obl (flat_wi _ _ _) ?_ | with_reducible refine N.obl (flat_lim _ _) ?_ | with_reducible refine N.eq ?_ | with_reducible refine N.obl rfl ?_ | with_reducible refine N.obl ⟨by kernel_rfl, by kernel_rfl⟩ ?_ | with_reducible refine N.forkT ?_ | with_reducible refine N.forkF ?_ | refine N.call (cAMade _ κ 5 (by rfl) (List.mem_singleton.2 rfl)) ?_ | refine N.obl (by show endB _ _ = Bool.true; kernel_rfl) ?_ | refine N.endM κ 5 (hκ.trans hv) (by rw [hsg]) (by rfl) (List.mem_singleton.2 rfl) | refine N.forkNo (by decide) ?_ | refine N.forkYes (by decide) ?_ | fail_if_success skip)
set_option maxRecDepth 100000 in
set_option maxHeartbeats 2000000 in
theorem wSub (x y : Int) (a b : Nat) (hxa : a = x.natAbs) (hyb : b = y.natAbs) (ha : nl a ≤ 30) (hb : nl b ≤ 30) (w : World) (xs : List Value) (hx : All2 (AR w) [.big (decide (x < 0)) a, .big (decide (y < 0)) b] xs) : Mk Try.prog 56 xs w (x - y).natAbs (bzW (x - y)) := by
  obtain ⟨e, e', rfl, h1, v1, h2, v2⟩ := ar_big2 hx
  have q1 := h1.cap
  have q2 := h2.cap
  have hng : decide (-y < 0) = (!decide (y < 0) && decide (0 < e'.v)) := by
    rw [v2, hyb, Bool.eq_iff_iff, Bool.and_eq_true, decide_eq_true_iff, decide_eq_true_iff, Bool.not_eq_true', decide_eq_false_iff_not]; omega
  rw [Int.sub_eq_add_neg]
  refine calls_nums (es := [e, e']) (vs := [.agg #[.bool (decide (x < 0)), .bool false, .slice (some ⟨0, 0, some 0⟩) (nl e.v) e.c], .agg #[.bool (decide (y < 0)), .bool false, .slice (some ⟨1, 0, some 0⟩) (nl e'.v) e'.c]]) (xs := [e.big (decide (x < 0)), e'.big (decide (y < 0))]) w tysOK mixed Try.func56 (by rfl) (two_at h1 h2) ⟨.big rfl, .big rfl, trivial⟩ (fun _ => rfl) ?_
  repeat' (refine N.go ?_; first | with_reducible refine N.obl (by decide) ?_ | with_reducible refine N.obl (flat_wi _ _ _) ?_ | with_reducible refine N.obl (flat_lim _ _) ?_ | with_reducible refine N.eq ?_ | with_reducible refine N.obl rfl ?_ | with_reducible refine N.obl ⟨by kernel_rfl, by kernel_rfl⟩ ?_ | with_reducible refine N.forkT ?_ | with_reducible refine N.forkF ?_ | refine N.forkNo (by decide) ?_ | refine N.forkYes (by decide) ?_ | fail_if_success skip)
  refine N.go ?_
  refine N.altP ?_
  refine N.go ?_
  refine N.plan [0, 1, 2] [(3, [4])] (by kernel_rfl) ?_
  repeat' (refine N.go ?_; first | with_reducible refine N.obl (by decide) ?_ | with_reducible refine N.obl (flat_wi _ _ _) ?_ | with_reducible refine N.obl (flat_lim _ _) ?_ | with_reducible refine N.eq ?_ | with_reducible refine N.obl rfl ?_ | with_reducible refine N.obl ⟨by kernel_rfl, by kernel_rfl⟩ ?_ | with_reducible refine N.forkT ?_ | with_reducible refine N.forkF ?_ | refine N.call (cRNegC e'.v e'.c 1 (decide (y < 0)) (decide (-y < 0)) hng _ _ (by rfl) (isNum _ _ _) h2.len h2.cap) ?_ | refine N.forkNo (by decide) ?_ | refine N.forkYes (by decide) ?_ | fail_if_success skip)
  refine N.go ?_
  refine N_callM [0, 1, 9] _ (by kernel_rfl) (fun h₂ hh => mk_arN 9 ((hh 9 (by simp)).trans rfl) (x + -y).natAbs (bzW (x + -y)) (Try.call64) (qs := [.big (decide (x < 0)) e.v, .big (decide (-y < 0)) e'.v]) ⟨.big (.ch ((hh 0 (by simp)).trans rfl) (isNum _ _ _) h1.len h1.cap), .big (.ch ((hh 1 (by simp)).trans rfl) (isNum _ _ _) h2.len h2.cap), trivial⟩ (fun _ => rfl) (wAdd x (-y) e.v e'.v (by rw [v1, hxa]) (by rw [v2, hyb, Int.natAbs_neg]) (by rw [v1]; exact ha) (by rw [v2]; exact hb))) fun v ms hR => ?_
  obtain ⟨κ, hκ, rfl, rfl⟩ := hR
  refine ⟨by simp, ?_⟩
  repeat' (refine N.go ?_; first | with_reducible refine N.obl (by decide) ?_ | with_reducible refine N.obl (flat_wi _ _ _) ?_ | with_reducible refine N.obl (flat_lim _ _) ?_ | with_reducible refine N.eq ?_ | with_reducible refine N.obl rfl ?_ | with_reducible refine N.obl ⟨by kernel_rfl, by kernel_rfl⟩ ?_ | with_reducible refine N.forkT ?_ | with_reducible refine N.forkF ?_ | refine N.obl (by show endB _ _ = Bool.true; kernel_rfl) ?_ | refine N.endM κ 9 hκ rfl (by rfl) (List.mem_singleton.2 rfl) | refine N.forkNo (by decide) ?_ | refine N.forkYes (by decide) ?_ | fail_if_success skip)
set_option maxRecDepth 100000 in
set_option maxHeartbeats 2000000 in
theorem wDet3 (a b d : Int) (had : nl a.natAbs + nl d.natAbs ≤ 30) (hbb : nl b.natAbs + nl b.natAbs ≤ 30) (w : World) (xs : List Value) (hx : All2 (AR w) [bz a, bz b, bz d] xs) : Mk Try.prog 46 xs w (a * d - b * b).natAbs (bzW (a * d - b * b)) := by
  obtain ⟨e, e', e'', rfl, h1, v1, h2, v2, h3, v3⟩ := ar_big3 hx
  have n1 : nl (a * d).natAbs ≤ 30 := by rw [Int.natAbs_mul]; exact Nat.le_trans (nl_le.2 (mul_nl3 _ _)) had
  have n2 : nl (b * b).natAbs ≤ 30 := by rw [Int.natAbs_mul]; exact Nat.le_trans (nl_le.2 (mul_nl3 _ _)) hbb
  refine calls_nums (es := [e, e', e'']) (vs := [.agg #[.bool (decide (a < 0)), .bool false, .slice (some ⟨0, 0, some 0⟩) (nl e.v) e.c], .agg #[.bool (decide (b < 0)), .bool false, .slice (some ⟨1, 0, some 0⟩) (nl e'.v) e'.c], .agg #[.bool (decide (d < 0)), .bool false, .slice (some ⟨2, 0, some 0⟩) (nl e''.v) e''.c]]) (xs := [e.big (decide (a < 0)), e'.big (decide (b < 0)), e''.big (decide (d < 0))]) w tysOK mixed Try.func46 (by rfl) (three_at h1 h2 h3) ⟨.big rfl, .big rfl, .big rfl, trivial⟩ (fun _ => rfl) ?_
  repeat' (refine N.go ?_; first | with_reducible refine N.obl (by decide) ?_ | with_reducible refine N.obl (flat_wi _ _ _) ?_ | with_reducible refine N.obl (flat_lim _ _) ?_ | with_reducible refine N.eq ?_ | with_reducible refine N.obl rfl ?_ | with_reducible refine N.obl ⟨by kernel_rfl, by kernel_rfl⟩ ?_ | with_reducible refine N.forkT ?_ | with_reducible refine N.forkF ?_ | refine N.forkNo (by decide) ?_ | refine N.forkYes (by decide) ?_ | fail_if_success skip)
  refine N.go ?_
  refine N.altP ?_
  refine N.go ?_
  refine N.plan [0, 1, 3, 4] [(2, []), (5, []), (6, [7])] (by kernel_rfl) ?_
  repeat' (refine N.go ?_; first | with_reducible refine N.obl (by decide) ?_ | with_reducible refine N.obl (flat_wi _ _ _) ?_ | with_reducible refine N.obl (flat_lim _ _) ?_ | with_reducible refine N.eq ?_ | with_reducible refine N.obl rfl ?_ | with_reducible refine N.obl ⟨by kernel_rfl, by kernel_rfl⟩ ?_ | with_reducible refine N.forkT ?_ | with_reducible refine N.forkF ?_ | refine N.forkNo (by decide) ?_ | refine N.forkYes (by decide) ?_ | fail_if_success skip)
  refine N.go ?_
  refine N_callM [0, 2, 7] _ (by kernel_rfl) (fun h₂ hh => mk_arN 7 ((hh 7 (by simp)).trans rfl) (a * d).natAbs (bzW (a * d)) (Try.call57) (qs := [.big (decide (a < 0)) e.v, .big (decide (d < 0)) e''.v]) ⟨.big (.ch ((hh 0 (by simp)).trans rfl) (isNum _ _ _) h1.len h1.cap), .big (.ch ((hh 2 (by simp)).trans rfl) (isNum _ _ _) h3.len h3.cap), trivial⟩ (fun _ => rfl) (by rw [v1, v3]; exact wMul a d (by omega))) fun v ms hR => ?_
  obtain ⟨κ, hκ, rfl, rfl⟩ := hR
  refine ⟨by simp, ?_⟩
  repeat' (refine N.go ?_; first | with_reducible refine N.obl (by decide) ?_ | with_reducible refine N.obl (flat_wi _ _ _) ?_ | with_reducible refine N.obl (flat_lim _ _) ?_ | with_reducible refine N.eq ?_ | with_reducible refine N.obl rfl ?_ | with_reducible refine N.obl ⟨by kernel_rfl, by kernel_rfl⟩ ?_ | with_reducible refine N.forkT ?_ | with_reducible refine N.forkF ?_ | refine N.forkNo (by decide) ?_ | refine N.forkYes (by decide) ?_ | fail_if_success skip)
  refine N.go ?_
  refine N_callM [1, 7] _ (by kernel_rfl) (fun h₂ hh => mk_arM 7 ((hh 7 (by simp)).trans rfl) (b * b).natAbs (bzW (b * b)) (Try.call57) (qs := [.big (decide (b < 0)) e'.v, .big (decide (b < 0)) e'.v]) ⟨.big (.ch ((hh 1 (by simp)).trans rfl) (isNum _ _ _) h2.len h2.cap), .big (.ch ((hh 1 (by simp)).trans rfl) (isNum _ _ _) h2.len h2.cap), trivial⟩ (fun _ => rfl) (by rw [v2]; exact wMul b b (by omega))) fun v ms hR => ?_
  obtain ⟨κ', hκ', rfl, rfl⟩ := hR
  refine ⟨by simp, ?_⟩
  repeat' (refine N.go ?_; first | with_reducible refine N.obl (by decide) ?_ | with_reducible refine N.obl (flat_wi _ _ _) ?_ | with_reducible refine N.obl (flat_lim _ _) ?_ | with_reducible refine N.eq ?_ | with_reducible refine N.obl rfl ?_ | with_reducible refine N.obl ⟨by kernel_rfl, by kernel_rfl⟩ ?_ | with_reducible refine N.forkT ?_ | with_reducible refine N.forkF ?_ | refine N.forkNo (by decide) ?_ | refine N.forkYes (by decide) ?_ | fail_if_success skip)
  refine N.go ?_
  refine N_callM [7] _ (by kernel_rfl) (fun h₂ hh => mk_arM 7 ((hh 7 (by simp)).trans rfl) (a * d - b * b).natAbs (bzW (a * d - b * b)) (Try.call56) (qs := [.big (decide (a * d < 0)) κ.v, .big (decide (b * b < 0)) κ'.v]) ⟨.big (.ar (by simp)), .big (.ar (by simp)), trivial⟩ (fun _ => rfl) (wSub (a * d) (b * b) κ.v κ'.v hκ hκ' (by rw [hκ]; exact n1) (by rw [hκ']; exact n2))) fun v ms hR => ?_
  obtain ⟨κ3, hκ3, rfl, rfl⟩ := hR
  refine ⟨by simp, ?_⟩
  repeat' (refine N.go ?_; first | with_reducible refine N.obl (by decide) ?_ | with_reducible refine N.obl (flat_wi _ _ _) ?_ | with_reducible refine N.obl (flat_lim _ _) ?_ | with_reducible refine N.eq ?_ | with_reducible refine N.obl rfl ?_ | with_reducible refine N.obl ⟨by kernel_rfl, by kernel_rfl⟩ ?_ | with_reducible refine N.forkT ?_ | with_reducible refine N.forkF ?_ | refine N.obl (by show endB _ _ = Bool.true; kernel_rfl) ?_ | refine N.endM κ3 7 hκ3 rfl (by rfl) (by simp) | refine N.forkNo (by decide) ?_ | refine N.forkYes (by decide) ?_ | fail_if_success skip)
set_option maxRecDepth 100000 in
set_option maxHeartbeats 2000000 in
theorem wDet (a b d : Int) (ha : -9223372036854775808 ≤ a ∧ a < 9223372036854775808) (hb : -9223372036854775808 ≤ b ∧ b < 9223372036854775808) (hd : -9223372036854775808 ≤ d ∧ d < 9223372036854775808) (w : World) (xs : List Value) (hx : All2 (AR w) [.pl (.agg #[.int .i64 a, .int .i64 b, .int .i64 d])] xs) : Mk Try.prog 31 xs w (a * d - b * b).natAbs (bzW (a * d - b * b)) := by
  obtain rfl := ar_pl1 hx
  have n1 : nl a.natAbs ≤ 2 := (two_words (n := a.natAbs) (by omega)).2
  have n2 : nl b.natAbs ≤ 2 := (two_words (n := b.natAbs) (by omega)).2
  have n3 : nl d.natAbs ≤ 2 := (two_words (n := d.natAbs) (by omega)).2
  refine calls_nums (es := []) (vs := [.agg #[.int .i64 a, .int .i64 b, .int .i64 d]]) (xs := [.agg #[.int .i64 a, .int .i64 b, .int .i64 d]]) w tysOK mixed Try.func31 (by rfl) (fun e he => by cases he) ⟨.pl rfl, trivial⟩ (fun _ => rfl) ?_
  repeat' (refine N.go ?_; first | with_reducible refine N.obl (by decide) ?_ | with_reducible refine N.obl (flat_wi _ _ _) ?_ | with_reducible refine N.obl (flat_lim _ _) ?_ | with_reducible refine N.eq ?_ | with_reducible refine N.obl rfl ?_ | with_reducible refine N.obl ⟨by kernel_rfl, by kernel_rfl⟩ ?_ | with_reducible refine N.forkT ?_ | with_reducible refine N.forkF ?_ | refine N.forkNo (by decide) ?_ | refine N.forkYes (by decide) ?_ | fail_if_success skip)
  refine N.go ?_
  refine N.altP ?_
  refine N.go ?_
  refine N.plan [0, 1, 3, 4, 6, 7] [(2, []), (5, []), (8, []), (9, [10])] (by kernel_rfl) ?_
  repeat' (refine N.go ?_; first | with_reducible refine N.obl (by decide) ?_ | with_reducible refine N.obl (flat_wi _ _ _) ?_ | with_reducible refine N.obl (flat_lim _ _) ?_ | with_reducible refine N.eq ?_ | with_reducible refine N.obl rfl ?_ | with_reducible refine N.obl ⟨by kernel_rfl, by kernel_rfl⟩ ?_ | with_reducible refine N.forkT ?_ | with_reducible refine N.forkF ?_ | refine N.forkNo (by decide) ?_ | refine N.forkYes (by decide) ?_ | fail_if_success skip)
  refine N.go ?_
  refine N_callM [2] _ (by kernel_rfl) (fun h₂ hh => mk_arN 2 ((hh 2 (by simp)).trans rfl) a.natAbs (bzW a) (Try.call47) (qs := [.pl (.int .i64 a)]) ⟨.pl rfl, trivial⟩ (fun _ => rfl) (wOf a ha)) fun v ms hR => ?_
  obtain ⟨κ1, hκ1, rfl, rfl⟩ := hR
  refine ⟨by simp, ?_⟩
  repeat' (refine N.go ?_; first | with_reducible refine N.obl (by decide) ?_ | with_reducible refine N.obl (flat_wi _ _ _) ?_ | with_reducible refine N.obl (flat_lim _ _) ?_ | with_reducible refine N.eq ?_ | with_reducible refine N.obl rfl ?_ | with_reducible refine N.obl ⟨by kernel_rfl, by kernel_rfl⟩ ?_ | with_reducible refine N.forkT ?_ | with_reducible refine N.forkF ?_ | refine N.forkNo (by decide) ?_ | refine N.forkYes (by decide) ?_ | fail_if_success skip)
  refine N.go ?_
  refine N_callM [2] _ (by kernel_rfl) (fun h₂ hh => mk_arM 2 ((hh 2 (by simp)).trans rfl) b.natAbs (bzW b) (Try.call47) (qs := [.pl (.int .i64 b)]) ⟨.pl rfl, trivial⟩ (fun _ => rfl) (wOf b hb)) fun v ms hR => ?_
  obtain ⟨κ2, hκ2, rfl, rfl⟩ := hR
  refine ⟨by simp, ?_⟩
  repeat' (refine N.go ?_; first | with_reducible refine N.obl (by decide) ?_ | with_reducible refine N.obl (flat_wi _ _ _) ?_ | with_reducible refine N.obl (flat_lim _ _) ?_ | with_reducible refine N.eq ?_ | with_reducible refine N.obl rfl ?_ | with_reducible refine N.obl ⟨by kernel_rfl, by kernel_rfl⟩ ?_ | with_reducible refine N.forkT ?_ | with_reducible refine N.forkF ?_ | refine N.forkNo (by decide) ?_ | refine N.forkYes (by decide) ?_ | fail_if_success skip)
  refine N.go ?_
  refine N_callM [2] _ (by kernel_rfl) (fun h₂ hh => mk_arM 2 ((hh 2 (by simp)).trans rfl) d.natAbs (bzW d) (Try.call47) (qs := [.pl (.int .i64 d)]) ⟨.pl rfl, trivial⟩ (fun _ => rfl) (wOf d hd)) fun v ms hR => ?_
  obtain ⟨κ3, hκ3, rfl, rfl⟩ := hR
  refine ⟨by simp, ?_⟩
  repeat' (refine N.go ?_; first | with_reducible refine N.obl (by decide) ?_ | with_reducible refine N.obl (flat_wi _ _ _) ?_ | with_reducible refine N.obl (flat_lim _ _) ?_ | with_reducible refine N.eq ?_ | with_reducible refine N.obl rfl ?_ | with_reducible refine N.obl ⟨by kernel_rfl, by kernel_rfl⟩ ?_ | with_reducible refine N.forkT ?_ | with_reducible refine N.forkF ?_ | refine N.forkNo (by decide) ?_ | refine N.forkYes (by decide) ?_ | fail_if_success skip)
  refine N.go ?_
  refine N_callM [2] _ (by kernel_rfl) (fun h₂ hh => mk_arM 2 ((hh 2 (by simp)).trans rfl) (a * d - b * b).natAbs (bzW (a * d - b * b)) (Try.call46) (qs := [.big (decide (a < 0)) κ1.v, .big (decide (b < 0)) κ2.v, .big (decide (d < 0)) κ3.v]) ⟨.big (.ar (by simp)), .big (.ar (by simp)), .big (.ar (by simp)), trivial⟩ (fun _ => rfl) (by rw [hκ1, hκ2, hκ3]; exact wDet3 a b d (by omega) (by omega))) fun v ms hR => ?_
  obtain ⟨κ4, hκ4, rfl, rfl⟩ := hR
  refine ⟨by simp, ?_⟩
  repeat' (refine N.go ?_; first | with_reducible refine N.obl (by decide) ?_ | with_reducible refine N.obl (flat_wi _ _ _) ?_ | with_reducible refine N.obl (flat_lim _ _) ?_ | with_reducible refine N.eq ?_ | with_reducible refine N.obl rfl ?_ | with_reducible refine N.obl ⟨by kernel_rfl, by kernel_rfl⟩ ?_ | with_reducible refine N.forkT ?_ | with_reducible refine N.forkF ?_ | refine N.obl (by show endB _ _ = Bool.true; kernel_rfl) ?_ | refine N.endM κ4 2 hκ4 rfl (by rfl) (by simp) | refine N.forkNo (by decide) ?_ | refine N.forkYes (by decide) ?_ | fail_if_success skip)
end Go.Proofs.Ytpafcfelaaibgaa
