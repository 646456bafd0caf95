
/-
  The walks of wide.Div by one digit, of Neg, Int64, narrow, above, MulDiv, MulDivUp.
-/
import Derived.Test.YtbepibdjlajppaaDoorMul
set_option linter.unusedVariables false
set_option linter.unusedSimpArgs false
namespace Go.Proofs.YtbepibdjlajppaaDoor
open Go Go.RowKit Sx

/-- A whole number as a wide one. -/
abbrev wz (z : Int) : Value := .agg ⟨wiL (decide (z < 0)) false z.natAbs⟩
theorem plain_wz (z : Int) : plain2 (wz z) = true := plain_wi _ _ _
theorem plain3_wz (z : Int) : plain3 (wz z) = true := plain_wi _ _ _
theorem cNegBool (a b : Int) : ((decide (a < 0) != decide (b < 0)) && decide (a.natAbs * b.natAbs ≠ 0)) = decide (a * b < 0) := by
  by_cases h0 : a = 0
  · subst h0; simp
  by_cases h1 : b = 0
  · subst h1; simp
  have hne : a.natAbs * b.natAbs ≠ 0 := Nat.mul_ne_zero (by omega) (by omega)
  rw [decide_eq_true hne, Bool.and_true]
  rcases Int.lt_or_gt_of_ne h0 with ha | ha <;> rcases Int.lt_or_gt_of_ne h1 with hb | hb
  · have := Int.mul_pos_of_neg_of_neg ha hb
    rw [decide_eq_true ha, decide_eq_true hb, decide_eq_false (by omega)]; rfl
  · have := Int.mul_neg_of_neg_of_pos ha hb
    rw [decide_eq_true ha, decide_eq_false (by omega : ¬ b < 0), decide_eq_true this]; rfl
  · have := Int.mul_neg_of_pos_of_neg ha hb
    rw [decide_eq_false (by omega : ¬ a < 0), decide_eq_true hb, decide_eq_true this]; rfl
  · have := Int.mul_pos ha hb
    rw [decide_eq_false (by omega : ¬ a < 0), decide_eq_false (by omega : ¬ b < 0), decide_eq_false (by omega)]; rfl
theorem cMulz (a b : Int) (h : List (Option Chunk)) (ha : a.natAbs < Bs ^ 16) (hb : b.natAbs < Bs ^ 16) (hab : (a * b).natAbs < Top) : CallOK Tryd.prog 35 [wz a, wz b] h (wz (a * b)) [] [] :=
  call_pure (by simp [plain_wz]) (plain3_wz _) (Tryd.call35 _) fun w => by
    have := mul_x (decide (a < 0)) (decide (b < 0)) a.natAbs b.natAbs ha hb (by rwa [← Int.natAbs_mul]) w
    rw [cNegBool, ← Int.natAbs_mul] at this
    exact this
theorem cOfz (n : Int) (h : List (Option Chunk)) (h0 : -9223372036854775808 ≤ n) (h1 : n < 9223372036854775808) : CallOK Tryd.prog 23 [.int .i64 n] h (wz n) [] [] := cOf n h h0 h1

theorem has_lim {h : List (Option Chunk)} {i v : Nat} {o : Bool} (hi : h[i]? = some (some ⟨o, 16, [(0, 16, .agg ⟨limL 16 (dg v)⟩)]⟩)) : Has h i 0 v :=
  ⟨_, hi, Nat.le_refl _, fun j hj => by
    show cellOf _ _ = _
    rw [cellOf_cons, if_pos (by omega)]
    simp only [cellIn]
    rw [show 0 + j - 0 = j from by omega]
    exact limL_get hj⟩
theorem lim_one1 : limL 16 (dg 1) = [.int .u64 1, .int .u64 0, .int .u64 0, .int .u64 0, .int .u64 0, .int .u64 0, .int .u64 0, .int .u64 0, .int .u64 0, .int .u64 0, .int .u64 0, .int .u64 0, .int .u64 0, .int .u64 0, .int .u64 0, .int .u64 0] := by
  rw [limL_same (g := fun j => if j = 0 then 1 else 0) (fun j _ => dg_small 1 (by decide) j)]; rfl
theorem has_one {h : List (Option Chunk)} {i : Nat} {o : Bool} (hi : h[i]? = some (some ⟨o, 16, [(0, 16, .agg ⟨[.int .u64 1, .int .u64 0, .int .u64 0, .int .u64 0, .int .u64 0, .int .u64 0, .int .u64 0, .int .u64 0, .int .u64 0, .int .u64 0, .int .u64 0, .int .u64 0, .int .u64 0, .int .u64 0, .int .u64 0, .int .u64 0]⟩)]⟩)) : Has h i 0 1 := by
  rw [← lim_one1] at hi; exact has_lim hi
theorem cAdd (i f v j g u : Nat) (h : List (Option Chunk)) (h1 : Has h i f v) (h2 : Has h j g u) : CallOK Tryd.prog 75 [.pointer (some ⟨i, f, some 0⟩), .pointer (some ⟨j, g, some 0⟩)] h (.tuple #[.agg ⟨limL 16 (dg (v + u))⟩, .int .u64 (cry v u 16)]) [] [i, j] :=
  call_heap [i, j] (by simp [plain3, plain_lim]; rfl) (Tryd.call75) fun ρ w hc => add_any (ρ i).1 ((ρ i).2 + f) v (ρ j).1 ((ρ j).2 + g) u w (h1.digs (by simp) hc) (h2.digs (by simp) hc)
theorem cBits (i f v : Nat) (h : List (Option Chunk)) (h1 : Has h i f v) : CallOK Tryd.prog 78 [.pointer (some ⟨i, f, some 0⟩)] h (.int .i64 (bl v)) [] [i] :=
  call_heap [i] rfl (Tryd.call78) fun ρ w hc => (bits_any (ρ i).1 ((ρ i).2 + f) v w (h1.digs (by simp) hc)).mono (by rintro e w' ⟨he, rfl⟩; exact ⟨he, Below.refl _ _⟩)
theorem guard_size : Tryd.prog.eqGuardType Tryd.prog.depth 44 = false := by kernel_rfl
theorem eq_size0 (op : BinOp) (x y : Operand) (u : Nat) (hu : u < Bs ^ 16) (neg : Bool) (hop : op = if neg then .neq else .eql) : BinIs Tryd.prog op 44 x y (.agg ⟨limL 16 (dg u)⟩) (.agg #[.int .u64 0, .int .u64 0, .int .u64 0, .int .u64 0, .int .u64 0, .int .u64 0, .int .u64 0, .int .u64 0, .int .u64 0, .int .u64 0, .int .u64 0, .int .u64 0, .int .u64 0, .int .u64 0, .int .u64 0, .int .u64 0]) (.bool (if neg then !decide (u = 0) else decide (u = 0))) := by
  have he := equal_zero u hu
  refine ⟨plain_lim _ _, rfl, by cases neg <;> rfl, fun w => ?_⟩
  have hg : ∀ op, (eqGuard op 44 x y (.agg ⟨limL 16 (dg u)⟩) (.agg #[.int .u64 0, .int .u64 0, .int .u64 0, .int .u64 0, .int .u64 0, .int .u64 0, .int .u64 0, .int .u64 0, .int .u64 0, .int .u64 0, .int .u64 0, .int .u64 0, .int .u64 0, .int .u64 0, .int .u64 0, .int .u64 0])).run Tryd.prog w = .ok () w := fun op => by
    cases op <;> simp [eqGuard, Sem.run_bind, run_program, guard_size]
  subst hop
  cases neg
  · simp only [Sem.run_bind, hg, Result.andThen_ok, if_false, Bool.false_eq_true]
    show (do pure (.bool (← Op.equal 44 (.agg ⟨limL 16 (dg u)⟩) (.agg #[.int .u64 0, .int .u64 0, .int .u64 0, .int .u64 0, .int .u64 0, .int .u64 0, .int .u64 0, .int .u64 0, .int .u64 0, .int .u64 0, .int .u64 0, .int .u64 0, .int .u64 0, .int .u64 0, .int .u64 0, .int .u64 0]))) : Sem Value).run Tryd.prog w = _
    simp only [Sem.run_bind]
    rw [show (Op.equal 44 (.agg ⟨limL 16 (dg u)⟩) (.agg #[.int .u64 0, .int .u64 0, .int .u64 0, .int .u64 0, .int .u64 0, .int .u64 0, .int .u64 0, .int .u64 0, .int .u64 0, .int .u64 0, .int .u64 0, .int .u64 0, .int .u64 0, .int .u64 0, .int .u64 0, .int .u64 0])).run Tryd.prog w = .ok (decide (u = 0)) w from he w]
    rfl
  · simp only [Sem.run_bind, hg, Result.andThen_ok, if_true]
    show (do pure (.bool (!(← Op.equal 44 (.agg ⟨limL 16 (dg u)⟩) (.agg #[.int .u64 0, .int .u64 0, .int .u64 0, .int .u64 0, .int .u64 0, .int .u64 0, .int .u64 0, .int .u64 0, .int .u64 0, .int .u64 0, .int .u64 0, .int .u64 0, .int .u64 0, .int .u64 0, .int .u64 0, .int .u64 0])))) : Sem Value).run Tryd.prog w = _
    simp only [Sem.run_bind]
    rw [show (Op.equal 44 (.agg ⟨limL 16 (dg u)⟩) (.agg #[.int .u64 0, .int .u64 0, .int .u64 0, .int .u64 0, .int .u64 0, .int .u64 0, .int .u64 0, .int .u64 0, .int .u64 0, .int .u64 0, .int .u64 0, .int .u64 0, .int .u64 0, .int .u64 0, .int .u64 0, .int .u64 0])).run Tryd.prog w = .ok (decide (u = 0)) w from he w]
    rfl
end Go.Proofs.YtbepibdjlajppaaDoor
