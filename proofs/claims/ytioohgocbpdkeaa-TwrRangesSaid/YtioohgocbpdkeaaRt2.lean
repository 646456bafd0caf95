/-
  The walks of wide.Div by one digit, of Neg, Int64, narrow, above, MulDiv, MulDivUp (second part).
-/
import Derived.Test.YtioohgocbpdkeaaNeg
set_option linter.unusedVariables false
set_option linter.unusedSimpArgs false
namespace Go.Proofs.Ytioohgocbpdkeaa
open Go Go.RowKit Sx

theorem floor_of (z : Int) (b : Nat) (hb : 0 < b) : (z / (b : Int)).natAbs = if decide (z < 0) = true ∧ z.natAbs % b ≠ 0 then z.natAbs / b + 1 else z.natAbs / b := by
  by_cases h : z < 0
  · have e : z = -((z.natAbs : Nat) : Int) := by omega
    have h1 := Nat.div_add_mod z.natAbs b
    have h2 := Nat.mod_lt z.natAbs hb
    generalize z.natAbs = n at *
    subst e
    by_cases h3 : n % b = 0
    · rw [if_neg (by simp [h3])]
      have : (-(n : Int)) / (b : Int) = -((n / b : Nat) : Int) := by
        rw [Int.neg_ediv_of_dvd (Int.natCast_dvd_natCast.2 (Nat.dvd_of_mod_eq_zero h3))]; rfl
      rw [this, Int.natAbs_neg, Int.natAbs_natCast]
    · rw [if_pos ⟨by simpa using h, h3⟩]
      have : (-(n : Int)) / (b : Int) = -((n / b + 1 : Nat) : Int) := by
        refine Int.le_antisymm ?_ ?_
        · have : -(n : Int) < -((n / b : Nat) : Int) * b := by
            have : ((n / b * b : Nat) : Int) < n := by rw [Nat.mul_comm] at h1; omega
            rw [Int.neg_mul, ← Int.natCast_mul]; omega
          have := Int.ediv_lt_of_lt_mul (by omega) this
          generalize n / b = q at *
          generalize -(n : Int) / (b : Int) = r at *
          omega
        · refine Int.le_ediv_of_mul_le (by omega) ?_
          have : (n : Int) ≤ ((n / b + 1) * b : Nat) := by rw [Nat.add_mul, Nat.mul_comm]; omega
          rw [Int.neg_mul, ← Int.natCast_mul]; omega
      rw [this, Int.natAbs_neg, Int.natAbs_natCast]
  · rw [if_neg (by simp [h])]
    obtain ⟨n, rfl⟩ := Int.eq_ofNat_of_zero_le (by omega : 0 ≤ z)
    rfl
theorem floor_neg (z : Int) (b : Nat) (hb : 0 < b) : decide (z / (b : Int) < 0) = (decide (z < 0) && decide ((z / (b : Int)).natAbs ≠ 0)) := by
  by_cases h : z < 0
  · have := Int.ediv_neg_of_neg_of_pos h (by omega : (0 : Int) < b)
    generalize z / (b : Int) = q at *
    rw [decide_eq_true h, decide_eq_true this, decide_eq_true (by omega)]; rfl
  · have := Int.ediv_nonneg (by omega : 0 ≤ z) (by omega : (0 : Int) ≤ b)
    generalize z / (b : Int) = q at *
    rw [decide_eq_false h, decide_eq_false (by omega)]; rfl
set_option maxRecDepth 100000 in
theorem div_x (z : Int) (b : Nat) (hz : z.natAbs < Top) (hb0 : 0 < b) (hbb : b < 18446744073709551616) (w : World) : Calls Try.prog 53 #[.agg ⟨wiL (decide (z < 0)) false z.natAbs⟩, .agg ⟨wiL false false b⟩] w fun e w' => e = .returned (.tuple #[wz (z / (b : Int)), .int .i64 0]) ∧ Below w.heap.size w w' := by
  have hz16 := Nat.lt_trans hz top_lt
  have hq : z.natAbs / b ≤ z.natAbs := Nat.div_le_self _ _
  have hm : z.natAbs % b < b := Nat.mod_lt _ hb0
  have hq1 : z.natAbs % b ≠ 0 → z.natAbs / b + 1 < Top := fun h => by
    have h1 := Nat.div_add_mod z.natAbs b
    have : z.natAbs / b + 1 ≤ z.natAbs := by
      rcases Nat.eq_zero_or_pos (z.natAbs / b) with h2 | h2
      · rw [h2] at h1 ⊢; rw [Nat.mul_zero] at h1; omega
      · have : z.natAbs / b ≤ b * (z.natAbs / b) := Nat.le_mul_of_pos_left _ hb0
        omega
    omega
  refine calls_pure (G := tys) w tysOK mixed Try.func53 (by rfl) (by first | rfl | (simp only [List.all_cons, List.all_nil, plain_wz, plain_lim, plain_wi]; rfl)) (by first | exact plain3_wz _ | exact plain3_wi _ _ _ | rfl | (simp only [plain3, List.all_cons, List.all_nil, plain_wz, plain_lim, plain_wi]; rfl)) ?_
  repeat' (refine N.go ?_; first | with_reducible refine N.obl (flat_wi _ _ _) ?_ | with_reducible refine N.obl (flat_lim _ _) ?_ | with_reducible refine N.eq ?_ | with_reducible refine N.obl rfl ?_ | with_reducible refine N.obl ⟨by kernel_rfl, by kernel_rfl⟩ ?_ | with_reducible refine N.forkT ?_ | with_reducible refine N.forkF ?_ | with_reducible refine N.fork (fun hb => ?_) (fun hb => ?_) | with_reducible refine N.bin _ (eq_size0 _ _ _ b (bs16 hbb) false rfl) ?_ | with_reducible refine N.call (cDivide _ _ _ hz16 hb0 hbb) ?_ | with_reducible refine N.bin _ (eq_size0 _ _ _ _ (bs16 (Nat.lt_trans hm hbb)) true rfl) ?_ | refine N.call (cAdd _ _ _ _ _ _ _ (has_lim (by rfl)) (has_one (by rfl))) ?_ | with_reducible refine N.call (cMade _ _ _ (by first | exact hq1 (by simpa using hb) | omega)) ?_)
  · exfalso; simp at hb; omega
  all_goals
    rename_i hx
    have e1 := floor_of z b hb0
    have e2 := floor_neg z b hb0
    simp only [wz]
    rw [e2, e1]
    first
      | (rw [if_pos ⟨by simpa using hx, by simpa using hb⟩]; simp)
      | (rw [if_neg (by simp at hx hb ⊢; omega)]; simp)
end Go.Proofs.Ytioohgocbpdkeaa
