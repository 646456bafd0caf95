/-
  The walks of truth: Move in two cases; flights are as long there as back, and a third place does not shorten them.
-/
import Derived.Test.YtfpmmahonddpoaaTr9
set_option linter.unusedVariables false
set_option linter.unusedSimpArgs false
namespace Go.Proofs.Ytfpmmahonddpoaa
open Go Go.RowKit Sx

set_option maxRecDepth 100000 in
set_option maxHeartbeats 2000000 in
theorem cMoveX (c : Nat → Int) (n cap i j k : Nat) (P : Nat → Int) (M : Nat → Bool) (tm st : Int) (o1 o2 o3 : Bool) (x px py qx qy : Int) (h : List (Option Chunk)) (hi : h[i]? = some (some (wcc o1 c n cap j k tm st))) (hj : h[j]? = some (some (ptP o2 n P))) (hk : h[k]? = some (some (mvP o3 n M))) (hx : ¬ (0 ≤ x ∧ x < (n : Int))) :
    CallOK Try.prog 12 [.pointer (some ⟨i, 0, some 0⟩), .int .i64 x, .agg #[.int .i64 px, .int .i64 py], .agg #[.int .i64 qx, .int .i64 qy]] h (.int .i64 1) [] [i, j, k] := by
  refine call_sub (G := tys) [⟨i, _, wcc false c n cap 1 2 tm st, ⟨false, 0, []⟩⟩, ⟨j, _, ptP false n P, ⟨false, 0, []⟩⟩, ⟨k, _, mvP false n M, ⟨false, 0, []⟩⟩] [] [.pointer (some ⟨0, 0, some 0⟩), .int .i64 x, .agg #[.int .i64 px, .int .i64 py], .agg #[.int .i64 qx, .int .i64 qy]] tysOK mixed Try.func12 (by rfl) (Try.call12) ⟨hi, hj, hk, trivial⟩ ⟨⟨fun h => (by cases h), Nat.le_refl _, wcc_re rfl rfl⟩, ⟨fun h => (by cases h), Nat.le_refl _, ptP_re⟩, ⟨fun h => (by cases h), Nat.le_refl _, mvP_re⟩, trivial⟩ (by simp [Apart]) trivial ⟨.ptr rfl, .plain rfl, .plain rfl, .plain rfl, trivial⟩ ?_
  repeat' (refine N.go ?_; first | with_reducible refine N.obl (by decide) ?_ | with_reducible refine N.obl (flat_wi _ _ _) ?_ | with_reducible refine N.obl (flat_lim _ _) ?_ | with_reducible refine N.eq ?_ | with_reducible refine N.obl rfl ?_ | with_reducible refine N.obl ⟨by kernel_rfl, by kernel_rfl⟩ ?_ | with_reducible refine N.forkT ?_ | with_reducible refine N.forkF ?_ | refine N.call (cHas c n cap _ _ _ P M tm st _ _ _ _ _ (by rfl) (by rfl) (by rfl)) ?_ | refine N.forkNo (by simp only [decide_eq_true_eq, decide_eq_false_iff_not, Bool.not_eq_eq_eq_not, Bool.not_true, Bool.not_false]; omega) ?_ | refine N.forkYes (by simp only [decide_eq_true_eq, decide_eq_false_iff_not, Bool.not_eq_eq_eq_not, Bool.not_true, Bool.not_false]; omega) ?_ | refine N.obl trivial ?_ | exact N.true | refine N.obl (.plain rfl) ?_)
/-- When a node moves: it is told a step that is short enough, and the error is. -/
def moves (c : Nat → Int) (P : Nat → Int) (M : Nat → Bool) (p : Nat) (px py qx qy : Int) : Prop :=
  stp px py = true ∧ px * px + py * py ≤ c 2 * c 2 ∧ stp (qx - px) (qy - py) = true ∧ (qx - px) * (qx - px) + (qy - py) * (qy - py) ≤ c 3 * c 3 ∧ M p = false ∧ wiB (P (p * 2) + px) (P (p * 2 + 1) + py) 4194304
theorem move_two (c : Nat → Int) (n i j k : Nat) (P : Nat → Int) (M : Nat → Bool) (p : Nat) (px py qx qy : Int) (hp : p < n) (hc2 : 0 ≤ c 2 ∧ c 2 ≤ 1000) (hc3 : 0 ≤ c 3 ∧ c 3 ≤ 1000) (hij : i ≠ j) (hik : i ≠ k) (hjk : j ≠ k) (hPb : wiB (P (p * 2)) (P (p * 2 + 1)) 4194304) :
    (∃ e : Int, e ≠ 0 ∧ ∀ (cap : Nat) (tm st : Int) (o1 : Bool) (h : List (Option Chunk)), h[i]? = some (some (wcc o1 c n cap j k tm st)) → h[j]? = some (some (ptP true n P)) → h[k]? = some (some (mvP true n M)) → CallOK Try.prog 12 [.pointer (some ⟨i, 0, some 0⟩), .int .i64 (p : Int), .agg #[.int .i64 px, .int .i64 py], .agg #[.int .i64 qx, .int .i64 qy]] h (.int .i64 e) [] [i, j, k]) ∨
    (moves c P M p px py qx qy ∧ ∀ (cap : Nat) (tm st : Int) (o1 : Bool) (h : List (Option Chunk)), h[i]? = some (some (wcc o1 c n cap j k tm st)) → h[j]? = some (some (ptP true n P)) → h[k]? = some (some (mvP true n M)) → CallOK Try.prog 12 [.pointer (some ⟨i, 0, some 0⟩), .int .i64 (p : Int), .agg #[.int .i64 px, .int .i64 py], .agg #[.int .i64 qx, .int .i64 qy]] h (.int .i64 0) [(j, ptP true n (movP P p (P (p * 2) + px) (P (p * 2 + 1) + py))), (k, mvP true n (movM M p))] [i]) := by
  by_cases a1 : stp px py = true
  · by_cases a2 : stp qx qy = true
    · by_cases a3 : shortB (cx px py) (cy px py) (c 2) = true
      · by_cases a4 : shortB (cx qx qy - cx px py) (cy qx qy - cy px py) (c 3) = true
        · by_cases a5 : M p = true
          · exact .inl ⟨10, by decide, fun cap tm st o1 h hi hj hk => cMoveE c n cap i j k P M tm st o1 true true p px py qx qy h hi hj hk hp hc2 hc3 a1 a2 a3 a4 a5⟩
          · have a5 : M p = false := by simpa using a5
            by_cases a6 : wiB (P (p * 2) + px) (P (p * 2 + 1) + py) 4194304
            · refine .inr ⟨?_, fun cap tm st o1 h hi hj hk => cMoveG c n cap i j k P M tm st o1 p px py qx qy hij hik hjk h hi hj hk hp hc2 hc3 a1 a2 a3 a4 a5 a6 hPb⟩
              have b3 := a3
              have b4 := a4
              rw [(norm_stp a1).1, (norm_stp a1).2] at b3
              rw [(norm_stp a1).1, (norm_stp a1).2, (norm_stp a2).1, (norm_stp a2).2] at b4
              unfold shortB at b3 b4
              exact ⟨a1, (of_decide_eq_true b3).2, (of_decide_eq_true b4).1, (of_decide_eq_true b4).2, a5, a6⟩
            · exact .inl ⟨2, by decide, fun cap tm st o1 h hi hj hk => cMoveF c n cap i j k P M tm st o1 true true p px py qx qy h hi hj hk hp hc2 hc3 a1 a2 a3 a4 a5 a6 hPb⟩
        · exact .inl ⟨1, by decide, fun cap tm st o1 h hi hj hk => cMoveD c n cap i j k P M tm st o1 true true p px py qx qy h hi hj hk hp hc2 hc3 a1 a2 a3 (by simpa using a4)⟩
      · exact .inl ⟨1, by decide, fun cap tm st o1 h hi hj hk => cMoveC c n cap i j k P M tm st o1 true true p px py qx qy h hi hj hk hp hc2 hc3 a1 a2 (by simpa using a3)⟩
    · exact .inl ⟨1, by decide, fun cap tm st o1 h hi hj hk => cMoveB c n cap i j k P M tm st o1 true true p px py qx qy h hi hj hk hp hc2 hc3 a1 (by simpa using a2)⟩
  · exact .inl ⟨1, by decide, fun cap tm st o1 h hi hj hk => cMoveA c n cap i j k P M tm st o1 true true p px py qx qy h hi hj hk hp hc2 hc3 (by simpa using a1)⟩
theorem movP_at (P : Nat → Int) (p : Nat) (x y : Int) : movP P p x y (p * 2) = x ∧ movP P p x y (p * 2 + 1) = y := by
  unfold movP
  exact ⟨if_pos rfl, by rw [if_neg (by omega), if_pos rfl]⟩
theorem movP_wi {P : Nat → Int} {n p : Nat} {x y : Int} (hP : ∀ q, q < n → wiB (P (q * 2)) (P (q * 2 + 1)) 4194304) (h : wiB x y 4194304) : ∀ q, q < n → wiB (movP P p x y (q * 2)) (movP P p x y (q * 2 + 1)) 4194304 := fun q hq => by
  by_cases e : q = p
  · subst e; rw [(movP_at P q x y).1, (movP_at P q x y).2]; exact h
  · have h1 := hP q hq
    unfold movP
    rw [if_neg (by omega), if_neg (by omega), if_neg (by omega), if_neg (by omega)]
    exact h1
theorem pos0_wi (q : Nat) (hq : q < 64) : wiB (pos0 (q * 2)) (pos0 (q * 2 + 1)) 4194304 := by
  unfold pos0 wiB
  rw [if_pos (by omega), if_neg (by omega)]
  omega
/-- The square of a distance. -/
def sqd (x y : Int) : Nat := x.natAbs * x.natAbs + y.natAbs * y.natAbs
theorem sqd_of (x y : Int) : (x * x + y * y).toNat = sqd x y := by
  have e1 := (Int.natAbs_mul_self' x).symm.trans (Int.natCast_mul _ _).symm
  have e2 := (Int.natAbs_mul_self' y).symm.trans (Int.natCast_mul _ _).symm
  unfold sqd
  omega
/-- Cauchy's inequality. -/
theorem cauchy (x y u v : Nat) : (x * u + y * v) * (x * u + y * v) ≤ (x * x + y * y) * (u * u + v * v) := by
  have h : 2 * ((x * v) * (y * u)) ≤ (x * v) * (x * v) + (y * u) * (y * u) := by
    generalize x * v = p
    generalize y * u = q
    rcases Nat.le_total p q with hpq | hpq
    · obtain ⟨d, rfl⟩ : ∃ d, q = p + d := ⟨q - p, by omega⟩
      simp only [Nat.add_mul, Nat.mul_add]
      have := Nat.mul_comm p d
      omega
    · obtain ⟨d, rfl⟩ : ∃ d, p = q + d := ⟨p - q, by omega⟩
      simp only [Nat.add_mul, Nat.mul_add]
      have := Nat.mul_comm q d
      omega
  have e1 : (x * u) * (y * v) = (x * v) * (y * u) := by
    rw [Nat.mul_mul_mul_comm, Nat.mul_comm u v, Nat.mul_mul_mul_comm]
  have e2 : (x * u) * (x * u) = (x * x) * (u * u) := Nat.mul_mul_mul_comm _ _ _ _
  have e3 : (y * v) * (y * v) = (y * y) * (v * v) := Nat.mul_mul_mul_comm _ _ _ _
  have e4 : (x * v) * (x * v) = (x * x) * (v * v) := Nat.mul_mul_mul_comm _ _ _ _
  have e5 : (y * u) * (y * u) = (y * y) * (u * u) := Nat.mul_mul_mul_comm _ _ _ _
  have e6 : (y * v) * (x * u) = (x * u) * (y * v) := Nat.mul_comm _ _
  simp only [Nat.add_mul, Nat.mul_add]
  rw [e6, e1, e2, e3]
  rw [e4, e5] at h
  omega
theorem sq_up {a b : Nat} (h : a ≤ b) : a * a ≤ b * b := Nat.mul_le_mul h h
theorem tri_nat (x y u v z t : Nat) (hz : z ≤ x + u) (ht : t ≤ y + v) : isq (z * z + t * t) ≤ isq (x * x + y * y) + isq (u * u + v * v) + 1 := by
  have h1 := isq_lt (x * x + y * y)
  have h2 := isq_lt (u * u + v * v)
  have h3 := cauchy x y u v
  generalize isq (x * x + y * y) = a at *
  generalize isq (u * u + v * v) = b at *
  have h4 : z * z + t * t < (a + b + 1 + 1) * (a + b + 1 + 1) := by
    have q1 := sq_up hz
    have q2 := sq_up ht
    have q3 : (x + u) * (x + u) + (y + v) * (y + v) = (x * x + y * y) + (u * u + v * v) + 2 * (x * u + y * v) := by
      simp only [Nat.add_mul, Nat.mul_add]
      have := Nat.mul_comm x u
      have := Nat.mul_comm y v
      omega
    have q4 : (a + b + 1 + 1) * (a + b + 1 + 1) = (a + 1) * (a + 1) + (b + 1) * (b + 1) + 2 * ((a + 1) * (b + 1)) := by
      rw [show a + b + 1 + 1 = (a + 1) + (b + 1) from by omega]
      generalize a + 1 = p
      generalize b + 1 = q
      simp only [Nat.add_mul, Nat.mul_add]
      have := Nat.mul_comm p q
      omega
    have q5 : x * u + y * v < (a + 1) * (b + 1) := by
      apply sq_mono
      refine Nat.lt_of_le_of_lt h3 ?_
      rw [Nat.mul_mul_mul_comm]
      exact Nat.mul_lt_mul'' h1 h2
    omega
  have := isq_below h4
  omega
theorem tri22 (ax ay bx bY dx dY : Int) (t1 : wiB ax ay 4194304) (t2 : wiB bx bY 4194304) (t3 : wiB dx dY 4194304) :
    ∃ a b c : Nat, distN ax ay bx bY = a ∧ distN bx bY dx dY = b ∧ distN ax ay dx dY = c ∧ distN bx bY ax ay = a ∧ c ≤ a + b + 1 ∧ a ≤ 16777216 ∧ b ≤ 16777216 ∧ c ≤ 16777216 ∧ distN ax ay ax ay = 0 := by
  unfold wiB at t1 t2 t3
  have ok : ∀ {n : Int}, -4194304 ≤ n ∧ n ≤ 4194304 → okPos n = true := fun h => inB_t (by omega)
  have k : ∀ x y u v : Int, okPos x = true → okPos y = true → okPos u = true → okPos v = true → distN x y u v = (isq (sqd (x - u) (y - v)) : Nat) := by
    intro x y u v h1 h2 h3 h4
    unfold distN
    rw [h1, h2, h3, h4, sqd_of]; rfl
  have o1 := ok (n := ax) (by omega)
  have o2 := ok (n := ay) (by omega)
  have o3 := ok (n := bx) (by omega)
  have o4 := ok (n := bY) (by omega)
  have o5 := ok (n := dx) (by omega)
  have o6 := ok (n := dY) (by omega)
  have bd : ∀ x y : Int, x.natAbs ≤ 8388608 → y.natAbs ≤ 8388608 → isq (sqd x y) ≤ 16777216 := by
    intro x y h1 h2
    have q1 := sq_up h1
    have q2 := sq_up h2
    have : isq (sqd x y) < 16777217 := isq_below (by unfold sqd; omega)
    omega
  refine ⟨_, _, _, k _ _ _ _ o1 o2 o3 o4, k _ _ _ _ o3 o4 o5 o6, k _ _ _ _ o1 o2 o5 o6, ?_, ?_, bd _ _ (by omega) (by omega), bd _ _ (by omega) (by omega), bd _ _ (by omega) (by omega), ?_⟩
  · rw [k _ _ _ _ o3 o4 o1 o2]
    unfold sqd
    rw [show (bx - ax).natAbs = (ax - bx).natAbs from by omega, show (bY - ay).natAbs = (ay - bY).natAbs from by omega]
  · exact tri_nat _ _ _ _ _ _ (by omega) (by omega)
  · rw [k _ _ _ _ o1 o2 o1 o2, Int.sub_self, Int.sub_self]
    have : isq (sqd 0 0) = 0 := isq_eq (by decide) (by decide)
    rw [this]; rfl
end Go.Proofs.Ytfpmmahonddpoaa
