/-
  The statement TurnGroup: for every input the law returns true.
-/
import Derived.Test.YtkjeebabcdnjkaaTurnC
set_option linter.unusedVariables false
namespace Go.Proofs.Ytkjeebabcdnjkaa.turnGroup
open Go Go.ChangeShapes Go.WideShapes Go.ChangeAt Go.RowKit Sx


theorem tmod_k (x : Int) : -999 ≤ x.tmod 1000 ∧ x.tmod 1000 ≤ 999 := by
  rcases Int.le_total 0 x with h | h
  · rw [Int.tmod_eq_emod_of_nonneg h]; omega
  · have : x.tmod 1000 = -((-x).tmod 1000) := by rw [Int.neg_tmod]; omega
    rw [this, Int.tmod_eq_emod_of_nonneg (by omega)]; omega
theorem cx_of {x y : Int} (h : stp x y = true) : cx x y = x := by unfold cx; rw [if_pos h]
theorem cy_of {x y : Int} (h : stp x y = true) : cy x y = y := by unfold cy; rw [if_pos h]
theorem cx_no {x y : Int} (h : stp x y = false) : cx x y = 0 := by unfold cx; rw [h]; rfl
theorem cy_no {x y : Int} (h : stp x y = false) : cy x y = 0 := by unfold cy; rw [h]; rfl
theorem rot_cases (n : Nat) (x y : Int) : (rotX n x y = x ∧ rotY n x y = y) ∨ (rotX n x y = -y ∧ rotY n x y = x) ∨ (rotX n x y = -x ∧ rotY n x y = -y) ∨ (rotX n x y = y ∧ rotY n x y = -x) := by
  unfold rotX rotY
  rcases (by omega : n % 4 = 0 ∨ n % 4 = 1 ∨ n % 4 = 2 ∨ n % 4 = 3) with h | h | h | h <;> simp [h]
theorem rot_add (m n : Nat) (x y : Int) : rotX n (rotX m x y) (rotY m x y) = rotX (m + n) x y ∧ rotY n (rotX m x y) (rotY m x y) = rotY (m + n) x y := by
  induction n with
  | zero => exact ⟨rfl, rfl⟩
  | succ n ih => rw [rotX_succ, rotY_succ, ih.1, ih.2, show m + (n + 1) = m + n + 1 from rfl, rotX_succ, rotY_succ]; exact ⟨rfl, rfl⟩
theorem rot_mod {m n : Nat} (h : m % 4 = n % 4) (x y : Int) : rotX m x y = rotX n x y ∧ rotY m x y = rotY n x y := by unfold rotX rotY; rw [h]; exact ⟨rfl, rfl⟩
theorem stp_rot {x y : Int} (n : Nat) (h : stp x y = true) : stp (rotX n x y) (rotY n x y) = true := by
  have := stp_iff.1 h
  rcases rot_cases n x y with ⟨e1, e2⟩ | ⟨e1, e2⟩ | ⟨e1, e2⟩ | ⟨e1, e2⟩ <;> rw [e1, e2] <;> exact stp_t (by omega)
theorem quar_of {x y : Int} (k : Int) (h : stp x y = true) : quarX x y k = rotX (q4 k) x y ∧ quarY x y k = rotY (q4 k) x y := by unfold quarX quarY; rw [cx_of h, cy_of h]; exact ⟨rfl, rfl⟩
theorem quar_no {x y : Int} (k : Int) (h : stp x y = false) : quarX x y k = 0 ∧ quarY x y k = 0 := by
  unfold quarX quarY; rw [cx_no h, cy_no h]
  rcases rot_cases (q4 k) 0 0 with ⟨e1, e2⟩ | ⟨e1, e2⟩ | ⟨e1, e2⟩ | ⟨e1, e2⟩ <;> rw [e1, e2] <;> simp
theorem g_no {x y : Int} (h : stp x y = false) : quarX x y 0 = quarX (quarX x y 0) (quarY x y 0) 4 ∧ quarY x y 0 = quarY (quarX x y 0) (quarY x y 0) 4 := by
  obtain ⟨e1, e2⟩ := quar_no 0 h
  rw [e1, e2]; decide
theorem g_zero (x y : Int) : quarX x y 0 = quarX (quarX x y 0) (quarY x y 0) 4 ∧ quarY x y 0 = quarY (quarX x y 0) (quarY x y 0) 4 := by
  cases h : stp x y with
  | false => exact g_no h
  | true =>
    obtain ⟨e1, e2⟩ := quar_of 0 h
    have e3 : rotX (q4 0) x y = x := rfl
    have e4 : rotY (q4 0) x y = y := rfl
    rw [e1, e2, e3, e4]
    obtain ⟨f1, f2⟩ := quar_of 4 h
    rw [f1, f2]; exact ⟨rfl, rfl⟩
theorem g_add {x y : Int} (h : stp x y = true) (j k : Int) : quarX (quarX x y j) (quarY x y j) k = quarX x y (j + k) ∧ quarY (quarX x y j) (quarY x y j) k = quarY x y (j + k) := by
  obtain ⟨e1, e2⟩ := quar_of j h
  rw [e1, e2]
  obtain ⟨f1, f2⟩ := quar_of k (stp_rot (q4 j) h)
  obtain ⟨d1, d2⟩ := quar_of (j + k) h
  rw [f1, f2, d1, d2]
  obtain ⟨c1, c2⟩ := rot_add (q4 j) (q4 k) x y
  rw [c1, c2]
  exact rot_mod (by unfold q4; omega) x y
theorem g_norm {x y : Int} (h : stp x y = true) (j : Int) : normN (quarX x y j) (quarY x y j) = normN x y := by
  obtain ⟨e1, e2⟩ := quar_of j h
  rw [e1, e2]
  unfold normN
  rw [cx_of (stp_rot _ h), cy_of (stp_rot _ h), cx_of h, cy_of h]
  rcases rot_cases (q4 j) x y with ⟨e1, e2⟩ | ⟨e1, e2⟩ | ⟨e1, e2⟩ | ⟨e1, e2⟩ <;> rw [e1, e2] <;> (try rw [Int.neg_mul_neg]) <;> (try rw [Int.neg_mul_neg]) <;> omega
theorem g_dist {x y : Int} (h : stp x y = true) (j : Int) : distN (quarX x y j) (quarY x y j) 0 0 = distN x y 0 0 := by
  obtain ⟨e1, e2⟩ := quar_of j h
  rw [e1, e2]
  have key : ∀ {a b : Int}, stp a b = true → distN a b 0 0 = (isq (a * a + b * b).toNat : Nat) := fun {a b} hab => by
    have hab := stp_iff.1 hab
    have o1 : okPos a = true := by unfold okPos inB; simp; omega
    have o2 : okPos b = true := by unfold okPos inB; simp; omega
    have o3 : okPos 0 = true := by decide
    unfold distN
    rw [o1, o2, o3]
    simp
  rw [key (stp_rot _ h), key h]
  congr 3
  rcases rot_cases (q4 j) x y with ⟨e1, e2⟩ | ⟨e1, e2⟩ | ⟨e1, e2⟩ | ⟨e1, e2⟩ <;> rw [e1, e2] <;> (try rw [Int.neg_mul_neg]) <;> (try rw [Int.neg_mul_neg]) <;> omega
theorem g_comm (px py qx qy : Int) : mulX px py qx qy = mulX qx qy px py ∧ mulY px py qx qy = mulY qx qy px py := by
  unfold mulX mulY
  rw [Int.mul_comm (cx px py), Int.mul_comm (cy px py), Int.mul_comm (cx px py) (cy qx qy), Int.mul_comm (cy px py) (cx qx qy)]
  exact ⟨rfl, by omega⟩
theorem g_prod {px py qx qy : Int} (hm : stp (mulX px py qx qy) (mulY px py qx qy) = true) : normN (mulX px py qx qy) (mulY px py qx qy) = IntKind.i64.wrap (normN px py * normN qx qy) := by
  have hb := stp_iff.1 hm
  have e : normN (mulX px py qx qy) (mulY px py qx qy) = normN px py * normN qx qy := by
    unfold normN
    rw [cx_of hm, cy_of hm]
    unfold mulX mulY
    generalize cx px py = a; generalize cy px py = b; generalize cx qx qy = c; generalize cy qx qy = d
    have h1 : (a * c - b * d) * (a * c - b * d) = (a * c) * (a * c) + (b * d) * (b * d) - 2 * ((a * c) * (b * d)) := by
      rw [Int.sub_mul, Int.mul_sub, Int.mul_sub, Int.mul_comm (b * d) (a * c)]; omega
    have h2 : (a * d + b * c) * (a * d + b * c) = (a * d) * (a * d) + (b * c) * (b * c) + 2 * ((a * d) * (b * c)) := by
      rw [Int.add_mul, Int.mul_add, Int.mul_add, Int.mul_comm (b * c) (a * d)]; omega
    have h3 : (a * d) * (b * c) = (a * c) * (b * d) := by simp only [Int.mul_comm, Int.mul_left_comm]
    have h4 : (a * a + b * b) * (c * c + d * d) = (a * c) * (a * c) + (a * d) * (a * d) + (b * c) * (b * c) + (b * d) * (b * d) := by
      rw [Int.add_mul, Int.mul_add, Int.mul_add]
      simp only [Int.mul_comm, Int.mul_left_comm]; omega
    rw [h1, h2, h3, h4]; omega
  rw [e]
  refine (IntWalk.i64_in _ ?_).symm
  rw [← e]
  unfold normN
  rw [cx_of hm, cy_of hm]
  have := prod_b 4194304 (a := mulX px py qx qy) (b := mulX px py qx qy) (by omega) 4194304 (by omega)
  have := prod_b 4194304 (a := mulY px py qx qy) (b := mulY px py qx qy) (by omega) 4194304 (by omega)
  omega
theorem g_turn {px py qx qy : Int} (hp : stp px py = true) (hq : stp qx qy = true) (hm : stp (mulX px py qx qy) (mulY px py qx qy) = true) (k : Int) :
    quarX (mulX px py qx qy) (mulY px py qx qy) k = mulX (quarX px py k) (quarY px py k) qx qy ∧ quarY (mulX px py qx qy) (mulY px py qx qy) k = mulY (quarX px py k) (quarY px py k) qx qy := by
  obtain ⟨e1, e2⟩ := quar_of k hm
  obtain ⟨f1, f2⟩ := quar_of k hp
  rw [e1, e2, f1, f2]
  unfold mulX mulY
  rw [cx_of (stp_rot _ hp), cy_of (stp_rot _ hp), cx_of hp, cy_of hp, cx_of hq, cy_of hq]
  have hq4 := q4_lt k
  rcases (by omega : q4 k = 0 ∨ q4 k = 1 ∨ q4 k = 2 ∨ q4 k = 3) with h | h | h | h <;> simp [rotX, rotY, h, Int.neg_mul] <;> omega

set_option maxRecDepth 10000 in
set_option maxHeartbeats 1000000 in
theorem walk (px py qx qy j k : Int) (w : World) :
    Calls Try.prog 7 #[.agg #[.int .i64 px, .int .i64 py], .agg #[.int .i64 qx, .int .i64 qy], .int .i64 j, .int .i64 k] w fun e w' => e = .returned (.bool true) ∧ Below w.heap.size w w' := by
  have tj := tmod_k j
  have tk := tmod_k k
  have v1 : IntKind.i64.wrap (j.tmod 1000 + k.tmod 1000) = j.tmod 1000 + k.tmod 1000 := IntWalk.i64_in _ (by omega)
  have z1 := (g_zero px py).1
  have z2 := (g_zero px py).2
  have c1 := (g_comm px py qx qy).1
  have c2 := (g_comm px py qx qy).2
  refine calls_pure (G := tys) w tysOK mixed Try.func7 (by rfl) (by rfl) (by rfl) ?_
  repeat' (refine N.go ?_; first | with_reducible refine N.eq ?_ | with_reducible refine N.obl rfl ?_ | with_reducible refine N.obl ⟨by kernel_rfl, by kernel_rfl⟩ ?_ | with_reducible refine N.forkT ?_ | with_reducible refine N.forkF ?_ | with_reducible refine N.obl (by decide) ?_ | with_reducible refine N.fork (fun hb => ?_) (fun hb => ?_) | with_reducible refine N.bin _ (eq_point _ _ _ _ _ _) ?_ | with_reducible refine N.bin _ (ne_point _ _ _ _ _ _) ?_ | with_reducible refine N.call (cMul _ _ _ _ _) ?_ | with_reducible refine N.call (cQuarter _ _ _ _) ?_ | with_reducible refine N.call (cNorm _ _ _) ?_ | with_reducible refine N.call (cDist _ _ _ _ _) ?_ | with_reducible refine N.call (cMay _ _ _) ?_ | with_reducible refine N.call (cAwake _) ?_)
  all_goals first
    | rfl
    | (exfalso; simp [← z1, ← z2] at hb; done)
    | (exfalso; simp [g_comm px py qx qy] at hb; done)
    | (exfalso
       have sp : stp px py = true := by simpa using ‹(!stp px py) = false›
       have sq : stp qx qy = true := by simpa using ‹(!stp qx qy) = false›
       have b1 := stp_iff.1 sp
       have a1 := g_add sp (j.tmod 1000) (k.tmod 1000)
       have q4a : quarX px py 4 = px ∧ quarY px py 4 = py := by rw [(quar_of 4 sp).1, (quar_of 4 sp).2]; exact ⟨rfl, rfl⟩
       have q2a : quarX px py 2 = -px ∧ quarY px py 2 = -py := by rw [(quar_of 2 sp).1, (quar_of 2 sp).2]; exact ⟨rfl, rfl⟩
       have w1 : IntKind.i64.wrap (-px) = -px := IntWalk.i64_in _ (by omega)
       have w2 : IntKind.i64.wrap (-py) = -py := IntWalk.i64_in _ (by omega)
       first
         | (simp [v1, a1.1, a1.2, q4a.1, q4a.2, q2a.1, q2a.2, w1, w2, g_norm sp, g_dist sp] at hb; done)
         | (have sm : stp (mulX px py qx qy) (mulY px py qx qy) = true := by first | exact ‹stp (mulX px py qx qy) (mulY px py qx qy) = true› | simpa using ‹(!stp (mulX px py qx qy) (mulY px py qx qy)) = false›
            simp [g_prod sm, (g_turn sp sq sm (k.tmod 1000)).1, (g_turn sp sq sm (k.tmod 1000)).2] at hb; done))

  trace_state
set_option maxRecDepth 100000 in
theorem lifted (os : Os) (started : os.Started) (H : Type) (enc : TypeId × Value → H) :
    ReturnsInHanded {} Try.checked os 7 .any (Rows.turnGroupSpec.pre6 enc Try.prog Try.f7 Rows.turnGroupRow.domain false) (Rows.turnGroupSpec.post enc Try.prog Try.f7 false true false false) := by
  refine law_lifted (C := Try.checked) (tb := 4) Try.own started (by kernel_rfl) Try.func7 Try.laidOut (by kernel_rfl) rfl Try.underlying4 rfl
    (fun ds hds => by match ds, hds with | [_, _, _, _], _ => rfl)
    (ChangeSpec.witness6 (enc := enc) (C := Try.checked) false ⟨#[], #[.agg #[.int .i64 0, .int .i64 0], .agg #[.int .i64 0, .int .i64 0], .int .i64 0, .int .i64 0], []⟩ 8 (by kernel_rfl) (by kernel_rfl) (by kernel_rfl) (by kernel_rfl)) ?_
  intro W base args ds p hval0 hA0 hsz0
  have hval : ∀ (j : Nat) t v, Try.f7.params[j]? = some t → args[j]? = some v → Value.okWide Try.prog W .any base t v := hval0
  have hA : DataW.TrodAll enc Try.prog W 0 (fun _ => true) true Try.f7.params.toList args.toList ds p := hA0
  have hsz : (DataW.weightsEach Try.prog Try.f7.params.toList ds).all (· ≤ reachBytes) = true := hsz0
  rw [Try.params7] at hA hval hsz
  obtain ⟨v0, vs0, d0, ds0, p0, q0, hargs, rfl, rfl, h0, r0⟩ := trodAll_cons hA
  obtain ⟨v1, vs1, d1, ds1, p1, q1, rfl, rfl, rfl, h1, r1⟩ := trodAll_cons r0
  obtain ⟨v2, vs2, d2, ds2, p2, q2, rfl, rfl, rfl, h2, r2⟩ := trodAll_cons r1
  obtain ⟨v3, vs3, d3, ds3, p3, q3, rfl, rfl, rfl, h3, r3⟩ := trodAll_cons r2
  obtain ⟨rfl, rfl, rfl⟩ := trodAll_nil r3
  obtain rfl : args = #[v0, v1, v2, v3] := by cases args; simp_all
  obtain ⟨x0, y0, rfl, wx0, wy0⟩ := open_point (hval 0 _ v0 rfl rfl) h0
  obtain ⟨x1, y1, rfl, wx1, wy1⟩ := open_point (hval 1 _ v1 rfl rfl) h1
  obtain ⟨a2, rfl, rfl, rfl, w2⟩ := open_int Try.underlying3 (hval 2 _ v2 rfl rfl) h2
  obtain ⟨a3, rfl, rfl, rfl, w3⟩ := open_int Try.underlying3 (hval 3 _ v3 rfl rfl) h3
  exact walk x0 y0 x1 y1 a2 a3 W

theorem proved : Rows.TurnGroupSaid :=
  OpenClaim.holds_of_wide 7 Try.f7 rfl rfl rfl rfl rfl rfl rfl ⟨rfl, rfl, rfl, rfl, rfl⟩ rfl rfl rfl rfl rfl (by kernel_rfl) Try.func7 (by kernel_rfl)
    (of_decide_eq_true (by kernel_rfl)) (by unfold Func.isWrapper; rw [if_neg (by decide +kernel)]; exact ⟨rfl, rfl⟩)
    (fun os started H enc _ => lifted os started H enc)
#print axioms proved

end Go.Proofs.Ytkjeebabcdnjkaa.turnGroup
