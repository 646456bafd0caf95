/-
  The statement TurnForms: for every input the law returns true.
-/
import Derived.Test.YtkjeebabcdnjkaaRj
set_option linter.unusedVariables false
set_option linter.unusedSimpArgs false
namespace Go.Proofs.Ytkjeebabcdnjkaa.turnForms
open Go Go.ChangeShapes Go.WideShapes Go.ChangeAt Go.RowKit Sx

theorem nilPath (k : Int) : pathX [] (q4 k) = 0 ∧ pathY [] (q4 k) = 0 ∧ pathB [] (q4 k) = true := ⟨rfl, rfl, rfl⟩
theorem cPathNil (k : Int) (h : List (Option Chunk)) : CallOK Try.prog 15 [.slice none 0 0, .int .i64 k] h (.tuple #[.agg #[.int .i64 0, .int .i64 0], .bool true]) [] [] :=
  call_pure (by rfl) (by rfl) (Try.call15 _) (fun w => by
    have := path_any none 0 [] k w (Nat.zero_le _) (Nat.zero_le _) (fun h => absurd h (by decide))
    rw [(nilPath k).1, (nilPath k).2.1, (nilPath k).2.2] at this
    exact this)
set_option maxRecDepth 100000 in
set_option maxHeartbeats 2000000 in
theorem path9nil_x (k : Int) (w : World) : Calls Try.prog 18 #[.slice none 0 0, .int .i64 k] w fun e w' => e = .returned (.tuple #[.agg #[.int .i64 0, .int .i64 0], .bool true]) ∧ Below w.heap.size w w' := by
  refine calls_pure (G := tys) w tysOK mixed Try.func18 (by rfl) (by rfl) (by rfl) ?_
  repeat' (refine N.go ?_; first | with_reducible refine N.obl (by decide) ?_ | with_reducible refine N.obl (flat_wi _ _ _) ?_ | with_reducible refine N.obl (flat_lim _ _) ?_ | with_reducible refine N.eq ?_ | with_reducible refine N.obl rfl ?_ | with_reducible refine N.obl ⟨by kernel_rfl, by kernel_rfl⟩ ?_ | with_reducible refine N.forkT ?_ | with_reducible refine N.forkF ?_ | with_reducible refine N.call (cMay _ _ _) ?_ | refine N.roll 1 ?_ | refine N.forkNo (by decide) ?_ | refine N.forkYes (by decide) ?_ | fail_if_success skip)
  all_goals rfl
theorem cPath9Nil (k : Int) (h : List (Option Chunk)) : CallOK Try.prog 18 [.slice none 0 0, .int .i64 k] h (.tuple #[.agg #[.int .i64 0, .int .i64 0], .bool true]) [] [] := call_pure (by rfl) (by rfl) (Try.call18 _) (path9nil_x k)
set_option maxRecDepth 100000 in
set_option maxHeartbeats 2000000 in
theorem walk (px py qx qy k : Int) (a : Addr) (cap : Nat) (l : List (Int × Int)) (w : World) (hm : l.length ≤ 1152921504606846976) (hcap : l.length ≤ cap) (hs : SeenIn w ⟨a, l.length * 2, pts l⟩) :
    Calls Try.prog 8 #[.agg #[.int .i64 px, .int .i64 py], .agg #[.int .i64 qx, .int .i64 qy], .int .i64 k, .slice (some a) l.length cap] w fun e w' => e = .returned (.bool true) ∧ Below w.heap.size w w' := by
  refine calls_args (G := tys) (vs := [.agg #[.int .i64 px, .int .i64 py], .agg #[.int .i64 qx, .int .i64 qy], .int .i64 k, .slice (some ⟨0, 0, some 0⟩) l.length cap]) [⟨a, l.length * 2, pts l⟩] w tysOK mixed Try.func8 (by rfl) (by simpa using hs) ⟨.plain rfl, .plain rfl, .plain rfl, .slice rfl, trivial⟩ rfl ?_
  repeat' (refine N.go ?_; first | with_reducible refine N.obl (by decide) ?_ | with_reducible refine N.obl (flat_wi _ _ _) ?_ | with_reducible refine N.obl (flat_lim _ _) ?_ | with_reducible refine N.eq ?_ | with_reducible refine N.obl rfl ?_ | with_reducible refine N.obl ⟨by kernel_rfl, by kernel_rfl⟩ ?_ | with_reducible refine N.forkT ?_ | with_reducible refine N.forkF ?_ | refine N.call (cPathT 0 cap l k _ _ (by rfl) hm hcap) ?_ | refine N.call (cPath9 0 cap l k _ _ (by rfl) hm) ?_ | with_reducible refine N.call (cQuarter _ _ _ _) ?_ | with_reducible refine N.call (cQuarter9 _ _ _ _) ?_ | with_reducible refine N.call (cMul _ _ _ _ _) ?_ | with_reducible refine N.call (cMul9 _ _ _ _ _) ?_ | with_reducible refine N.call (cNorm _ _ _) ?_ | with_reducible refine N.call (cNorm9 _ _ _) ?_ | with_reducible refine N.call (cDist _ _ _ _ _) ?_ | with_reducible refine N.call (cDist9 _ _ _ _ _) ?_ | with_reducible refine N.call (cAwake _) ?_ | with_reducible refine N.bin _ (eq_point _ _ _ _ _ _) ?_ | refine N.forkYes (by simp only [beq_self_eq_true, Bool.and_self]) ?_ | refine N.forkYes (beq_self_eq_true _) ?_ | refine N.forkNo (by decide) ?_ | refine N.forkYes (by decide) ?_ | fail_if_success skip)
  all_goals rfl
set_option maxRecDepth 100000 in
set_option maxHeartbeats 2000000 in
theorem walk0 (px py qx qy k : Int) (w : World) : Calls Try.prog 8 #[.agg #[.int .i64 px, .int .i64 py], .agg #[.int .i64 qx, .int .i64 qy], .int .i64 k, .slice none 0 0] w fun e w' => e = .returned (.bool true) ∧ Below w.heap.size w w' := by
  refine calls_pure (G := tys) w tysOK mixed Try.func8 (by rfl) (by rfl) (by rfl) ?_
  repeat' (refine N.go ?_; first | with_reducible refine N.obl (by decide) ?_ | with_reducible refine N.obl (flat_wi _ _ _) ?_ | with_reducible refine N.obl (flat_lim _ _) ?_ | with_reducible refine N.eq ?_ | with_reducible refine N.obl rfl ?_ | with_reducible refine N.obl ⟨by kernel_rfl, by kernel_rfl⟩ ?_ | with_reducible refine N.forkT ?_ | with_reducible refine N.forkF ?_ | with_reducible refine N.call (cPathNil _ _) ?_ | with_reducible refine N.call (cPath9Nil _ _) ?_ | with_reducible refine N.call (cQuarter _ _ _ _) ?_ | with_reducible refine N.call (cQuarter9 _ _ _ _) ?_ | with_reducible refine N.call (cMul _ _ _ _ _) ?_ | with_reducible refine N.call (cMul9 _ _ _ _ _) ?_ | with_reducible refine N.call (cNorm _ _ _) ?_ | with_reducible refine N.call (cNorm9 _ _ _) ?_ | with_reducible refine N.call (cDist _ _ _ _ _) ?_ | with_reducible refine N.call (cDist9 _ _ _ _ _) ?_ | with_reducible refine N.call (cAwake _) ?_ | with_reducible refine N.bin _ (eq_point _ _ _ _ _ _) ?_ | refine N.forkYes (by simp only [beq_self_eq_true, Bool.and_self]) ?_ | refine N.forkYes (beq_self_eq_true _) ?_ | refine N.forkNo (by decide) ?_ | refine N.forkYes (by decide) ?_ | fail_if_success skip)
  all_goals rfl
set_option maxRecDepth 100000 in
theorem lifted (os : Os) (started : os.Started) (H : Type) (enc : TypeId × Value → H) :
    ReturnsInHanded {} Try.checked os 8 .any (Rows.turnFormsSpec.pre6 enc Try.prog Try.f8 Rows.turnFormsRow.domain false) (Rows.turnFormsSpec.post enc Try.prog Try.f8 false true false false) := by
  refine law_lifted (C := Try.checked) (tb := 4) Try.own started (by kernel_rfl) Try.func8 Try.laidOut (by kernel_rfl) rfl Try.underlying4 rfl
    (fun ds hds => by match ds, hds with | [_, _, _, _], _ => rfl)
    (ChangeSpec.witness6 (enc := enc) (C := Try.checked) false ⟨#[], #[.agg #[.int .i64 0, .int .i64 0], .agg #[.int .i64 0, .int .i64 0], .int .i64 0, .slice none 0 0], []⟩ 8 (by kernel_rfl) (by kernel_rfl) (by kernel_rfl) (by kernel_rfl)) ?_
  intro W base args ds p hval0 hA0 hsz0
  have hval : ∀ (j : Nat) t v, Try.f8.params[j]? = some t → args[j]? = some v → Value.okWide Try.prog W .any base t v := hval0
  have hA : DataW.TrodAll enc Try.prog W 0 (fun _ => true) true Try.f8.params.toList args.toList ds p := hA0
  have hsz : (DataW.weightsEach Try.prog Try.f8.params.toList ds).all (· ≤ reachBytes) = true := hsz0
  rw [Try.params8] at hA hval hsz
  obtain ⟨v0, vs0, d0, ds0, p0, q0, hargs, rfl, rfl, h0, r0⟩ := trodAll_cons hA
  obtain ⟨v1, vs1, d1, ds1, p1, q1, rfl, rfl, rfl, h1, r1⟩ := trodAll_cons r0
  obtain ⟨v2, vs2, d2, ds2, p2, q2, rfl, rfl, rfl, h2, r2⟩ := trodAll_cons r1
  obtain ⟨v3, vs3, d3, ds3, p3, q3, rfl, rfl, rfl, h3, r3⟩ := trodAll_cons r2
  obtain ⟨rfl, rfl, rfl⟩ := trodAll_nil r3
  obtain rfl : args = #[v0, v1, v2, v3] := by cases args; simp_all
  obtain ⟨x0, y0, rfl, wx0, wy0⟩ := open_point (hval 0 _ v0 rfl rfl) h0
  obtain ⟨x1, y1, rfl, wx1, wy1⟩ := open_point (hval 1 _ v1 rfl rfl) h1
  obtain ⟨a2, rfl, rfl, rfl, w2⟩ := open_int Try.underlying3 (hval 2 _ v2 rfl rfl) h2
  have hv3 := hval 3 _ v3 rfl rfl
  obtain ⟨A, cap, l, rfl, hlc, hd, hs⟩ := open_pts h3 (okWide_slice Try.underlying35 hv3)
  have hm : l.length ≤ 1152921504606846976 := by
    rcases hd with ⟨rfl, _⟩ | ⟨el, sp, rfl, he⟩
    · simp
    · have := sized_slice hsz (j := 3) rfl rfl Try.underlying35
      rw [Try.bytesPoint] at this
      simp only [reachBytes] at this
      omega
  cases A with
  | none =>
    obtain ⟨h1, h2⟩ := okWide_nil Try.underlying35 hv3
    rw [h1, h2]
    exact walk0 x0 y0 x1 y1 a2 W
  | some a =>
    exact walk x0 y0 x1 y1 a2 a cap l W hm hlc (SeenIn.some Try.underlying35 hv3 hs (fun j _ => rfl))

theorem proved : Rows.TurnFormsSaid :=
  OpenClaim.holds_of_wide 8 Try.f8 rfl rfl rfl rfl rfl rfl rfl ⟨rfl, rfl, rfl, rfl, rfl⟩ rfl rfl rfl rfl rfl (by kernel_rfl) Try.func8 (by kernel_rfl)
    (of_decide_eq_true (by kernel_rfl)) (by unfold Func.isWrapper; rw [if_neg (by decide +kernel)]; exact ⟨rfl, rfl⟩)
    (fun os started H enc _ => lifted os started H enc)
#print axioms proved
end Go.Proofs.Ytkjeebabcdnjkaa.turnForms
