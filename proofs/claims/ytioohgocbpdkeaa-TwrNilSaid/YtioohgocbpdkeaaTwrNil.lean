/-
  The statement TwrNil: for every input the law returns true.
-/
import Derived.Test.YtioohgocbpdkeaaTwr
set_option linter.unusedVariables false
set_option linter.unusedSimpArgs false
namespace Go.Proofs.Ytioohgocbpdkeaa.twrNil
open Go Go.ChangeShapes Go.WideShapes Go.ChangeAt Go.RowKit Sx

set_option maxRecDepth 100000 in
theorem nilPoll_x (a b : Int)  (w : World) : Calls Try.prog 23 #[.pointer none, .int .i64 a, .int .i64 b] w fun e w' => e = .returned (.tuple #[]) ∧ Below w.heap.size w w' := by
  refine calls_pure (G := tys) w tysOK mixed Try.func23 (by rfl) (by first | rfl | (simp only [List.all_cons, List.all_nil, plain_wz, plain_lim, plain_wi]; rfl)) (by first | exact plain3_wz _ | exact plain3_wi _ _ _ | rfl | (simp only [plain3, List.all_cons, List.all_nil, plain_wz, plain_lim, plain_wi]; rfl)) ?_
  repeat' (refine N.go ?_; first | with_reducible refine N.obl (by decide) ?_ | with_reducible refine N.obl (flat_wi _ _ _) ?_ | with_reducible refine N.obl (flat_lim _ _) ?_ | with_reducible refine N.eq ?_ | with_reducible refine N.obl rfl ?_ | with_reducible refine N.obl ⟨by kernel_rfl, by kernel_rfl⟩ ?_ | with_reducible refine N.forkT ?_ | with_reducible refine N.forkF ?_ | refine N.forkNo (by decide) ?_ | refine N.forkYes (by decide) ?_)
  all_goals rfl
theorem cPoll (a b : Int) (h : List (Option Chunk)) : CallOK Try.prog 23 [.pointer none, .int .i64 a, .int .i64 b] h (.tuple #[]) [] [] :=
  call_pure rfl rfl (Try.call23 _) (nilPoll_x a b)
set_option maxRecDepth 100000 in
theorem nilGotPoll_x (a b : Int)  (w : World) : Calls Try.prog 24 #[.pointer none, .int .i64 a, .int .i64 b] w fun e w' => e = .returned (.tuple #[]) ∧ Below w.heap.size w w' := by
  refine calls_pure (G := tys) w tysOK mixed Try.func24 (by rfl) (by first | rfl | (simp only [List.all_cons, List.all_nil, plain_wz, plain_lim, plain_wi]; rfl)) (by first | exact plain3_wz _ | exact plain3_wi _ _ _ | rfl | (simp only [plain3, List.all_cons, List.all_nil, plain_wz, plain_lim, plain_wi]; rfl)) ?_
  repeat' (refine N.go ?_; first | with_reducible refine N.obl (by decide) ?_ | with_reducible refine N.obl (flat_wi _ _ _) ?_ | with_reducible refine N.obl (flat_lim _ _) ?_ | with_reducible refine N.eq ?_ | with_reducible refine N.obl rfl ?_ | with_reducible refine N.obl ⟨by kernel_rfl, by kernel_rfl⟩ ?_ | with_reducible refine N.forkT ?_ | with_reducible refine N.forkF ?_ | refine N.forkNo (by decide) ?_ | refine N.forkYes (by decide) ?_)
  all_goals rfl
theorem cGotPoll (a b : Int) (h : List (Option Chunk)) : CallOK Try.prog 24 [.pointer none, .int .i64 a, .int .i64 b] h (.tuple #[]) [] [] :=
  call_pure rfl rfl (Try.call24 _) (nilGotPoll_x a b)
set_option maxRecDepth 100000 in
theorem nilFinal_x (a : Int)  (w : World) : Calls Try.prog 25 #[.pointer none, .int .i64 a] w fun e w' => e = .returned (.tuple #[.int .i64 0, .int .i64 0, .bool false]) ∧ Below w.heap.size w w' := by
  refine calls_pure (G := tys) w tysOK mixed Try.func25 (by rfl) (by first | rfl | (simp only [List.all_cons, List.all_nil, plain_wz, plain_lim, plain_wi]; rfl)) (by first | exact plain3_wz _ | exact plain3_wi _ _ _ | rfl | (simp only [plain3, List.all_cons, List.all_nil, plain_wz, plain_lim, plain_wi]; rfl)) ?_
  repeat' (refine N.go ?_; first | with_reducible refine N.obl (by decide) ?_ | with_reducible refine N.obl (flat_wi _ _ _) ?_ | with_reducible refine N.obl (flat_lim _ _) ?_ | with_reducible refine N.eq ?_ | with_reducible refine N.obl rfl ?_ | with_reducible refine N.obl ⟨by kernel_rfl, by kernel_rfl⟩ ?_ | with_reducible refine N.forkT ?_ | with_reducible refine N.forkF ?_ | refine N.forkNo (by decide) ?_ | refine N.forkYes (by decide) ?_)
  all_goals rfl
theorem cFinal (a : Int) (h : List (Option Chunk)) : CallOK Try.prog 25 [.pointer none, .int .i64 a] h (.tuple #[.int .i64 0, .int .i64 0, .bool false]) [] [] :=
  call_pure rfl rfl (Try.call25 _) (nilFinal_x a)
set_option maxRecDepth 100000 in
theorem nilGotFinal_x (a b c d : Int)  (w : World) : Calls Try.prog 26 #[.pointer none, .int .i64 a, .int .i64 b, .int .i64 c, .int .i64 d] w fun e w' => e = .returned (.tuple #[.agg #[.int .i64 0, .int .i64 0, .int .i64 0, .int .i64 0], .int .i64 0, .bool false]) ∧ Below w.heap.size w w' := by
  refine calls_pure (G := tys) w tysOK mixed Try.func26 (by rfl) (by first | rfl | (simp only [List.all_cons, List.all_nil, plain_wz, plain_lim, plain_wi]; rfl)) (by first | exact plain3_wz _ | exact plain3_wi _ _ _ | rfl | (simp only [plain3, List.all_cons, List.all_nil, plain_wz, plain_lim, plain_wi]; rfl)) ?_
  repeat' (refine N.go ?_; first | with_reducible refine N.obl (by decide) ?_ | with_reducible refine N.obl (flat_wi _ _ _) ?_ | with_reducible refine N.obl (flat_lim _ _) ?_ | with_reducible refine N.eq ?_ | with_reducible refine N.obl rfl ?_ | with_reducible refine N.obl ⟨by kernel_rfl, by kernel_rfl⟩ ?_ | with_reducible refine N.forkT ?_ | with_reducible refine N.forkF ?_ | refine N.forkNo (by decide) ?_ | refine N.forkYes (by decide) ?_)
  all_goals rfl
theorem cGotFinal (a b c d : Int) (h : List (Option Chunk)) : CallOK Try.prog 26 [.pointer none, .int .i64 a, .int .i64 b, .int .i64 c, .int .i64 d] h (.tuple #[.agg #[.int .i64 0, .int .i64 0, .int .i64 0, .int .i64 0], .int .i64 0, .bool false]) [] [] :=
  call_pure rfl rfl (Try.call26 _) (nilGotFinal_x a b c d)
set_option maxRecDepth 100000 in
theorem nilGotResp_x (a b : Int)  (w : World) : Calls Try.prog 27 #[.pointer none, .int .i64 a, .int .i64 b] w fun e w' => e = .returned (.bool false) ∧ Below w.heap.size w w' := by
  refine calls_pure (G := tys) w tysOK mixed Try.func27 (by rfl) (by first | rfl | (simp only [List.all_cons, List.all_nil, plain_wz, plain_lim, plain_wi]; rfl)) (by first | exact plain3_wz _ | exact plain3_wi _ _ _ | rfl | (simp only [plain3, List.all_cons, List.all_nil, plain_wz, plain_lim, plain_wi]; rfl)) ?_
  repeat' (refine N.go ?_; first | with_reducible refine N.obl (by decide) ?_ | with_reducible refine N.obl (flat_wi _ _ _) ?_ | with_reducible refine N.obl (flat_lim _ _) ?_ | with_reducible refine N.eq ?_ | with_reducible refine N.obl rfl ?_ | with_reducible refine N.obl ⟨by kernel_rfl, by kernel_rfl⟩ ?_ | with_reducible refine N.forkT ?_ | with_reducible refine N.forkF ?_ | refine N.forkNo (by decide) ?_ | refine N.forkYes (by decide) ?_)
  all_goals rfl
theorem cGotResp (a b : Int) (h : List (Option Chunk)) : CallOK Try.prog 27 [.pointer none, .int .i64 a, .int .i64 b] h (.bool false) [] [] :=
  call_pure rfl rfl (Try.call27 _) (nilGotResp_x a b)
set_option maxRecDepth 100000 in
theorem nilResp_x (a b : Int)  (w : World) : Calls Try.prog 28 #[.pointer none, .int .i64 a, .int .i64 b] w fun e w' => e = .returned (.bool false) ∧ Below w.heap.size w w' := by
  refine calls_pure (G := tys) w tysOK mixed Try.func28 (by rfl) (by first | rfl | (simp only [List.all_cons, List.all_nil, plain_wz, plain_lim, plain_wi]; rfl)) (by first | exact plain3_wz _ | exact plain3_wi _ _ _ | rfl | (simp only [plain3, List.all_cons, List.all_nil, plain_wz, plain_lim, plain_wi]; rfl)) ?_
  repeat' (refine N.go ?_; first | with_reducible refine N.obl (by decide) ?_ | with_reducible refine N.obl (flat_wi _ _ _) ?_ | with_reducible refine N.obl (flat_lim _ _) ?_ | with_reducible refine N.eq ?_ | with_reducible refine N.obl rfl ?_ | with_reducible refine N.obl ⟨by kernel_rfl, by kernel_rfl⟩ ?_ | with_reducible refine N.forkT ?_ | with_reducible refine N.forkF ?_ | refine N.forkNo (by decide) ?_ | refine N.forkYes (by decide) ?_)
  all_goals rfl
theorem cResp (a b : Int) (h : List (Option Chunk)) : CallOK Try.prog 28 [.pointer none, .int .i64 a, .int .i64 b] h (.bool false) [] [] :=
  call_pure rfl rfl (Try.call28 _) (nilResp_x a b)
set_option maxRecDepth 100000 in
theorem walk (a0 a1 a2 a3 a4 a5 : Int) (w : World) :
    Calls Try.prog 9 #[.agg #[.int .i64 a0, .int .i64 a1, .int .i64 a2, .int .i64 a3, .int .i64 a4, .int .i64 a5]] w fun o w' => o = .returned (.bool true) ∧ Below w.heap.size w w' := by
  refine calls_pure (G := tys) w tysOK mixed Try.func9 (by rfl) (by rfl) (by rfl) ?_
  repeat' (refine N.go ?_; first | with_reducible refine N.obl (by decide) ?_ | with_reducible refine N.obl (flat_wi _ _ _) ?_ | with_reducible refine N.obl (flat_lim _ _) ?_ | with_reducible refine N.eq ?_ | with_reducible refine N.obl rfl ?_ | with_reducible refine N.obl ⟨by kernel_rfl, by kernel_rfl⟩ ?_ | with_reducible refine N.forkT ?_ | with_reducible refine N.forkF ?_ | with_reducible refine N.call (cPoll _ _ _) ?_ | with_reducible refine N.call (cGotPoll _ _ _) ?_ | with_reducible refine N.call (cFinal _ _) ?_ | with_reducible refine N.call (cGotFinal _ _ _ _ _) ?_ | with_reducible refine N.call (cGotResp _ _ _) ?_ | with_reducible refine N.call (cResp _ _ _) ?_ | with_reducible refine N.call (cAwake15 _) ?_ | refine N.forkNo (by decide) ?_ | refine N.forkYes (by decide) ?_)
  all_goals rfl
set_option maxRecDepth 100000 in
theorem open_call {H : Type} {enc : TypeId × Value → H} {W : World} {r : Reach} {base : Nat} {v : Value} {d : DataW H} {p : List MemPlace}
    (hv : Value.okWide Try.prog W r base 39 v) (h : DataW.Trod enc Try.prog W 0 (fun _ => true) true 39 v d p) :
    ∃ x0 x1 x2 x3 x4 x5 : Int, v = .agg #[.int .i64 x0, .int .i64 x1, .int .i64 x2, .int .i64 x3, .int .i64 x4, .int .i64 x5] := by
  obtain ⟨cs, rfl, hs⟩ := okWide_struct Try.underlying39 hv
  have hs2 : cs.size = 6 := hs.trans (by kernel_rfl)
  obtain ⟨l⟩ := cs
  match l, hs2 with
  | [c0, c1, c2, c3, c4, c5], _ =>
    obtain ⟨fuel, hf⟩ := h
    have hf' : DataW.trod enc Try.prog W 0 (fun _ => true) true fuel 39 [c0, c1, c2, c3, c4, c5] = some (d, p) := hf
    obtain ⟨k0, w0⟩ := leaf_int (d := 3) (l := 3) (j := 0) (u := c0) (by kernel_rfl) (@Try.underlying3) rfl hf'
    obtain ⟨k1, w1⟩ := leaf_int (d := 3) (l := 2) (j := 1) (u := c1) (by kernel_rfl) (@Try.underlying2) rfl hf'
    obtain ⟨k2, w2⟩ := leaf_int (d := 3) (l := 2) (j := 2) (u := c2) (by kernel_rfl) (@Try.underlying2) rfl hf'
    obtain ⟨k3, w3⟩ := leaf_int (d := 3) (l := 2) (j := 3) (u := c3) (by kernel_rfl) (@Try.underlying2) rfl hf'
    obtain ⟨k4, w4⟩ := leaf_int (d := 3) (l := 2) (j := 4) (u := c4) (by kernel_rfl) (@Try.underlying2) rfl hf'
    obtain ⟨k5, w5⟩ := leaf_int (d := 3) (l := 2) (j := 5) (u := c5) (by kernel_rfl) (@Try.underlying2) rfl hf'
    exact ⟨_, _, _, _, _, _, by rw [k0, k1, k2, k3, k4, k5]⟩
set_option maxRecDepth 100000 in
theorem lifted (os : Os) (started : os.Started) (H : Type) (enc : TypeId × Value → H) :
    ReturnsInHanded {} Try.checked os 9 .any (Rows.twrNilSpec.pre6 enc Try.prog Try.f9 Rows.twrNilRow.domain false) (Rows.twrNilSpec.post enc Try.prog Try.f9 false true false false) := by
  refine law_lifted (C := Try.checked) (tb := 4) Try.own started (by kernel_rfl) Try.func9 Try.laidOut (by kernel_rfl) rfl Try.underlying4 rfl
    (fun ds hds => by match ds, hds with | [_], _ => rfl)
    (ChangeSpec.witness6 (enc := enc) (C := Try.checked) false ⟨#[], #[.agg #[.int .i64 0, .int .i64 0, .int .i64 0, .int .i64 0, .int .i64 0, .int .i64 0]], []⟩ 8 (by kernel_rfl) (by kernel_rfl) (by kernel_rfl) (by kernel_rfl)) ?_
  intro W base args ds p hval0 hA0 hsz0
  have hval : ∀ (j : Nat) t v, Try.f9.params[j]? = some t → args[j]? = some v → Value.okWide Try.prog W .any base t v := hval0
  have hA : DataW.TrodAll enc Try.prog W 0 (fun _ => true) true Try.f9.params.toList args.toList ds p := hA0
  have hsz : (DataW.weightsEach Try.prog Try.f9.params.toList ds).all (· ≤ reachBytes) = true := hsz0
  rw [Try.params9] at hA hval hsz
  obtain ⟨v0, vs0, d0, ds0, p0, q0, hargs, rfl, rfl, h0, r0⟩ := trodAll_cons hA
  obtain ⟨rfl, rfl, rfl⟩ := trodAll_nil r0
  obtain rfl : args = #[v0] := by cases args; simp_all
  obtain ⟨f0_0, f0_1, f0_2, f0_3, f0_4, f0_5, rfl⟩ := open_call (hval 0 _ v0 rfl rfl) h0
  exact walk f0_0 f0_1 f0_2 f0_3 f0_4 f0_5 W

theorem proved : Rows.TwrNilSaid :=
  OpenClaim.holds_of_wide 9 Try.f9 rfl rfl rfl rfl rfl rfl rfl ⟨rfl, rfl, rfl, rfl, rfl⟩ rfl rfl rfl rfl rfl (by kernel_rfl) Try.func9 (by kernel_rfl)
    (of_decide_eq_true (by kernel_rfl)) (by unfold Func.isWrapper; rw [if_neg (by decide +kernel)]; exact ⟨rfl, rfl⟩)
    (fun os started H enc _ => lifted os started H enc)
#print axioms proved
end Go.Proofs.Ytioohgocbpdkeaa.twrNil
