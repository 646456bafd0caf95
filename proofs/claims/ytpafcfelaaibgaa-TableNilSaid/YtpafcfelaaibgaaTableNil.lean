/-
  The statement TableNil: for every input the law returns true.
-/
import Derived.Test.YtpafcfelaaibgaaTbl10
import Derived.Test.YtpafcfelaaibgaaRows
set_option linter.unusedVariables false
set_option linter.unusedSimpArgs false
namespace Go.Proofs.Ytpafcfelaaibgaa.tableNil
open Go Go.ChangeShapes Go.WideShapes Go.ChangeAt Go.RowKit Sx

theorem cell_int {P : Program} {W : World} {r : Reach} {base : Nat} {t : TypeId} {k : IntKind} {v : Value} (ht : P.underlying t = some (.int k)) (h : Cell.okWide P W r base t v) : ∃ n : Int, v = .int k n ∧ k.has n := by
  simp only [Cell.okWide, ht, Cell.ok] at h
  split at h
  all_goals simp_all
theorem cell_bool {P : Program} {W : World} {r : Reach} {base : Nat} {t : TypeId} {v : Value} (ht : P.underlying t = some .bool) (h : Cell.okWide P W r base t v) : ∃ b : Bool, v = .bool b := by
  simp only [Cell.okWide, ht, Cell.ok] at h
  split at h
  all_goals simp_all
set_option maxRecDepth 100000 in
theorem nilLen_x   (w : World) : Calls Try.prog 11 #[.pointer none] w fun e w' => e = .returned (.int .i64 0) ∧ Below w.heap.size w w' := by
  refine calls_pure (G := tys) w tysOK mixed Try.func11 (by rfl) (by first | rfl | (simp only [List.all_cons, List.all_nil, plain_wz, plain_lim, plain_wi]; rfl)) (by first | exact plain3_wz _ | exact plain3_wi _ _ _ | rfl | (simp only [plain3, List.all_cons, List.all_nil, plain_wz, plain_lim, plain_wi]; rfl)) ?_
  repeat' (refine N.go ?_; first | with_reducible refine N.obl (by decide) ?_ | with_reducible refine N.obl (flat_wi _ _ _) ?_ | with_reducible refine N.obl (flat_lim _ _) ?_ | with_reducible refine N.eq ?_ | with_reducible refine N.obl rfl ?_ | with_reducible refine N.obl ⟨by kernel_rfl, by kernel_rfl⟩ ?_ | with_reducible refine N.forkT ?_ | with_reducible refine N.forkF ?_ | refine N.roll 1 ?_ | refine N.forkYes (by decide) ?_ | refine N.forkNo (by decide) ?_)
  all_goals rfl
theorem nLen  (h : List (Option Chunk)) : CallOK Try.prog 11 [.pointer none] h (.int .i64 0) [] [] :=
  call_pure rfl rfl (Try.call11 _) (nilLen_x )
set_option maxRecDepth 100000 in
theorem nilAll_x   (w : World) : Calls Try.prog 19 #[.pointer none] w fun e w' => e = .returned (.slice none 0 0) ∧ Below w.heap.size w w' := by
  refine calls_pure (G := tys) w tysOK mixed Try.func19 (by rfl) (by first | rfl | (simp only [List.all_cons, List.all_nil, plain_wz, plain_lim, plain_wi]; rfl)) (by first | exact plain3_wz _ | exact plain3_wi _ _ _ | rfl | (simp only [plain3, List.all_cons, List.all_nil, plain_wz, plain_lim, plain_wi]; rfl)) ?_
  repeat' (refine N.go ?_; first | with_reducible refine N.obl (by decide) ?_ | with_reducible refine N.obl (flat_wi _ _ _) ?_ | with_reducible refine N.obl (flat_lim _ _) ?_ | with_reducible refine N.eq ?_ | with_reducible refine N.obl rfl ?_ | with_reducible refine N.obl ⟨by kernel_rfl, by kernel_rfl⟩ ?_ | with_reducible refine N.forkT ?_ | with_reducible refine N.forkF ?_ | with_reducible refine N.call (nLen  _) ?_ | refine N.roll 1 ?_ | refine N.forkYes (by decide) ?_ | refine N.forkNo (by decide) ?_)
  all_goals rfl
theorem nAll  (h : List (Option Chunk)) : CallOK Try.prog 19 [.pointer none] h (.slice none 0 0) [] [] :=
  call_pure rfl rfl (Try.call19 _) (nilAll_x )
set_option maxRecDepth 100000 in
theorem nilGet_x (a : Int)  (w : World) : Calls Try.prog 12 #[.pointer none, .int .i64 a] w fun e w' => e = .returned (.tuple #[.agg #[.int .i64 0, .int .i64 0, .int .i64 0, .bool false, .int .i64 0, .int .i64 0, .int .i64 0, .int .i64 0, .int .i64 0, .int .i64 0], .bool false]) ∧ Below w.heap.size w w' := by
  refine calls_pure (G := tys) w tysOK mixed Try.func12 (by rfl) (by first | rfl | (simp only [List.all_cons, List.all_nil, plain_wz, plain_lim, plain_wi]; rfl)) (by first | exact plain3_wz _ | exact plain3_wi _ _ _ | rfl | (simp only [plain3, List.all_cons, List.all_nil, plain_wz, plain_lim, plain_wi]; rfl)) ?_
  repeat' (refine N.go ?_; first | with_reducible refine N.obl (by decide) ?_ | with_reducible refine N.obl (flat_wi _ _ _) ?_ | with_reducible refine N.obl (flat_lim _ _) ?_ | with_reducible refine N.eq ?_ | with_reducible refine N.obl rfl ?_ | with_reducible refine N.obl ⟨by kernel_rfl, by kernel_rfl⟩ ?_ | with_reducible refine N.forkT ?_ | with_reducible refine N.forkF ?_ | with_reducible refine N.call (nLen  _) ?_ | with_reducible refine N.call (nAll  _) ?_ | refine N.roll 1 ?_ | refine N.forkYes (by decide) ?_ | refine N.forkNo (by decide) ?_)
  all_goals rfl
theorem nGet (a : Int) (h : List (Option Chunk)) : CallOK Try.prog 12 [.pointer none, .int .i64 a] h (.tuple #[.agg #[.int .i64 0, .int .i64 0, .int .i64 0, .bool false, .int .i64 0, .int .i64 0, .int .i64 0, .int .i64 0, .int .i64 0, .int .i64 0], .bool false]) [] [] :=
  call_pure rfl rfl (Try.call12 _) (nilGet_x a)
set_option maxRecDepth 100000 in
theorem nilLeave_x (a : Int)  (w : World) : Calls Try.prog 15 #[.pointer none, .int .i64 a] w fun e w' => e = .returned (.bool false) ∧ Below w.heap.size w w' := by
  refine calls_pure (G := tys) w tysOK mixed Try.func15 (by rfl) (by first | rfl | (simp only [List.all_cons, List.all_nil, plain_wz, plain_lim, plain_wi]; rfl)) (by first | exact plain3_wz _ | exact plain3_wi _ _ _ | rfl | (simp only [plain3, List.all_cons, List.all_nil, plain_wz, plain_lim, plain_wi]; rfl)) ?_
  repeat' (refine N.go ?_; first | with_reducible refine N.obl (by decide) ?_ | with_reducible refine N.obl (flat_wi _ _ _) ?_ | with_reducible refine N.obl (flat_lim _ _) ?_ | with_reducible refine N.eq ?_ | with_reducible refine N.obl rfl ?_ | with_reducible refine N.obl ⟨by kernel_rfl, by kernel_rfl⟩ ?_ | with_reducible refine N.forkT ?_ | with_reducible refine N.forkF ?_ | with_reducible refine N.call (nLen  _) ?_ | with_reducible refine N.call (nAll  _) ?_ | with_reducible refine N.call (nGet _ _) ?_ | refine N.roll 1 ?_ | refine N.forkYes (by decide) ?_ | refine N.forkNo (by decide) ?_)
  all_goals rfl
theorem nLeave (a : Int) (h : List (Option Chunk)) : CallOK Try.prog 15 [.pointer none, .int .i64 a] h (.bool false) [] [] :=
  call_pure rfl rfl (Try.call15 _) (nilLeave_x a)
set_option maxRecDepth 100000 in
theorem nilHear_x (a b c d : Int)  (w : World) : Calls Try.prog 10 #[.pointer none, .int .i64 a, .int .i64 b, .int .i64 c, .int .i64 d] w fun e w' => e = .returned (.int .i64 1) ∧ Below w.heap.size w w' := by
  refine calls_pure (G := tys) w tysOK mixed Try.func10 (by rfl) (by first | rfl | (simp only [List.all_cons, List.all_nil, plain_wz, plain_lim, plain_wi]; rfl)) (by first | exact plain3_wz _ | exact plain3_wi _ _ _ | rfl | (simp only [plain3, List.all_cons, List.all_nil, plain_wz, plain_lim, plain_wi]; rfl)) ?_
  repeat' (refine N.go ?_; first | with_reducible refine N.obl (by decide) ?_ | with_reducible refine N.obl (flat_wi _ _ _) ?_ | with_reducible refine N.obl (flat_lim _ _) ?_ | with_reducible refine N.eq ?_ | with_reducible refine N.obl rfl ?_ | with_reducible refine N.obl ⟨by kernel_rfl, by kernel_rfl⟩ ?_ | with_reducible refine N.forkT ?_ | with_reducible refine N.forkF ?_ | with_reducible refine N.call (nLen  _) ?_ | with_reducible refine N.call (nAll  _) ?_ | with_reducible refine N.call (nGet _ _) ?_ | with_reducible refine N.call (nLeave _ _) ?_ | refine N.roll 1 ?_ | refine N.forkYes (by decide) ?_ | refine N.forkNo (by decide) ?_)
  all_goals rfl
theorem nHear (a b c d : Int) (h : List (Option Chunk)) : CallOK Try.prog 10 [.pointer none, .int .i64 a, .int .i64 b, .int .i64 c, .int .i64 d] h (.int .i64 1) [] [] :=
  call_pure rfl rfl (Try.call10 _) (nilHear_x a b c d)
set_option maxRecDepth 100000 in
theorem nilPut_x (a b : Int) (e0 e1 e2 e3 e4 : Int)  (w : World) : Calls Try.prog 16 #[.pointer none, .int .i64 a, .agg #[.int .i64 e0, .int .i64 e1, .int .i64 e2, .int .i64 e3, .int .i64 e4], .int .i64 b] w fun e w' => e = .returned (.int .i64 1) ∧ Below w.heap.size w w' := by
  refine calls_pure (G := tys) w tysOK mixed Try.func16 (by rfl) (by first | rfl | (simp only [List.all_cons, List.all_nil, plain_wz, plain_lim, plain_wi]; rfl)) (by first | exact plain3_wz _ | exact plain3_wi _ _ _ | rfl | (simp only [plain3, List.all_cons, List.all_nil, plain_wz, plain_lim, plain_wi]; rfl)) ?_
  repeat' (refine N.go ?_; first | with_reducible refine N.obl (by decide) ?_ | with_reducible refine N.obl (flat_wi _ _ _) ?_ | with_reducible refine N.obl (flat_lim _ _) ?_ | with_reducible refine N.eq ?_ | with_reducible refine N.obl rfl ?_ | with_reducible refine N.obl ⟨by kernel_rfl, by kernel_rfl⟩ ?_ | with_reducible refine N.forkT ?_ | with_reducible refine N.forkF ?_ | with_reducible refine N.call (nLen  _) ?_ | with_reducible refine N.call (nAll  _) ?_ | with_reducible refine N.call (nGet _ _) ?_ | with_reducible refine N.call (nLeave _ _) ?_ | with_reducible refine N.call (nHear _ _ _ _ _) ?_ | refine N.roll 1 ?_ | refine N.forkYes (by decide) ?_ | refine N.forkNo (by decide) ?_)
  all_goals rfl
theorem nPut (a b : Int) (e0 e1 e2 e3 e4 : Int) (h : List (Option Chunk)) : CallOK Try.prog 16 [.pointer none, .int .i64 a, .agg #[.int .i64 e0, .int .i64 e1, .int .i64 e2, .int .i64 e3, .int .i64 e4], .int .i64 b] h (.int .i64 1) [] [] :=
  call_pure rfl rfl (Try.call16 _) (nilPut_x a b e0 e1 e2 e3 e4)
set_option maxRecDepth 100000 in
theorem nilEvict_x (a b : Int)  (w : World) : Calls Try.prog 14 #[.pointer none, .int .i64 a, .int .i64 b] w fun e w' => e = .returned (.slice none 0 0) ∧ Below w.heap.size w w' := by
  refine calls_pure (G := tys) w tysOK mixed Try.func14 (by rfl) (by first | rfl | (simp only [List.all_cons, List.all_nil, plain_wz, plain_lim, plain_wi]; rfl)) (by first | exact plain3_wz _ | exact plain3_wi _ _ _ | rfl | (simp only [plain3, List.all_cons, List.all_nil, plain_wz, plain_lim, plain_wi]; rfl)) ?_
  repeat' (refine N.go ?_; first | with_reducible refine N.obl (by decide) ?_ | with_reducible refine N.obl (flat_wi _ _ _) ?_ | with_reducible refine N.obl (flat_lim _ _) ?_ | with_reducible refine N.eq ?_ | with_reducible refine N.obl rfl ?_ | with_reducible refine N.obl ⟨by kernel_rfl, by kernel_rfl⟩ ?_ | with_reducible refine N.forkT ?_ | with_reducible refine N.forkF ?_ | with_reducible refine N.call (nLen  _) ?_ | with_reducible refine N.call (nAll  _) ?_ | with_reducible refine N.call (nGet _ _) ?_ | with_reducible refine N.call (nLeave _ _) ?_ | with_reducible refine N.call (nHear _ _ _ _ _) ?_ | with_reducible refine N.call (nPut _ _ _ _ _ _ _ _) ?_ | refine N.roll 1 ?_ | refine N.forkYes (by decide) ?_ | refine N.forkNo (by decide) ?_)
  all_goals rfl
theorem nEvict (a b : Int) (h : List (Option Chunk)) : CallOK Try.prog 14 [.pointer none, .int .i64 a, .int .i64 b] h (.slice none 0 0) [] [] :=
  call_pure rfl rfl (Try.call14 _) (nilEvict_x a b)
def sameE (a0 a1 a2 a4 a5 a6 a7 a8 a9 : Int) (a3 : Bool) (b0 b1 b2 b4 b5 b6 b7 b8 b9 : Int) (b3 : Bool) : Bool := (a0 == b0) && ((a1 == b1) && ((a2 == b2) && ((a3 == b3) && ((a4 == b4) && ((a5 == b5) && ((a6 == b6) && ((a7 == b7) && ((a8 == b8) && ((a9 == b9))))))))))
set_option maxRecDepth 100000 in
theorem eq_ellipse (x y : Operand) (a b c d e p q r s t : Int) : BinIs Try.prog .eql 34 x y (.agg ⟨[.int .i64 a, .int .i64 b, .int .i64 c, .int .i64 d, .int .i64 e]⟩) (.agg ⟨[.int .i64 p, .int .i64 q, .int .i64 r, .int .i64 s, .int .i64 t]⟩) (.bool (a == p && (b == q && (c == r && (d == s && e == t))))) :=
  ⟨rfl, rfl, rfl, fun w => by go_simp; by_cases h1 : a = p <;> by_cases h2 : b = q <;> by_cases h3 : c = r <;> by_cases h4 : d = s <;> by_cases h5 : e = t <;> simp [h1, h2, h3, h4, h5]⟩
set_option maxRecDepth 100000 in
theorem eq_entry (x y : Operand) (a0 a1 a2 a4 a5 a6 a7 a8 a9 : Int) (a3 : Bool) (b0 b1 b2 b4 b5 b6 b7 b8 b9 : Int) (b3 : Bool) : BinIs Try.prog .eql 36 x y (.agg #[.int .i64 a0, .int .i64 a1, .int .i64 a2, .bool a3, .int .i64 a4, .int .i64 a5, .int .i64 a6, .int .i64 a7, .int .i64 a8, .int .i64 a9]) (.agg #[.int .i64 b0, .int .i64 b1, .int .i64 b2, .bool b3, .int .i64 b4, .int .i64 b5, .int .i64 b6, .int .i64 b7, .int .i64 b8, .int .i64 b9]) (.bool (sameE a0 a1 a2 a4 a5 a6 a7 a8 a9 a3 b0 b1 b2 b4 b5 b6 b7 b8 b9 b3)) :=
  ⟨rfl, rfl, rfl, fun w => by
    go_simp
    unfold sameE
    repeat' split
    all_goals simp_all⟩
set_option maxRecDepth 100000 in
theorem same_x (a0 a1 a2 a4 a5 a6 a7 a8 a9 : Int) (a3 : Bool) (b0 b1 b2 b4 b5 b6 b7 b8 b9 : Int) (b3 : Bool)  (w : World) : Calls Try.prog 20 #[.agg #[.int .i64 a0, .int .i64 a1, .int .i64 a2, .bool a3, .int .i64 a4, .int .i64 a5, .int .i64 a6, .int .i64 a7, .int .i64 a8, .int .i64 a9], .agg #[.int .i64 b0, .int .i64 b1, .int .i64 b2, .bool b3, .int .i64 b4, .int .i64 b5, .int .i64 b6, .int .i64 b7, .int .i64 b8, .int .i64 b9]] w fun e w' => e = .returned (.bool (sameE a0 a1 a2 a4 a5 a6 a7 a8 a9 a3 b0 b1 b2 b4 b5 b6 b7 b8 b9 b3)) ∧ Below w.heap.size w w' := by
  refine calls_pure (G := tys) w tysOK mixed Try.func20 (by rfl) (by first | rfl | (simp only [List.all_cons, List.all_nil, plain_wz, plain_lim, plain_wi]; rfl)) (by first | exact plain3_wz _ | exact plain3_wi _ _ _ | rfl | (simp only [plain3, List.all_cons, List.all_nil, plain_wz, plain_lim, plain_wi]; rfl)) ?_
  repeat' (refine N.go ?_; first | with_reducible refine N.obl (by decide) ?_ | with_reducible refine N.obl (flat_wi _ _ _) ?_ | with_reducible refine N.obl (flat_lim _ _) ?_ | with_reducible refine N.eq ?_ | with_reducible refine N.obl rfl ?_ | with_reducible refine N.obl ⟨by kernel_rfl, by kernel_rfl⟩ ?_ | with_reducible refine N.forkT ?_ | with_reducible refine N.forkF ?_ | refine N.fork (fun hb => ?_) (fun hb => ?_) | with_reducible refine N.bin _ (eq_ellipse _ _ _ _ _ _ _ _ _ _ _ _) ?_)
  all_goals first | rfl | simp_all [sameE]
theorem nSame (a0 a1 a2 a4 a5 a6 a7 a8 a9 : Int) (a3 : Bool) (b0 b1 b2 b4 b5 b6 b7 b8 b9 : Int) (b3 : Bool) (h : List (Option Chunk)) : CallOK Try.prog 20 [.agg #[.int .i64 a0, .int .i64 a1, .int .i64 a2, .bool a3, .int .i64 a4, .int .i64 a5, .int .i64 a6, .int .i64 a7, .int .i64 a8, .int .i64 a9], .agg #[.int .i64 b0, .int .i64 b1, .int .i64 b2, .bool b3, .int .i64 b4, .int .i64 b5, .int .i64 b6, .int .i64 b7, .int .i64 b8, .int .i64 b9]] h (.bool (sameE a0 a1 a2 a4 a5 a6 a7 a8 a9 a3 b0 b1 b2 b4 b5 b6 b7 b8 b9 b3)) [] [] :=
  call_pure rfl rfl (Try.call20 _) (same_x a0 a1 a2 a4 a5 a6 a7 a8 a9 a3 b0 b1 b2 b4 b5 b6 b7 b8 b9 b3)
set_option maxRecDepth 100000 in
theorem walk (c0 c1 c2 c3 c4 c5 c6 c7 c8 c9 c10 : Int) (a0 a1 a2 a4 a5 a6 a7 a8 a9 : Int) (a3 : Bool) (b0 b1 b2 b4 b5 b6 b7 b8 b9 : Int) (b3 : Bool) (w : World) :
    Calls Try.prog 8 #[.agg #[.int .i64 c0, .int .i64 c1, .int .i64 c2, .int .i64 c3, .int .i64 c4, .int .i64 c5, .int .i64 c6, .int .i64 c7, .int .i64 c8, .int .i64 c9, .int .i64 c10], .agg #[.int .i64 a0, .int .i64 a1, .int .i64 a2, .bool a3, .int .i64 a4, .int .i64 a5, .int .i64 a6, .int .i64 a7, .int .i64 a8, .int .i64 a9], .agg #[.int .i64 b0, .int .i64 b1, .int .i64 b2, .bool b3, .int .i64 b4, .int .i64 b5, .int .i64 b6, .int .i64 b7, .int .i64 b8, .int .i64 b9]] w fun o w' => o = .returned (.bool true) ∧ Below w.heap.size w w' := by
  refine calls_pure (G := tys) w tysOK mixed Try.func8 (by rfl) (by rfl) (by rfl) ?_
  repeat' (refine N.go ?_; first | with_reducible refine N.obl (by decide) ?_ | with_reducible refine N.obl (flat_wi _ _ _) ?_ | with_reducible refine N.obl (flat_lim _ _) ?_ | with_reducible refine N.eq ?_ | with_reducible refine N.obl rfl ?_ | with_reducible refine N.obl ⟨by kernel_rfl, by kernel_rfl⟩ ?_ | with_reducible refine N.forkT ?_ | with_reducible refine N.forkF ?_ | with_reducible refine N.call (nLen  _) ?_ | with_reducible refine N.call (nAll  _) ?_ | with_reducible refine N.call (nGet _ _) ?_ | with_reducible refine N.call (nLeave _ _) ?_ | with_reducible refine N.call (nHear _ _ _ _ _) ?_ | with_reducible refine N.call (nPut _ _ _ _ _ _ _ _) ?_ | with_reducible refine N.call (nEvict _ _ _) ?_ | with_reducible refine N.call (nSame _ _ _ _ _ _ _ _ _ _ _ _ _ _ _ _ _ _ _ _ _) ?_ | with_reducible refine N.call (cAwake _) ?_ | with_reducible refine N.bin _ (eq_entry _ _ _ _ _ _ _ _ _ _ _ _ _ _ _ _ _ _ _ _ _ _) ?_ | refine N.forkYes (by decide) ?_ | refine N.forkNo (by decide) ?_ | refine N.forkYes (beq_self_eq_true _) ?_)
  all_goals rfl
set_option maxRecDepth 100000 in
theorem open_call {W : World} {r : Reach} {base : Nat} {v : Value} (hv : Value.okWide Try.prog W r base 53 v) :
    ∃ (x0 : Int) (x1 : Int) (x2 : Int) (x3 : Int) (x4 : Int) (x5 : Int) (x6 : Int) (x7 : Int) (x8 : Int) (x9 : Int) (x10 : Int), v = .agg #[.int .i64 x0, .int .i64 x1, .int .i64 x2, .int .i64 x3, .int .i64 x4, .int .i64 x5, .int .i64 x6, .int .i64 x7, .int .i64 x8, .int .i64 x9, .int .i64 x10] ∧ IntKind.i64.has x0 ∧ IntKind.i64.has x1 ∧ IntKind.i64.has x2 ∧ IntKind.i64.has x3 ∧ IntKind.i64.has x4 ∧ IntKind.i64.has x5 ∧ IntKind.i64.has x6 ∧ IntKind.i64.has x7 ∧ IntKind.i64.has x8 ∧ IntKind.i64.has x9 ∧ IntKind.i64.has x10 := by
  have hw : ∃ cs, v = .agg cs ∧ cs.size = Try.prog.cellsOf 53 ∧ Row.okWide Try.prog W r base 53 cs := by
    have hu := @Try.underlying53
    unfold Value.okWide at hv
    rw [hu] at hv
    exact hv
  obtain ⟨cs, rfl, hs, ts, hts, _, hc⟩ := hw
  have hs2 : cs.size = 11 := hs.trans (by kernel_rfl)
  have hts2 : Try.prog.cellTypes Try.prog.depth 53 = some [3, 3, 3, 3, 2, 2, 2, 2, 2, 2, 2] := by kernel_rfl
  obtain rfl := Option.some.inj (hts2.symm.trans hts)
  obtain ⟨l⟩ := cs
  match l, hs2 with
  | [c0, c1, c2, c3, c4, c5, c6, c7, c8, c9, c10], _ =>
    obtain ⟨u0, e0, o0⟩ := hc 0 c0 rfl
    obtain rfl := Option.some.inj e0
    obtain ⟨u1, e1, o1⟩ := hc 1 c1 rfl
    obtain rfl := Option.some.inj e1
    obtain ⟨u2, e2, o2⟩ := hc 2 c2 rfl
    obtain rfl := Option.some.inj e2
    obtain ⟨u3, e3, o3⟩ := hc 3 c3 rfl
    obtain rfl := Option.some.inj e3
    obtain ⟨u4, e4, o4⟩ := hc 4 c4 rfl
    obtain rfl := Option.some.inj e4
    obtain ⟨u5, e5, o5⟩ := hc 5 c5 rfl
    obtain rfl := Option.some.inj e5
    obtain ⟨u6, e6, o6⟩ := hc 6 c6 rfl
    obtain rfl := Option.some.inj e6
    obtain ⟨u7, e7, o7⟩ := hc 7 c7 rfl
    obtain rfl := Option.some.inj e7
    obtain ⟨u8, e8, o8⟩ := hc 8 c8 rfl
    obtain rfl := Option.some.inj e8
    obtain ⟨u9, e9, o9⟩ := hc 9 c9 rfl
    obtain rfl := Option.some.inj e9
    obtain ⟨u10, e10, o10⟩ := hc 10 c10 rfl
    obtain rfl := Option.some.inj e10
    obtain ⟨x0, rfl, k0⟩ := cell_int Try.underlying3 o0
    obtain ⟨x1, rfl, k1⟩ := cell_int Try.underlying3 o1
    obtain ⟨x2, rfl, k2⟩ := cell_int Try.underlying3 o2
    obtain ⟨x3, rfl, k3⟩ := cell_int Try.underlying3 o3
    obtain ⟨x4, rfl, k4⟩ := cell_int Try.underlying2 o4
    obtain ⟨x5, rfl, k5⟩ := cell_int Try.underlying2 o5
    obtain ⟨x6, rfl, k6⟩ := cell_int Try.underlying2 o6
    obtain ⟨x7, rfl, k7⟩ := cell_int Try.underlying2 o7
    obtain ⟨x8, rfl, k8⟩ := cell_int Try.underlying2 o8
    obtain ⟨x9, rfl, k9⟩ := cell_int Try.underlying2 o9
    obtain ⟨x10, rfl, k10⟩ := cell_int Try.underlying2 o10
    exact ⟨x0, x1, x2, x3, x4, x5, x6, x7, x8, x9, x10, rfl, k0, k1, k2, k3, k4, k5, k6, k7, k8, k9, k10⟩
set_option maxRecDepth 100000 in
theorem open_entry {W : World} {r : Reach} {base : Nat} {v : Value} (hv : Value.okWide Try.prog W r base 36 v) :
    ∃ (x0 : Int) (x1 : Int) (x2 : Int) (x3 : Bool) (x4 : Int) (x5 : Int) (x6 : Int) (x7 : Int) (x8 : Int) (x9 : Int), v = .agg #[.int .i64 x0, .int .i64 x1, .int .i64 x2, .bool x3, .int .i64 x4, .int .i64 x5, .int .i64 x6, .int .i64 x7, .int .i64 x8, .int .i64 x9] ∧ IntKind.i64.has x0 ∧ IntKind.i64.has x1 ∧ IntKind.i64.has x2 ∧ IntKind.i64.has x4 ∧ IntKind.i64.has x5 ∧ IntKind.i64.has x6 ∧ IntKind.i64.has x7 ∧ IntKind.i64.has x8 ∧ IntKind.i64.has x9 := by
  have hw : ∃ cs, v = .agg cs ∧ cs.size = Try.prog.cellsOf 36 ∧ Row.okWide Try.prog W r base 36 cs := by
    have hu := @Try.underlying36
    unfold Value.okWide at hv
    rw [hu] at hv
    exact hv
  obtain ⟨cs, rfl, hs, ts, hts, _, hc⟩ := hw
  have hs2 : cs.size = 10 := hs.trans (by kernel_rfl)
  have hts2 : Try.prog.cellTypes Try.prog.depth 36 = some [3, 3, 2, 4, 2, 2, 2, 2, 2, 2] := by kernel_rfl
  obtain rfl := Option.some.inj (hts2.symm.trans hts)
  obtain ⟨l⟩ := cs
  match l, hs2 with
  | [c0, c1, c2, c3, c4, c5, c6, c7, c8, c9], _ =>
    obtain ⟨u0, e0, o0⟩ := hc 0 c0 rfl
    obtain rfl := Option.some.inj e0
    obtain ⟨u1, e1, o1⟩ := hc 1 c1 rfl
    obtain rfl := Option.some.inj e1
    obtain ⟨u2, e2, o2⟩ := hc 2 c2 rfl
    obtain rfl := Option.some.inj e2
    obtain ⟨u3, e3, o3⟩ := hc 3 c3 rfl
    obtain rfl := Option.some.inj e3
    obtain ⟨u4, e4, o4⟩ := hc 4 c4 rfl
    obtain rfl := Option.some.inj e4
    obtain ⟨u5, e5, o5⟩ := hc 5 c5 rfl
    obtain rfl := Option.some.inj e5
    obtain ⟨u6, e6, o6⟩ := hc 6 c6 rfl
    obtain rfl := Option.some.inj e6
    obtain ⟨u7, e7, o7⟩ := hc 7 c7 rfl
    obtain rfl := Option.some.inj e7
    obtain ⟨u8, e8, o8⟩ := hc 8 c8 rfl
    obtain rfl := Option.some.inj e8
    obtain ⟨u9, e9, o9⟩ := hc 9 c9 rfl
    obtain rfl := Option.some.inj e9
    obtain ⟨x0, rfl, k0⟩ := cell_int Try.underlying3 o0
    obtain ⟨x1, rfl, k1⟩ := cell_int Try.underlying3 o1
    obtain ⟨x2, rfl, k2⟩ := cell_int Try.underlying2 o2
    obtain ⟨x3, rfl⟩ := cell_bool Try.underlying4 o3
    obtain ⟨x4, rfl, k4⟩ := cell_int Try.underlying2 o4
    obtain ⟨x5, rfl, k5⟩ := cell_int Try.underlying2 o5
    obtain ⟨x6, rfl, k6⟩ := cell_int Try.underlying2 o6
    obtain ⟨x7, rfl, k7⟩ := cell_int Try.underlying2 o7
    obtain ⟨x8, rfl, k8⟩ := cell_int Try.underlying2 o8
    obtain ⟨x9, rfl, k9⟩ := cell_int Try.underlying2 o9
    exact ⟨x0, x1, x2, x3, x4, x5, x6, x7, x8, x9, rfl, k0, k1, k2, k4, k5, k6, k7, k8, k9⟩
set_option maxRecDepth 100000 in
theorem lifted (os : Os) (started : os.Started) (H : Type) (enc : TypeId × Value → H) :
    ReturnsInHanded {} Try.checked os 8 .any (Rows.tableNilSpec.pre6 enc Try.prog Try.f8 Rows.tableNilRow.domain false) (Rows.tableNilSpec.post enc Try.prog Try.f8 false true false false) := by
  refine law_lifted (C := Try.checked) (tb := 4) Try.own started (by kernel_rfl) Try.func8 Try.laidOut (by kernel_rfl) rfl Try.underlying4 rfl
    (fun ds hds => by match ds, hds with | [_, _, _], _ => rfl)
    (ChangeSpec.witness6 (enc := enc) (C := Try.checked) false ⟨#[], #[.agg #[.int .i64 0, .int .i64 0, .int .i64 0, .int .i64 0, .int .i64 0, .int .i64 0, .int .i64 0, .int .i64 0, .int .i64 0, .int .i64 0, .int .i64 0], .agg #[.int .i64 0, .int .i64 0, .int .i64 0, .bool false, .int .i64 0, .int .i64 0, .int .i64 0, .int .i64 0, .int .i64 0, .int .i64 0], .agg #[.int .i64 0, .int .i64 0, .int .i64 0, .bool false, .int .i64 0, .int .i64 0, .int .i64 0, .int .i64 0, .int .i64 0, .int .i64 0]], []⟩ 8 (by kernel_rfl) (by kernel_rfl) (by kernel_rfl) (by kernel_rfl)) ?_
  intro W base args ds p hval0 hA0 hsz0
  have hval : ∀ (j : Nat) t v, Try.f8.params[j]? = some t → args[j]? = some v → Value.okWide Try.prog W .any base t v := hval0
  have hA : DataW.TrodAll enc Try.prog W 0 (fun _ => true) true Try.f8.params.toList args.toList ds p := hA0
  have hsz : (DataW.weightsEach Try.prog Try.f8.params.toList ds).all (· ≤ reachBytes) = true := hsz0
  rw [Try.params8] at hA hval hsz
  obtain ⟨v0, vs0, d0, ds0, p0, q0, hargs, rfl, rfl, h0, r0⟩ := trodAll_cons hA
  obtain ⟨v1, vs1, d1, ds1, p1, q1, rfl, rfl, rfl, h1, r1⟩ := trodAll_cons r0
  obtain ⟨v2, vs2, d2, ds2, p2, q2, rfl, rfl, rfl, h2, r2⟩ := trodAll_cons r1
  obtain ⟨rfl, rfl, rfl⟩ := trodAll_nil r2
  obtain rfl : args = #[v0, v1, v2] := by cases args; simp_all
  obtain ⟨c0, c1, c2, c3, c4, c5, c6, c7, c8, c9, c10, rfl, _⟩ := open_call (hval 0 _ v0 rfl rfl)
  obtain ⟨a0, a1, a2, a3, a4, a5, a6, a7, a8, a9, rfl, _⟩ := open_entry (hval 1 _ v1 rfl rfl)
  obtain ⟨b0, b1, b2, b3, b4, b5, b6, b7, b8, b9, rfl, _⟩ := open_entry (hval 2 _ v2 rfl rfl)
  exact walk c0 c1 c2 c3 c4 c5 c6 c7 c8 c9 c10 a0 a1 a2 a4 a5 a6 a7 a8 a9 a3 b0 b1 b2 b4 b5 b6 b7 b8 b9 b3 W

theorem proved : Rows.TableNilSaid :=
  OpenClaim.holds_of_wide 8 Try.f8 rfl rfl rfl rfl rfl rfl rfl ⟨rfl, rfl, rfl, rfl, rfl⟩ rfl rfl rfl rfl rfl (by kernel_rfl) Try.func8 (by kernel_rfl)
    (of_decide_eq_true (by kernel_rfl)) (by unfold Func.isWrapper; rw [if_neg (by decide +kernel)]; exact ⟨rfl, rfl⟩)
    (fun os started H enc _ => lifted os started H enc)
#print axioms proved
end Go.Proofs.Ytpafcfelaaibgaa.tableNil
