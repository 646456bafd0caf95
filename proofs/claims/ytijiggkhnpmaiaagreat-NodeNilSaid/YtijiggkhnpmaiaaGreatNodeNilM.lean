import Derived.Test.YtijiggkhnpmaiaaGreatRows
import Derived.Test.YtijiggkhnpmaiaaGreatM6

/-
  NodeNil: the law's walk and its frame.
-/
set_option linter.unusedVariables false
set_option linter.unusedSimpArgs false
namespace Go.Proofs.YtijiggkhnpmaiaaGreat.nodeNil
open Go Go.ChangeShapes Go.WideShapes Go.ChangeAt Go.RowKit Sx
set_option maxRecDepth 100000 in
theorem nilMove_x (x y : Int)  (w : World) : Calls Tryz.prog 4 #[.pointer none, .agg #[.int .i64 x, .int .i64 y]] w fun e w' => e = .returned (.tuple #[]) ∧ Below w.heap.size w w' := by
  refine calls_pure (G := tys) w tysOK mixed Tryz.func4 (by rfl) (by first | rfl | (simp only [List.all_cons, List.all_nil, plain_wz, plain_lim, plain_wi]; rfl)) (by first | exact plain3_wz _ | exact plain3_wi _ _ _ | rfl | (simp only [plain3, List.all_cons, List.all_nil, plain_wz, plain_lim, plain_wi]; rfl)) ?_
  repeat' (refine N.go ?_; first | with_reducible refine N.obl (by decide) ?_ | with_reducible refine N.obl (flat_wi _ _ _) ?_ | with_reducible refine N.obl (flat_lim _ _) ?_ | with_reducible refine N.eq ?_ | with_reducible refine N.obl rfl ?_ | with_reducible refine N.obl ⟨by kernel_rfl, by kernel_rfl⟩ ?_ | with_reducible refine N.alt ?_ | with_reducible refine N.forkT ?_ | with_reducible refine N.forkF ?_ | refine N.goto tysOK mixed ?_ | refine N.forkNo (by decide) ?_ | refine N.forkYes (by decide) ?_)
  all_goals rfl
theorem nMove (x y : Int) (h : List (Option Chunk)) : CallOK Tryz.prog 4 [.pointer none, .agg #[.int .i64 x, .int .i64 y]] h (.tuple #[]) [] [] :=
  call_pure rfl rfl (Tryz.call4 _) (nilMove_x x y)
set_option maxRecDepth 100000 in
theorem nilHear_x (l q : Nat) (a b c : Int)  (w : World) : Calls Tryz.prog 5 #[.pointer none, .slice none l q, .int .i64 a, .int .i64 b, .int .i64 c] w fun e w' => e = .returned (.tuple #[.slice none 0 0, .int .i64 1]) ∧ Below w.heap.size w w' := by
  refine calls_pure (G := tys) w tysOK mixed Tryz.func5 (by rfl) (by first | rfl | (simp only [List.all_cons, List.all_nil, plain_wz, plain_lim, plain_wi]; rfl)) (by first | exact plain3_wz _ | exact plain3_wi _ _ _ | rfl | (simp only [plain3, List.all_cons, List.all_nil, plain_wz, plain_lim, plain_wi]; rfl)) ?_
  repeat' (refine N.go ?_; first | with_reducible refine N.obl (by decide) ?_ | with_reducible refine N.obl (flat_wi _ _ _) ?_ | with_reducible refine N.obl (flat_lim _ _) ?_ | with_reducible refine N.eq ?_ | with_reducible refine N.obl rfl ?_ | with_reducible refine N.obl ⟨by kernel_rfl, by kernel_rfl⟩ ?_ | with_reducible refine N.alt ?_ | with_reducible refine N.forkT ?_ | with_reducible refine N.forkF ?_ | refine N.goto tysOK mixed ?_ | refine N.forkNo (by decide) ?_ | refine N.forkYes (by decide) ?_)
  all_goals rfl
theorem nHear (l q : Nat) (a b c : Int) (h : List (Option Chunk)) : CallOK Tryz.prog 5 [.pointer none, .slice none l q, .int .i64 a, .int .i64 b, .int .i64 c] h (.tuple #[.slice none 0 0, .int .i64 1]) [] [] :=
  call_pure rfl rfl (Tryz.call5 _) (nilHear_x l q a b c)
set_option maxRecDepth 100000 in
theorem nilHear'_x (g o l q : Nat) (a b c : Int)  (w : World) : Calls Tryz.prog 5 #[.pointer none, .slice (some ⟨g, o, none⟩) l q, .int .i64 a, .int .i64 b, .int .i64 c] w fun e w' => e = .returned (.tuple #[.slice none 0 0, .int .i64 1]) ∧ Below w.heap.size w w' := by
  refine calls_pure (G := tys) w tysOK mixed Tryz.func5 (by rfl) (by first | rfl | (simp only [List.all_cons, List.all_nil, plain_wz, plain_lim, plain_wi]; rfl)) (by first | exact plain3_wz _ | exact plain3_wi _ _ _ | rfl | (simp only [plain3, List.all_cons, List.all_nil, plain_wz, plain_lim, plain_wi]; rfl)) ?_
  repeat' (refine N.go ?_; first | with_reducible refine N.obl (by decide) ?_ | with_reducible refine N.obl (flat_wi _ _ _) ?_ | with_reducible refine N.obl (flat_lim _ _) ?_ | with_reducible refine N.eq ?_ | with_reducible refine N.obl rfl ?_ | with_reducible refine N.obl ⟨by kernel_rfl, by kernel_rfl⟩ ?_ | with_reducible refine N.alt ?_ | with_reducible refine N.forkT ?_ | with_reducible refine N.forkF ?_ | refine N.goto tysOK mixed ?_ | refine N.forkNo (by decide) ?_ | refine N.forkYes (by decide) ?_)
  all_goals rfl
theorem nHear' (g o l q : Nat) (a b c : Int) (h : List (Option Chunk)) : CallOK Tryz.prog 5 [.pointer none, .slice (some ⟨g, o, none⟩) l q, .int .i64 a, .int .i64 b, .int .i64 c] h (.tuple #[.slice none 0 0, .int .i64 1]) [] [] :=
  call_pure rfl rfl (Tryz.call5 _) (nilHear'_x g o l q a b c)
set_option maxRecDepth 100000 in
theorem nilReport_x   (w : World) : Calls Tryz.prog 6 #[.pointer none] w fun e w' => e = .returned (.agg #[.bool false, .int .i64 0, .int .i64 0, .int .i64 0, .int .i64 0, .int .i64 0, .slice none 0 0]) ∧ Below w.heap.size w w' := by
  refine calls_pure (G := tys) w tysOK mixed Tryz.func6 (by rfl) (by first | rfl | (simp only [List.all_cons, List.all_nil, plain_wz, plain_lim, plain_wi]; rfl)) (by first | exact plain3_wz _ | exact plain3_wi _ _ _ | rfl | (simp only [plain3, List.all_cons, List.all_nil, plain_wz, plain_lim, plain_wi]; rfl)) ?_
  repeat' (refine N.go ?_; first | with_reducible refine N.obl (by decide) ?_ | with_reducible refine N.obl (flat_wi _ _ _) ?_ | with_reducible refine N.obl (flat_lim _ _) ?_ | with_reducible refine N.eq ?_ | with_reducible refine N.obl rfl ?_ | with_reducible refine N.obl ⟨by kernel_rfl, by kernel_rfl⟩ ?_ | with_reducible refine N.alt ?_ | with_reducible refine N.forkT ?_ | with_reducible refine N.forkF ?_ | refine N.goto tysOK mixed ?_ | refine N.forkNo (by decide) ?_ | refine N.forkYes (by decide) ?_)
  all_goals rfl
theorem nReport  (h : List (Option Chunk)) : CallOK Tryz.prog 6 [.pointer none] h (.agg #[.bool false, .int .i64 0, .int .i64 0, .int .i64 0, .int .i64 0, .int .i64 0, .slice none 0 0]) [] [] :=
  call_pure rfl rfl (Tryz.call6 _) (nilReport_x )
set_option maxRecDepth 100000 in
theorem nilTrack_x (a b : Int)  (w : World) : Calls Tryz.prog 7 #[.pointer none, .int .i64 a, .int .i64 b] w fun e w' => e = .returned (.tuple #[.agg #[.int .i64 0, .int .i64 0, .int .i64 0, .int .i64 0, .int .i64 0], .bool false]) ∧ Below w.heap.size w w' := by
  refine calls_pure (G := tys) w tysOK mixed Tryz.func7 (by rfl) (by first | rfl | (simp only [List.all_cons, List.all_nil, plain_wz, plain_lim, plain_wi]; rfl)) (by first | exact plain3_wz _ | exact plain3_wi _ _ _ | rfl | (simp only [plain3, List.all_cons, List.all_nil, plain_wz, plain_lim, plain_wi]; rfl)) ?_
  repeat' (refine N.go ?_; first | with_reducible refine N.obl (by decide) ?_ | with_reducible refine N.obl (flat_wi _ _ _) ?_ | with_reducible refine N.obl (flat_lim _ _) ?_ | with_reducible refine N.eq ?_ | with_reducible refine N.obl rfl ?_ | with_reducible refine N.obl ⟨by kernel_rfl, by kernel_rfl⟩ ?_ | with_reducible refine N.alt ?_ | with_reducible refine N.forkT ?_ | with_reducible refine N.forkF ?_ | refine N.goto tysOK mixed ?_ | refine N.forkNo (by decide) ?_ | refine N.forkYes (by decide) ?_)
  all_goals rfl
theorem nTrack (a b : Int) (h : List (Option Chunk)) : CallOK Tryz.prog 7 [.pointer none, .int .i64 a, .int .i64 b] h (.tuple #[.agg #[.int .i64 0, .int .i64 0, .int .i64 0, .int .i64 0, .int .i64 0], .bool false]) [] [] :=
  call_pure rfl rfl (Tryz.call7 _) (nilTrack_x a b)
set_option maxRecDepth 100000 in
theorem nilTick_x (a b : Int)  (w : World) : Calls Tryz.prog 8 #[.pointer none, .int .i64 a, .int .i64 b] w fun e w' => e = .returned (.slice none 0 0) ∧ Below w.heap.size w w' := by
  refine calls_pure (G := tys) w tysOK mixed Tryz.func8 (by rfl) (by first | rfl | (simp only [List.all_cons, List.all_nil, plain_wz, plain_lim, plain_wi]; rfl)) (by first | exact plain3_wz _ | exact plain3_wi _ _ _ | rfl | (simp only [plain3, List.all_cons, List.all_nil, plain_wz, plain_lim, plain_wi]; rfl)) ?_
  repeat' (refine N.go ?_; first | with_reducible refine N.obl (by decide) ?_ | with_reducible refine N.obl (flat_wi _ _ _) ?_ | with_reducible refine N.obl (flat_lim _ _) ?_ | with_reducible refine N.eq ?_ | with_reducible refine N.obl rfl ?_ | with_reducible refine N.obl ⟨by kernel_rfl, by kernel_rfl⟩ ?_ | with_reducible refine N.alt ?_ | with_reducible refine N.forkT ?_ | with_reducible refine N.forkF ?_ | refine N.goto tysOK mixed ?_ | refine N.forkNo (by decide) ?_ | refine N.forkYes (by decide) ?_)
  all_goals rfl
theorem nTick (a b : Int) (h : List (Option Chunk)) : CallOK Tryz.prog 8 [.pointer none, .int .i64 a, .int .i64 b] h (.slice none 0 0) [] [] :=
  call_pure rfl rfl (Tryz.call8 _) (nilTick_x a b)
set_option maxRecDepth 100000 in
theorem nilLeave_x (a b : Int)  (w : World) : Calls Tryz.prog 9 #[.pointer none, .int .i64 a, .int .i64 b] w fun e w' => e = .returned (.slice none 0 0) ∧ Below w.heap.size w w' := by
  refine calls_pure (G := tys) w tysOK mixed Tryz.func9 (by rfl) (by first | rfl | (simp only [List.all_cons, List.all_nil, plain_wz, plain_lim, plain_wi]; rfl)) (by first | exact plain3_wz _ | exact plain3_wi _ _ _ | rfl | (simp only [plain3, List.all_cons, List.all_nil, plain_wz, plain_lim, plain_wi]; rfl)) ?_
  repeat' (refine N.go ?_; first | with_reducible refine N.obl (by decide) ?_ | with_reducible refine N.obl (flat_wi _ _ _) ?_ | with_reducible refine N.obl (flat_lim _ _) ?_ | with_reducible refine N.eq ?_ | with_reducible refine N.obl rfl ?_ | with_reducible refine N.obl ⟨by kernel_rfl, by kernel_rfl⟩ ?_ | with_reducible refine N.alt ?_ | with_reducible refine N.forkT ?_ | with_reducible refine N.forkF ?_ | refine N.goto tysOK mixed ?_ | refine N.forkNo (by decide) ?_ | refine N.forkYes (by decide) ?_)
  all_goals rfl
theorem nLeave (a b : Int) (h : List (Option Chunk)) : CallOK Tryz.prog 9 [.pointer none, .int .i64 a, .int .i64 b] h (.slice none 0 0) [] [] :=
  call_pure rfl rfl (Tryz.call9 _) (nilLeave_x a b)
set_option maxRecDepth 100000 in
theorem nilBad_x   (w : World) : Calls Tryz.prog 10 #[.pointer none] w fun e w' => e = .returned (.int .i64 0) ∧ Below w.heap.size w w' := by
  refine calls_pure (G := tys) w tysOK mixed Tryz.func10 (by rfl) (by first | rfl | (simp only [List.all_cons, List.all_nil, plain_wz, plain_lim, plain_wi]; rfl)) (by first | exact plain3_wz _ | exact plain3_wi _ _ _ | rfl | (simp only [plain3, List.all_cons, List.all_nil, plain_wz, plain_lim, plain_wi]; rfl)) ?_
  repeat' (refine N.go ?_; first | with_reducible refine N.obl (by decide) ?_ | with_reducible refine N.obl (flat_wi _ _ _) ?_ | with_reducible refine N.obl (flat_lim _ _) ?_ | with_reducible refine N.eq ?_ | with_reducible refine N.obl rfl ?_ | with_reducible refine N.obl ⟨by kernel_rfl, by kernel_rfl⟩ ?_ | with_reducible refine N.alt ?_ | with_reducible refine N.forkT ?_ | with_reducible refine N.forkF ?_ | refine N.goto tysOK mixed ?_ | refine N.forkNo (by decide) ?_ | refine N.forkYes (by decide) ?_)
  all_goals rfl
theorem nBad  (h : List (Option Chunk)) : CallOK Tryz.prog 10 [.pointer none] h (.int .i64 0) [] [] :=
  call_pure rfl rfl (Tryz.call10 _) (nilBad_x )
set_option maxRecDepth 100000 in
theorem nilBoot_x   (w : World) : Calls Tryz.prog 11 #[.pointer none] w fun e w' => e = .returned (.int .i64 0) ∧ Below w.heap.size w w' := by
  refine calls_pure (G := tys) w tysOK mixed Tryz.func11 (by rfl) (by first | rfl | (simp only [List.all_cons, List.all_nil, plain_wz, plain_lim, plain_wi]; rfl)) (by first | exact plain3_wz _ | exact plain3_wi _ _ _ | rfl | (simp only [plain3, List.all_cons, List.all_nil, plain_wz, plain_lim, plain_wi]; rfl)) ?_
  repeat' (refine N.go ?_; first | with_reducible refine N.obl (by decide) ?_ | with_reducible refine N.obl (flat_wi _ _ _) ?_ | with_reducible refine N.obl (flat_lim _ _) ?_ | with_reducible refine N.eq ?_ | with_reducible refine N.obl rfl ?_ | with_reducible refine N.obl ⟨by kernel_rfl, by kernel_rfl⟩ ?_ | with_reducible refine N.alt ?_ | with_reducible refine N.forkT ?_ | with_reducible refine N.forkF ?_ | refine N.goto tysOK mixed ?_ | refine N.forkNo (by decide) ?_ | refine N.forkYes (by decide) ?_)
  all_goals rfl
theorem nBoot  (h : List (Option Chunk)) : CallOK Tryz.prog 11 [.pointer none] h (.int .i64 0) [] [] :=
  call_pure rfl rfl (Tryz.call11 _) (nilBoot_x )
set_option maxRecDepth 100000 in
theorem nilId_x   (w : World) : Calls Tryz.prog 12 #[.pointer none] w fun e w' => e = .returned (.int .i64 0) ∧ Below w.heap.size w w' := by
  refine calls_pure (G := tys) w tysOK mixed Tryz.func12 (by rfl) (by first | rfl | (simp only [List.all_cons, List.all_nil, plain_wz, plain_lim, plain_wi]; rfl)) (by first | exact plain3_wz _ | exact plain3_wi _ _ _ | rfl | (simp only [plain3, List.all_cons, List.all_nil, plain_wz, plain_lim, plain_wi]; rfl)) ?_
  repeat' (refine N.go ?_; first | with_reducible refine N.obl (by decide) ?_ | with_reducible refine N.obl (flat_wi _ _ _) ?_ | with_reducible refine N.obl (flat_lim _ _) ?_ | with_reducible refine N.eq ?_ | with_reducible refine N.obl rfl ?_ | with_reducible refine N.obl ⟨by kernel_rfl, by kernel_rfl⟩ ?_ | with_reducible refine N.alt ?_ | with_reducible refine N.forkT ?_ | with_reducible refine N.forkF ?_ | refine N.goto tysOK mixed ?_ | refine N.forkNo (by decide) ?_ | refine N.forkYes (by decide) ?_)
  all_goals rfl
theorem nId  (h : List (Option Chunk)) : CallOK Tryz.prog 12 [.pointer none] h (.int .i64 0) [] [] :=
  call_pure rfl rfl (Tryz.call12 _) (nilId_x )
set_option maxRecDepth 100000 in
theorem walk0 (x0 x1 x2 x3 x4 x5 x6 x7 x8 x9 x10 x11 x12 x13 x14 x15 x16 x17 x18 x19 x20 k : Int) (l q : Nat) (w : World) :
    Calls Tryz.prog 3 #[.agg #[.int .i64 x0, .int .i64 x1, .int .i64 x2, .int .i64 x3, .int .i64 x4, .int .i64 x5, .int .i64 x6, .int .i64 x7, .int .i64 x8, .int .i64 x9, .int .i64 x10, .int .i64 x11, .int .i64 x12, .int .i64 x13, .int .i64 x14, .int .i64 x15, .int .i64 x16, .int .i64 x17, .int .i64 x18, .int .i64 x19, .int .i64 x20, .slice none l q], .int .i64 k] w fun o w' => o = .returned (.bool true) ∧ Below w.heap.size w w' := by
  refine calls_pure (G := tys) w tysOK mixed Tryz.func3 (by rfl) (by rfl) (by rfl) ?_
  repeat' (refine N.go ?_; first | with_reducible refine N.obl (by decide) ?_ | with_reducible refine N.obl (flat_wi _ _ _) ?_ | with_reducible refine N.obl (flat_lim _ _) ?_ | with_reducible refine N.eq ?_ | with_reducible refine N.obl rfl ?_ | with_reducible refine N.obl ⟨by kernel_rfl, by kernel_rfl⟩ ?_ | with_reducible refine N.alt ?_ | with_reducible refine N.forkT ?_ | with_reducible refine N.forkF ?_ | with_reducible refine N.call (nMove _ _ _) ?_ | with_reducible refine N.call (nHear _ _ _ _ _ _) ?_ | with_reducible refine N.call (nHear' _ _ _ _ _ _ _ _) ?_ | with_reducible refine N.call (nReport  _) ?_ | with_reducible refine N.call (nTrack _ _ _) ?_ | with_reducible refine N.call (nTick _ _ _) ?_ | with_reducible refine N.call (nLeave _ _ _) ?_ | with_reducible refine N.call (nBad  _) ?_ | with_reducible refine N.call (nBoot  _) ?_ | with_reducible refine N.call (nId  _) ?_ | with_reducible refine N.call (cAwakeN _) ?_ | refine N.forkNo (by decide) ?_ | refine N.forkYes (by decide) ?_)
  all_goals rfl
set_option maxRecDepth 100000 in
theorem walk1 (x0 x1 x2 x3 x4 x5 x6 x7 x8 x9 x10 x11 x12 x13 x14 x15 x16 x17 x18 x19 x20 k : Int) (b o l q : Nat) (w : World) :
    Calls Tryz.prog 3 #[.agg #[.int .i64 x0, .int .i64 x1, .int .i64 x2, .int .i64 x3, .int .i64 x4, .int .i64 x5, .int .i64 x6, .int .i64 x7, .int .i64 x8, .int .i64 x9, .int .i64 x10, .int .i64 x11, .int .i64 x12, .int .i64 x13, .int .i64 x14, .int .i64 x15, .int .i64 x16, .int .i64 x17, .int .i64 x18, .int .i64 x19, .int .i64 x20, .slice (some ⟨b, o, none⟩) l q], .int .i64 k] w fun o w' => o = .returned (.bool true) ∧ Below w.heap.size w w' := by
  refine calls_pure (G := tys) w tysOK mixed Tryz.func3 (by rfl) (by rfl) (by rfl) ?_
  repeat' (refine N.go ?_; first | with_reducible refine N.obl (by decide) ?_ | with_reducible refine N.obl (flat_wi _ _ _) ?_ | with_reducible refine N.obl (flat_lim _ _) ?_ | with_reducible refine N.eq ?_ | with_reducible refine N.obl rfl ?_ | with_reducible refine N.obl ⟨by kernel_rfl, by kernel_rfl⟩ ?_ | with_reducible refine N.alt ?_ | with_reducible refine N.forkT ?_ | with_reducible refine N.forkF ?_ | with_reducible refine N.call (nMove _ _ _) ?_ | with_reducible refine N.call (nHear _ _ _ _ _ _) ?_ | with_reducible refine N.call (nHear' _ _ _ _ _ _ _ _) ?_ | with_reducible refine N.call (nReport  _) ?_ | with_reducible refine N.call (nTrack _ _ _) ?_ | with_reducible refine N.call (nTick _ _ _) ?_ | with_reducible refine N.call (nLeave _ _ _) ?_ | with_reducible refine N.call (nBad  _) ?_ | with_reducible refine N.call (nBoot  _) ?_ | with_reducible refine N.call (nId  _) ?_ | with_reducible refine N.call (cAwakeN _) ?_ | refine N.forkNo (by decide) ?_ | refine N.forkYes (by decide) ?_)
  all_goals rfl
theorem cell_int {P : Program} {W : World} {r : Reach} {base : Nat} {t : TypeId} {k : IntKind} {v : Value} (ht : P.underlying t = some (.int k)) (h : Cell.okWide P W r base t v) : ∃ n : Int, v = .int k n ∧ k.has n := by
  simp only [Cell.okWide, ht, Cell.ok] at h
  split at h
  all_goals simp_all
theorem cell_bool {P : Program} {W : World} {r : Reach} {base : Nat} {t : TypeId} {v : Value} (ht : P.underlying t = some .bool) (h : Cell.okWide P W r base t v) : ∃ b : Bool, v = .bool b := by
  simp only [Cell.okWide, ht, Cell.ok] at h
  split at h
  all_goals simp_all
theorem cell_slice {P : Program} {W : World} {r : Reach} {base : Nat} {t e : TypeId} {v : Value} (ht : P.underlying t = some (.slice e)) (h : Cell.okWide P W r base t v) : v = .slice none 0 0 ∨ ∃ b o l q : Nat, v = .slice (some ⟨b, o, none⟩) l q := by
  simp only [Cell.okWide, ht, Cell.ok] at h
  split at h
  all_goals first | (left; simp_all; done) | (rename_i a l q _; obtain ⟨b, o, s⟩ := a; have := h.2.2.2.1; subst this; exact .inr ⟨b, o, _, _, rfl⟩) | simp_all
set_option maxRecDepth 100000 in
theorem open_call {W : World} {r : Reach} {base : Nat} {v : Value} (hv : Value.okWide Tryz.prog W r base 32 v) :
    ∃ (x0 x1 x2 x3 x4 x5 x6 x7 x8 x9 x10 x11 x12 x13 x14 x15 x16 x17 x18 x19 x20 : Int) (D : Value), (D = .slice none 0 0 ∨ ∃ b o l q : Nat, D = .slice (some ⟨b, o, none⟩) l q) ∧ v = .agg #[.int .i64 x0, .int .i64 x1, .int .i64 x2, .int .i64 x3, .int .i64 x4, .int .i64 x5, .int .i64 x6, .int .i64 x7, .int .i64 x8, .int .i64 x9, .int .i64 x10, .int .i64 x11, .int .i64 x12, .int .i64 x13, .int .i64 x14, .int .i64 x15, .int .i64 x16, .int .i64 x17, .int .i64 x18, .int .i64 x19, .int .i64 x20, D] := by
  have hw : ∃ cs, v = .agg cs ∧ cs.size = Tryz.prog.cellsOf 32 ∧ Row.okWide Tryz.prog W r base 32 cs := by
    have hu := @Tryz.underlying32
    unfold Value.okWide at hv
    rw [hu] at hv
    exact hv
  obtain ⟨cs, rfl, hs, ts, hts, _, hc⟩ := hw
  have hs2 : cs.size = 22 := hs.trans (by kernel_rfl)
  have hts2 : Tryz.prog.cellTypes Tryz.prog.depth 32 = some [3, 2, 2, 2, 2, 2, 3, 3, 3, 3, 2, 3, 2, 2, 3, 2, 2, 2, 2, 2, 2, 30] := by kernel_rfl
  obtain rfl := Option.some.inj (hts2.symm.trans hts)
  obtain ⟨l⟩ := cs
  match l, hs2 with
  | [c0, c1, c2, c3, c4, c5, c6, c7, c8, c9, c10, c11, c12, c13, c14, c15, c16, c17, c18, c19, c20, c21], _ =>
    obtain ⟨u0, e0, o0⟩ := hc 0 c0 rfl
    obtain rfl := Option.some.inj e0
    obtain ⟨u1, e1, o1⟩ := hc 1 c1 rfl
    obtain rfl := Option.some.inj e1
    obtain ⟨u2, e2, o2⟩ := hc 2 c2 rfl
    obtain rfl := Option.some.inj e2
    obtain ⟨u3, e3, o3⟩ := hc 3 c3 rfl
    obtain rfl := Option.some.inj e3
    obtain ⟨u4, e4, o4⟩ := hc 4 c4 rfl
    obtain rfl := Option.some.inj e4
    obtain ⟨u5, e5, o5⟩ := hc 5 c5 rfl
    obtain rfl := Option.some.inj e5
    obtain ⟨u6, e6, o6⟩ := hc 6 c6 rfl
    obtain rfl := Option.some.inj e6
    obtain ⟨u7, e7, o7⟩ := hc 7 c7 rfl
    obtain rfl := Option.some.inj e7
    obtain ⟨u8, e8, o8⟩ := hc 8 c8 rfl
    obtain rfl := Option.some.inj e8
    obtain ⟨u9, e9, o9⟩ := hc 9 c9 rfl
    obtain rfl := Option.some.inj e9
    obtain ⟨u10, e10, o10⟩ := hc 10 c10 rfl
    obtain rfl := Option.some.inj e10
    obtain ⟨u11, e11, o11⟩ := hc 11 c11 rfl
    obtain rfl := Option.some.inj e11
    obtain ⟨u12, e12, o12⟩ := hc 12 c12 rfl
    obtain rfl := Option.some.inj e12
    obtain ⟨u13, e13, o13⟩ := hc 13 c13 rfl
    obtain rfl := Option.some.inj e13
    obtain ⟨u14, e14, o14⟩ := hc 14 c14 rfl
    obtain rfl := Option.some.inj e14
    obtain ⟨u15, e15, o15⟩ := hc 15 c15 rfl
    obtain rfl := Option.some.inj e15
    obtain ⟨u16, e16, o16⟩ := hc 16 c16 rfl
    obtain rfl := Option.some.inj e16
    obtain ⟨u17, e17, o17⟩ := hc 17 c17 rfl
    obtain rfl := Option.some.inj e17
    obtain ⟨u18, e18, o18⟩ := hc 18 c18 rfl
    obtain rfl := Option.some.inj e18
    obtain ⟨u19, e19, o19⟩ := hc 19 c19 rfl
    obtain rfl := Option.some.inj e19
    obtain ⟨u20, e20, o20⟩ := hc 20 c20 rfl
    obtain rfl := Option.some.inj e20
    obtain ⟨u21, e21, o21⟩ := hc 21 c21 rfl
    obtain rfl := Option.some.inj e21
    obtain ⟨x0, rfl, _⟩ := cell_int Tryz.underlying3 o0
    obtain ⟨x1, rfl, _⟩ := cell_int Tryz.underlying2 o1
    obtain ⟨x2, rfl, _⟩ := cell_int Tryz.underlying2 o2
    obtain ⟨x3, rfl, _⟩ := cell_int Tryz.underlying2 o3
    obtain ⟨x4, rfl, _⟩ := cell_int Tryz.underlying2 o4
    obtain ⟨x5, rfl, _⟩ := cell_int Tryz.underlying2 o5
    obtain ⟨x6, rfl, _⟩ := cell_int Tryz.underlying3 o6
    obtain ⟨x7, rfl, _⟩ := cell_int Tryz.underlying3 o7
    obtain ⟨x8, rfl, _⟩ := cell_int Tryz.underlying3 o8
    obtain ⟨x9, rfl, _⟩ := cell_int Tryz.underlying3 o9
    obtain ⟨x10, rfl, _⟩ := cell_int Tryz.underlying2 o10
    obtain ⟨x11, rfl, _⟩ := cell_int Tryz.underlying3 o11
    obtain ⟨x12, rfl, _⟩ := cell_int Tryz.underlying2 o12
    obtain ⟨x13, rfl, _⟩ := cell_int Tryz.underlying2 o13
    obtain ⟨x14, rfl, _⟩ := cell_int Tryz.underlying3 o14
    obtain ⟨x15, rfl, _⟩ := cell_int Tryz.underlying2 o15
    obtain ⟨x16, rfl, _⟩ := cell_int Tryz.underlying2 o16
    obtain ⟨x17, rfl, _⟩ := cell_int Tryz.underlying2 o17
    obtain ⟨x18, rfl, _⟩ := cell_int Tryz.underlying2 o18
    obtain ⟨x19, rfl, _⟩ := cell_int Tryz.underlying2 o19
    obtain ⟨x20, rfl, _⟩ := cell_int Tryz.underlying2 o20
    have hD := cell_slice Tryz.underlying30 o21
    exact ⟨x0, x1, x2, x3, x4, x5, x6, x7, x8, x9, x10, x11, x12, x13, x14, x15, x16, x17, x18, x19, x20, c21, hD, rfl⟩
theorem walk (x0 x1 x2 x3 x4 x5 x6 x7 x8 x9 x10 x11 x12 x13 x14 x15 x16 x17 x18 x19 x20 k : Int) (D : Value) (hD : D = .slice none 0 0 ∨ ∃ b o l q : Nat, D = .slice (some ⟨b, o, none⟩) l q) (w : World) :
    Calls Tryz.prog 3 #[.agg #[.int .i64 x0, .int .i64 x1, .int .i64 x2, .int .i64 x3, .int .i64 x4, .int .i64 x5, .int .i64 x6, .int .i64 x7, .int .i64 x8, .int .i64 x9, .int .i64 x10, .int .i64 x11, .int .i64 x12, .int .i64 x13, .int .i64 x14, .int .i64 x15, .int .i64 x16, .int .i64 x17, .int .i64 x18, .int .i64 x19, .int .i64 x20, D], .int .i64 k] w fun o w' => o = .returned (.bool true) ∧ Below w.heap.size w w' := by
  rcases hD with rfl | ⟨b, o, l, q, rfl⟩
  · exact walk0 x0 x1 x2 x3 x4 x5 x6 x7 x8 x9 x10 x11 x12 x13 x14 x15 x16 x17 x18 x19 x20 k 0 0 w
  · exact walk1 x0 x1 x2 x3 x4 x5 x6 x7 x8 x9 x10 x11 x12 x13 x14 x15 x16 x17 x18 x19 x20 k b o l q w
set_option maxRecDepth 100000 in
theorem lifted (os : Os) (started : os.Started) (H : Type) (enc : TypeId × Value → H) :
    ReturnsInHanded {} Tryz.checked os 3 .any (Rows.nodeNilSpec.pre6 enc Tryz.prog Tryz.f3 Rows.nodeNilRow.domain false) (Rows.nodeNilSpec.post enc Tryz.prog Tryz.f3 false true false false) := by
  refine law_lifted (C := Tryz.checked) (tb := 4) Tryz.own started (by kernel_rfl) Tryz.func3 Tryz.laidOut (by kernel_rfl) rfl Tryz.underlying4 rfl
    (fun ds hds => by match ds, hds with | [_, _], _ => rfl)
    (ChangeSpec.witness6 (enc := enc) (C := Tryz.checked) false ⟨#[], #[.agg #[.int .i64 0, .int .i64 0, .int .i64 0, .int .i64 0, .int .i64 0, .int .i64 0, .int .i64 0, .int .i64 0, .int .i64 0, .int .i64 0, .int .i64 0, .int .i64 0, .int .i64 0, .int .i64 0, .int .i64 0, .int .i64 0, .int .i64 0, .int .i64 0, .int .i64 0, .int .i64 0, .int .i64 0, .slice none 0 0], .int .i64 0], []⟩ 8 (by kernel_rfl) (by kernel_rfl) (by kernel_rfl) (by kernel_rfl)) ?_
  intro W base args ds p hval0 hA0 hsz0
  have hval : ∀ (j : Nat) t v, Tryz.f3.params[j]? = some t → args[j]? = some v → Value.okWide Tryz.prog W .any base t v := hval0
  have hA : DataW.TrodAll enc Tryz.prog W 0 (fun _ => true) true Tryz.f3.params.toList args.toList ds p := hA0
  have hsz : (DataW.weightsEach Tryz.prog Tryz.f3.params.toList ds).all (· ≤ reachBytes) = true := hsz0
  rw [Tryz.params3] at hA hval hsz
  obtain ⟨v0, vs0, d0, ds0, p0, q0, hargs, rfl, rfl, h0, r0⟩ := trodAll_cons hA
  obtain ⟨v1, vs1, d1, ds1, p1, q1, rfl, rfl, rfl, h1, r1⟩ := trodAll_cons r0
  obtain ⟨rfl, rfl, rfl⟩ := trodAll_nil r1
  obtain rfl : args = #[v0, v1] := by cases args; simp_all
  obtain ⟨a1, rfl, rfl, rfl, w1⟩ := open_int Tryz.underlying3 (hval 1 _ v1 rfl rfl) h1
  obtain ⟨x0, x1, x2, x3, x4, x5, x6, x7, x8, x9, x10, x11, x12, x13, x14, x15, x16, x17, x18, x19, x20, D, hD, rfl⟩ := open_call (hval 0 _ v0 rfl rfl)
  exact walk x0 x1 x2 x3 x4 x5 x6 x7 x8 x9 x10 x11 x12 x13 x14 x15 x16 x17 x18 x19 x20 a1 D hD W

theorem proved : Rows.NodeNilSaid :=
  OpenClaim.holds_of_wide 3 Tryz.f3 rfl rfl rfl rfl rfl rfl rfl ⟨rfl, rfl, rfl, rfl, rfl⟩ rfl rfl rfl rfl rfl (by kernel_rfl) Tryz.func3 (by kernel_rfl)
    (of_decide_eq_true (by kernel_rfl)) (by unfold Func.isWrapper; rw [if_neg (by decide +kernel)]; exact ⟨rfl, rfl⟩)
    (fun os started H enc _ => lifted os started H enc)
#print axioms proved
end Go.Proofs.YtijiggkhnpmaiaaGreat.nodeNil
