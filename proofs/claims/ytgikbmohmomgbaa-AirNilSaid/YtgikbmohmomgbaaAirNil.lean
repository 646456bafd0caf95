/-
  AirNil: the law's walk and its frame.
-/
import Derived.Test.YtgikbmohmomgbaaAir1
import Derived.Test.YtgikbmohmomgbaaRows
set_option linter.unusedVariables false
set_option linter.unusedSimpArgs false
namespace Go.Proofs.Ytgikbmohmomgbaa.airNil
open Go Go.ChangeShapes Go.WideShapes Go.ChangeAt Go.RowKit Sx
set_option maxRecDepth 100000 in
theorem nilLen_x   (w : World) : Calls Try.prog 12 #[.pointer none] w fun e w' => e = .returned (.int .i64 0) ∧ Below w.heap.size w w' := by
  refine calls_pure (G := tys) w tysOK mixed Try.func12 (by rfl) (by first | rfl | (simp only [List.all_cons, List.all_nil, plain_wz, plain_lim, plain_wi]; rfl)) (by first | exact plain3_wz _ | exact plain3_wi _ _ _ | rfl | (simp only [plain3, List.all_cons, List.all_nil, plain_wz, plain_lim, plain_wi]; rfl)) ?_
  repeat' (refine N.go ?_; first | with_reducible refine N.obl (by decide) ?_ | with_reducible refine N.obl (flat_wi _ _ _) ?_ | with_reducible refine N.obl (flat_lim _ _) ?_ | with_reducible refine N.eq ?_ | with_reducible refine N.obl rfl ?_ | with_reducible refine N.obl ⟨by kernel_rfl, by kernel_rfl⟩ ?_ | with_reducible refine N.forkT ?_ | with_reducible refine N.forkF ?_ | refine N.forkNo (by decide) ?_ | refine N.forkYes (by decide) ?_)
  all_goals first | rfl | (exfalso; simp only [decide_eq_false_iff_not] at *; omega)
theorem nLen  (h : List (Option Chunk)) : CallOK Try.prog 12 [.pointer none] h (.int .i64 0) [] [] :=
  call_pure rfl rfl (Try.call12 _) (nilLen_x )
set_option maxRecDepth 100000 in
theorem nilGet_x (a : Int)  (w : World) : Calls Try.prog 13 #[.pointer none, .int .i64 a] w fun e w' => e = .returned (.tuple #[.agg #[.int .i64 0, .slice none 0 0, .int .i64 0, .int .i64 0, .bool false], .bool false]) ∧ Below w.heap.size w w' := by
  refine calls_pure (G := tys) w tysOK mixed Try.func13 (by rfl) (by first | rfl | (simp only [List.all_cons, List.all_nil, plain_wz, plain_lim, plain_wi]; rfl)) (by first | exact plain3_wz _ | exact plain3_wi _ _ _ | rfl | (simp only [plain3, List.all_cons, List.all_nil, plain_wz, plain_lim, plain_wi]; rfl)) ?_
  repeat' (refine N.go ?_; first | with_reducible refine N.obl (by decide) ?_ | with_reducible refine N.obl (flat_wi _ _ _) ?_ | with_reducible refine N.obl (flat_lim _ _) ?_ | with_reducible refine N.eq ?_ | with_reducible refine N.obl rfl ?_ | with_reducible refine N.obl ⟨by kernel_rfl, by kernel_rfl⟩ ?_ | with_reducible refine N.forkT ?_ | with_reducible refine N.forkF ?_ | with_reducible refine N.call (nLen  _) ?_ | refine N.forkNo (by decide) ?_ | refine N.forkYes (by decide) ?_ | refine N.fork (fun hb => ?_) (fun hb => ?_))
  all_goals first | rfl | (exfalso; simp only [decide_eq_false_iff_not] at *; omega)
theorem nGet (a : Int) (h : List (Option Chunk)) : CallOK Try.prog 13 [.pointer none, .int .i64 a] h (.tuple #[.agg #[.int .i64 0, .slice none 0 0, .int .i64 0, .int .i64 0, .bool false], .bool false]) [] [] :=
  call_pure rfl rfl (Try.call13 _) (nilGet_x a)
set_option maxRecDepth 100000 in
theorem nilTake_x (a : Int)  (w : World) : Calls Try.prog 15 #[.pointer none, .int .i64 a] w fun e w' => e = .returned (.tuple #[.agg #[.int .i64 0, .slice none 0 0, .int .i64 0, .int .i64 0, .bool false], .bool false]) ∧ Below w.heap.size w w' := by
  refine calls_pure (G := tys) w tysOK mixed Try.func15 (by rfl) (by first | rfl | (simp only [List.all_cons, List.all_nil, plain_wz, plain_lim, plain_wi]; rfl)) (by first | exact plain3_wz _ | exact plain3_wi _ _ _ | rfl | (simp only [plain3, List.all_cons, List.all_nil, plain_wz, plain_lim, plain_wi]; rfl)) ?_
  repeat' (refine N.go ?_; first | with_reducible refine N.obl (by decide) ?_ | with_reducible refine N.obl (flat_wi _ _ _) ?_ | with_reducible refine N.obl (flat_lim _ _) ?_ | with_reducible refine N.eq ?_ | with_reducible refine N.obl rfl ?_ | with_reducible refine N.obl ⟨by kernel_rfl, by kernel_rfl⟩ ?_ | with_reducible refine N.forkT ?_ | with_reducible refine N.forkF ?_ | with_reducible refine N.call (nLen  _) ?_ | with_reducible refine N.call (nGet _ _) ?_ | refine N.forkNo (by decide) ?_ | refine N.forkYes (by decide) ?_)
  all_goals first | rfl | (exfalso; simp only [decide_eq_false_iff_not] at *; omega)
theorem nTake (a : Int) (h : List (Option Chunk)) : CallOK Try.prog 15 [.pointer none, .int .i64 a] h (.tuple #[.agg #[.int .i64 0, .slice none 0 0, .int .i64 0, .int .i64 0, .bool false], .bool false]) [] [] :=
  call_pure rfl rfl (Try.call15 _) (nilTake_x a)
set_option maxRecDepth 100000 in
theorem nilDouble_x (a : Int)  (w : World) : Calls Try.prog 10 #[.pointer none, .int .i64 a] w fun e w' => e = .returned (.bool false) ∧ Below w.heap.size w w' := by
  refine calls_pure (G := tys) w tysOK mixed Try.func10 (by rfl) (by first | rfl | (simp only [List.all_cons, List.all_nil, plain_wz, plain_lim, plain_wi]; rfl)) (by first | exact plain3_wz _ | exact plain3_wi _ _ _ | rfl | (simp only [plain3, List.all_cons, List.all_nil, plain_wz, plain_lim, plain_wi]; rfl)) ?_
  repeat' (refine N.go ?_; first | with_reducible refine N.obl (by decide) ?_ | with_reducible refine N.obl (flat_wi _ _ _) ?_ | with_reducible refine N.obl (flat_lim _ _) ?_ | with_reducible refine N.eq ?_ | with_reducible refine N.obl rfl ?_ | with_reducible refine N.obl ⟨by kernel_rfl, by kernel_rfl⟩ ?_ | with_reducible refine N.forkT ?_ | with_reducible refine N.forkF ?_ | with_reducible refine N.call (nLen  _) ?_ | with_reducible refine N.call (nGet _ _) ?_ | with_reducible refine N.call (nTake _ _) ?_ | refine N.forkNo (by decide) ?_ | refine N.forkYes (by decide) ?_)
  all_goals first | rfl | (exfalso; simp only [decide_eq_false_iff_not] at *; omega)
theorem nDouble (a : Int) (h : List (Option Chunk)) : CallOK Try.prog 10 [.pointer none, .int .i64 a] h (.bool false) [] [] :=
  call_pure rfl rfl (Try.call10 _) (nilDouble_x a)
set_option maxRecDepth 100000 in
theorem nilBend_x (a b c : Int)  (w : World) : Calls Try.prog 11 #[.pointer none, .int .i64 a, .int .i64 b, .int .u8 c] w fun e w' => e = .returned (.int .i64 1) ∧ Below w.heap.size w w' := by
  refine calls_pure (G := tys) w tysOK mixed Try.func11 (by rfl) (by first | rfl | (simp only [List.all_cons, List.all_nil, plain_wz, plain_lim, plain_wi]; rfl)) (by first | exact plain3_wz _ | exact plain3_wi _ _ _ | rfl | (simp only [plain3, List.all_cons, List.all_nil, plain_wz, plain_lim, plain_wi]; rfl)) ?_
  repeat' (refine N.go ?_; first | with_reducible refine N.obl (by decide) ?_ | with_reducible refine N.obl (flat_wi _ _ _) ?_ | with_reducible refine N.obl (flat_lim _ _) ?_ | with_reducible refine N.eq ?_ | with_reducible refine N.obl rfl ?_ | with_reducible refine N.obl ⟨by kernel_rfl, by kernel_rfl⟩ ?_ | with_reducible refine N.forkT ?_ | with_reducible refine N.forkF ?_ | with_reducible refine N.call (nLen  _) ?_ | with_reducible refine N.call (nGet _ _) ?_ | with_reducible refine N.call (nTake _ _) ?_ | with_reducible refine N.call (nDouble _ _) ?_ | refine N.forkNo (by decide) ?_ | refine N.forkYes (by decide) ?_)
  all_goals first | rfl | (exfalso; simp only [decide_eq_false_iff_not] at *; omega)
theorem nBend (a b c : Int) (h : List (Option Chunk)) : CallOK Try.prog 11 [.pointer none, .int .i64 a, .int .i64 b, .int .u8 c] h (.int .i64 1) [] [] :=
  call_pure rfl rfl (Try.call11 _) (nilBend_x a b c)
set_option maxRecDepth 100000 in
theorem nilPut_x (c e f : Int) (g : Bool) (l q : Nat)  (w : World) : Calls Try.prog 9 #[.pointer none, .agg #[.int .i64 c, .slice none l q, .int .i64 e, .int .i64 f, .bool g]] w fun e w' => e = .returned (.bool false) ∧ Below w.heap.size w w' := by
  refine calls_pure (G := tys) w tysOK mixed Try.func9 (by rfl) (by first | rfl | (simp only [List.all_cons, List.all_nil, plain_wz, plain_lim, plain_wi]; rfl)) (by first | exact plain3_wz _ | exact plain3_wi _ _ _ | rfl | (simp only [plain3, List.all_cons, List.all_nil, plain_wz, plain_lim, plain_wi]; rfl)) ?_
  repeat' (refine N.go ?_; first | with_reducible refine N.obl (by decide) ?_ | with_reducible refine N.obl (flat_wi _ _ _) ?_ | with_reducible refine N.obl (flat_lim _ _) ?_ | with_reducible refine N.eq ?_ | with_reducible refine N.obl rfl ?_ | with_reducible refine N.obl ⟨by kernel_rfl, by kernel_rfl⟩ ?_ | with_reducible refine N.forkT ?_ | with_reducible refine N.forkF ?_ | with_reducible refine N.call (nLen  _) ?_ | with_reducible refine N.call (nGet _ _) ?_ | with_reducible refine N.call (nTake _ _) ?_ | with_reducible refine N.call (nDouble _ _) ?_ | with_reducible refine N.call (nBend _ _ _ _) ?_ | refine N.forkNo (by decide) ?_ | refine N.forkYes (by decide) ?_)
  all_goals first | rfl | (exfalso; simp only [decide_eq_false_iff_not] at *; omega)
theorem nPut (c e f : Int) (g : Bool) (l q : Nat) (h : List (Option Chunk)) : CallOK Try.prog 9 [.pointer none, .agg #[.int .i64 c, .slice none l q, .int .i64 e, .int .i64 f, .bool g]] h (.bool false) [] [] :=
  call_pure rfl rfl (Try.call9 _) (nilPut_x c e f g l q)
set_option maxRecDepth 100000 in
theorem nilPut'_x (c e f : Int) (g : Bool) (b o l q : Nat)  (w : World) : Calls Try.prog 9 #[.pointer none, .agg #[.int .i64 c, .slice (some ⟨b, o, none⟩) l q, .int .i64 e, .int .i64 f, .bool g]] w fun e w' => e = .returned (.bool false) ∧ Below w.heap.size w w' := by
  refine calls_pure (G := tys) w tysOK mixed Try.func9 (by rfl) (by first | rfl | (simp only [List.all_cons, List.all_nil, plain_wz, plain_lim, plain_wi]; rfl)) (by first | exact plain3_wz _ | exact plain3_wi _ _ _ | rfl | (simp only [plain3, List.all_cons, List.all_nil, plain_wz, plain_lim, plain_wi]; rfl)) ?_
  repeat' (refine N.go ?_; first | with_reducible refine N.obl (by decide) ?_ | with_reducible refine N.obl (flat_wi _ _ _) ?_ | with_reducible refine N.obl (flat_lim _ _) ?_ | with_reducible refine N.eq ?_ | with_reducible refine N.obl rfl ?_ | with_reducible refine N.obl ⟨by kernel_rfl, by kernel_rfl⟩ ?_ | with_reducible refine N.forkT ?_ | with_reducible refine N.forkF ?_ | with_reducible refine N.call (nLen  _) ?_ | with_reducible refine N.call (nGet _ _) ?_ | with_reducible refine N.call (nTake _ _) ?_ | with_reducible refine N.call (nDouble _ _) ?_ | with_reducible refine N.call (nBend _ _ _ _) ?_ | with_reducible refine N.call (nPut _ _ _ _ _ _ _) ?_ | refine N.forkNo (by decide) ?_ | refine N.forkYes (by decide) ?_)
  all_goals first | rfl | (exfalso; simp only [decide_eq_false_iff_not] at *; omega)
theorem nPut' (c e f : Int) (g : Bool) (b o l q : Nat) (h : List (Option Chunk)) : CallOK Try.prog 9 [.pointer none, .agg #[.int .i64 c, .slice (some ⟨b, o, none⟩) l q, .int .i64 e, .int .i64 f, .bool g]] h (.bool false) [] [] :=
  call_pure rfl rfl (Try.call9 _) (nilPut'_x c e f g b o l q)
set_option maxRecDepth 100000 in
theorem walk0 (a0 a1 a2 a3 c e f : Int) (g : Bool) (l q : Nat) (w : World) :
    Calls Try.prog 5 #[.agg #[.int .i64 a0, .int .i64 a1, .int .i64 a2, .int .u8 a3, .int .i64 c, .slice none l q, .int .i64 e, .int .i64 f, .bool g]] w fun o w' => o = .returned (.bool true) ∧ Below w.heap.size w w' := by
  refine calls_pure (G := tys) w tysOK mixed Try.func5 (by rfl) (by rfl) (by rfl) ?_
  repeat' (refine N.go ?_; first | with_reducible refine N.obl (by decide) ?_ | with_reducible refine N.obl (flat_wi _ _ _) ?_ | with_reducible refine N.obl (flat_lim _ _) ?_ | with_reducible refine N.eq ?_ | with_reducible refine N.obl rfl ?_ | with_reducible refine N.obl ⟨by kernel_rfl, by kernel_rfl⟩ ?_ | with_reducible refine N.forkT ?_ | with_reducible refine N.forkF ?_ | with_reducible refine N.call (nLen  _) ?_ | with_reducible refine N.call (nGet _ _) ?_ | with_reducible refine N.call (nTake _ _) ?_ | with_reducible refine N.call (nDouble _ _) ?_ | with_reducible refine N.call (nBend _ _ _ _) ?_ | with_reducible refine N.call (nPut _ _ _ _ _ _ _) ?_ | with_reducible refine N.call (nPut' _ _ _ _ _ _ _ _ _) ?_ | with_reducible refine N.call (cAwake23 _) ?_ | refine N.forkNo (by decide) ?_ | refine N.forkYes (by decide) ?_)
  all_goals rfl
set_option maxRecDepth 100000 in
theorem walk1 (a0 a1 a2 a3 c e f : Int) (g : Bool) (b o l q : Nat) (w : World) :
    Calls Try.prog 5 #[.agg #[.int .i64 a0, .int .i64 a1, .int .i64 a2, .int .u8 a3, .int .i64 c, .slice (some ⟨b, o, none⟩) l q, .int .i64 e, .int .i64 f, .bool g]] w fun o w' => o = .returned (.bool true) ∧ Below w.heap.size w w' := by
  refine calls_pure (G := tys) w tysOK mixed Try.func5 (by rfl) (by rfl) (by rfl) ?_
  repeat' (refine N.go ?_; first | with_reducible refine N.obl (by decide) ?_ | with_reducible refine N.obl (flat_wi _ _ _) ?_ | with_reducible refine N.obl (flat_lim _ _) ?_ | with_reducible refine N.eq ?_ | with_reducible refine N.obl rfl ?_ | with_reducible refine N.obl ⟨by kernel_rfl, by kernel_rfl⟩ ?_ | with_reducible refine N.forkT ?_ | with_reducible refine N.forkF ?_ | with_reducible refine N.call (nLen  _) ?_ | with_reducible refine N.call (nGet _ _) ?_ | with_reducible refine N.call (nTake _ _) ?_ | with_reducible refine N.call (nDouble _ _) ?_ | with_reducible refine N.call (nBend _ _ _ _) ?_ | with_reducible refine N.call (nPut _ _ _ _ _ _ _) ?_ | with_reducible refine N.call (nPut' _ _ _ _ _ _ _ _ _) ?_ | with_reducible refine N.call (cAwake23 _) ?_ | refine N.forkNo (by decide) ?_ | refine N.forkYes (by decide) ?_)
  all_goals rfl
theorem cell_int {P : Program} {W : World} {r : Reach} {base : Nat} {t : TypeId} {k : IntKind} {v : Value} (ht : P.underlying t = some (.int k)) (h : Cell.okWide P W r base t v) : ∃ n : Int, v = .int k n ∧ k.has n := by
  simp only [Cell.okWide, ht, Cell.ok] at h
  split at h
  all_goals simp_all
theorem cell_bool {P : Program} {W : World} {r : Reach} {base : Nat} {t : TypeId} {v : Value} (ht : P.underlying t = some .bool) (h : Cell.okWide P W r base t v) : ∃ b : Bool, v = .bool b := by
  simp only [Cell.okWide, ht, Cell.ok] at h
  split at h
  all_goals simp_all
theorem cell_slice {P : Program} {W : World} {r : Reach} {base : Nat} {t e : TypeId} {v : Value} (ht : P.underlying t = some (.slice e)) (h : Cell.okWide P W r base t v) : v = .slice none 0 0 ∨ ∃ b o l q : Nat, v = .slice (some ⟨b, o, none⟩) l q := by
  simp only [Cell.okWide, ht, Cell.ok] at h
  split at h
  all_goals first | (left; simp_all; done) | (rename_i a l q _; obtain ⟨b, o, s⟩ := a; have := h.2.2.2.1; subst this; exact .inr ⟨b, o, _, _, rfl⟩) | simp_all
set_option maxRecDepth 100000 in
theorem open_call {W : World} {r : Reach} {base : Nat} {v : Value} (hv : Value.okWide Try.prog W r base 44 v) :
    ∃ (a0 a1 a2 a3 c e f : Int) (g : Bool) (D : Value), (D = .slice none 0 0 ∨ ∃ b o l q : Nat, D = .slice (some ⟨b, o, none⟩) l q) ∧ v = .agg #[.int .i64 a0, .int .i64 a1, .int .i64 a2, .int .u8 a3, .int .i64 c, D, .int .i64 e, .int .i64 f, .bool g] := by
  have hw : ∃ cs, v = .agg cs ∧ cs.size = Try.prog.cellsOf 44 ∧ Row.okWide Try.prog W r base 44 cs := by
    have hu := @Try.underlying44
    unfold Value.okWide at hv
    rw [hu] at hv
    exact hv
  obtain ⟨cs, rfl, hs, ts, hts, _, hc⟩ := hw
  have hs2 : cs.size = 9 := hs.trans (by kernel_rfl)
  have hts2 : Try.prog.cellTypes Try.prog.depth 44 = some [3, 3, 3, 5, 3, 26, 2, 2, 4] := by kernel_rfl
  obtain rfl := Option.some.inj (hts2.symm.trans hts)
  obtain ⟨l⟩ := cs
  match l, hs2 with
  | [c0, c1, c2, c3, c4, c5, c6, c7, c8], _ =>
    obtain ⟨u0, e0, o0⟩ := hc 0 c0 rfl
    obtain ⟨u1, e1, o1⟩ := hc 1 c1 rfl
    obtain ⟨u2, e2, o2⟩ := hc 2 c2 rfl
    obtain ⟨u3, e3, o3⟩ := hc 3 c3 rfl
    obtain ⟨u4, e4, o4⟩ := hc 4 c4 rfl
    obtain ⟨u5, e5, o5⟩ := hc 5 c5 rfl
    obtain ⟨u6, e6, o6⟩ := hc 6 c6 rfl
    obtain ⟨u7, e7, o7⟩ := hc 7 c7 rfl
    obtain ⟨u8, e8, o8⟩ := hc 8 c8 rfl
    obtain rfl := Option.some.inj e0
    obtain rfl := Option.some.inj e1
    obtain rfl := Option.some.inj e2
    obtain rfl := Option.some.inj e3
    obtain rfl := Option.some.inj e4
    obtain rfl := Option.some.inj e5
    obtain rfl := Option.some.inj e6
    obtain rfl := Option.some.inj e7
    obtain rfl := Option.some.inj e8
    obtain ⟨a0, rfl, _⟩ := cell_int Try.underlying3 o0
    obtain ⟨a1, rfl, _⟩ := cell_int Try.underlying3 o1
    obtain ⟨a2, rfl, _⟩ := cell_int Try.underlying3 o2
    obtain ⟨a3, rfl, _⟩ := cell_int Try.underlying5 o3
    obtain ⟨c, rfl, _⟩ := cell_int Try.underlying3 o4
    have hD := cell_slice Try.underlying26 o5
    obtain ⟨e, rfl, _⟩ := cell_int Try.underlying2 o6
    obtain ⟨f, rfl, _⟩ := cell_int Try.underlying2 o7
    obtain ⟨g, rfl⟩ := cell_bool Try.underlying4 o8
    exact ⟨a0, a1, a2, a3, c, e, f, g, c5, hD, rfl⟩
theorem walk (a0 a1 a2 a3 c e f : Int) (g : Bool) (D : Value) (hD : D = .slice none 0 0 ∨ ∃ b o l q : Nat, D = .slice (some ⟨b, o, none⟩) l q) (w : World) :
    Calls Try.prog 5 #[.agg #[.int .i64 a0, .int .i64 a1, .int .i64 a2, .int .u8 a3, .int .i64 c, D, .int .i64 e, .int .i64 f, .bool g]] w fun o w' => o = .returned (.bool true) ∧ Below w.heap.size w w' := by
  rcases hD with rfl | ⟨b, o, l, q, rfl⟩
  · exact walk0 a0 a1 a2 a3 c e f g 0 0 w
  · exact walk1 a0 a1 a2 a3 c e f g b o l q w
set_option maxRecDepth 100000 in
theorem lifted (os : Os) (started : os.Started) (H : Type) (enc : TypeId × Value → H) :
    ReturnsInHanded {} Try.checked os 5 .any (Rows.airNilSpec.pre6 enc Try.prog Try.f5 Rows.airNilRow.domain false) (Rows.airNilSpec.post enc Try.prog Try.f5 false true false false) := by
  refine law_lifted (C := Try.checked) (tb := 4) Try.own started (by kernel_rfl) Try.func5 Try.laidOut (by kernel_rfl) rfl Try.underlying4 rfl
    (fun ds hds => by match ds, hds with | [_], _ => rfl)
    (ChangeSpec.witness6 (enc := enc) (C := Try.checked) false ⟨#[], #[.agg #[.int .i64 0, .int .i64 0, .int .i64 0, .int .u8 0, .int .i64 0, .slice none 0 0, .int .i64 0, .int .i64 0, .bool false]], []⟩ 8 (by kernel_rfl) (by kernel_rfl) (by kernel_rfl) (by kernel_rfl)) ?_
  intro W base args ds p hval0 hA0 hsz0
  have hval : ∀ (j : Nat) t v, Try.f5.params[j]? = some t → args[j]? = some v → Value.okWide Try.prog W .any base t v := hval0
  have hA : DataW.TrodAll enc Try.prog W 0 (fun _ => true) true Try.f5.params.toList args.toList ds p := hA0
  have hsz : (DataW.weightsEach Try.prog Try.f5.params.toList ds).all (· ≤ reachBytes) = true := hsz0
  rw [Try.params5] at hA hval hsz
  obtain ⟨v0, vs0, d0, ds0, p0, q0, hargs, rfl, rfl, h0, r0⟩ := trodAll_cons hA
  obtain ⟨rfl, rfl, rfl⟩ := trodAll_nil r0
  obtain rfl : args = #[v0] := by cases args; simp_all
  obtain ⟨a0, a1, a2, a3, c, e, f, g, D, hD, rfl⟩ := open_call (hval 0 _ v0 rfl rfl)
  exact walk a0 a1 a2 a3 c e f g D hD W

theorem proved : Rows.AirNilSaid :=
  OpenClaim.holds_of_wide 5 Try.f5 rfl rfl rfl rfl rfl rfl rfl ⟨rfl, rfl, rfl, rfl, rfl⟩ rfl rfl rfl rfl rfl (by kernel_rfl) Try.func5 (by kernel_rfl)
    (of_decide_eq_true (by kernel_rfl)) (by unfold Func.isWrapper; rw [if_neg (by decide +kernel)]; exact ⟨rfl, rfl⟩)
    (fun os started H enc _ => lifted os started H enc)
#print axioms proved
end Go.Proofs.Ytgikbmohmomgbaa.airNil
