import Derived.Test.YtdljelmbjdjpjaaGreatRows
import Derived.Test.YtdljelmbjdjpjaaGreatM7
set_option linter.unusedVariables false
set_option linter.unusedSimpArgs false
set_option maxRecDepth 100000
set_option maxHeartbeats 20000000

namespace Go.Proofs.YtdljelmbjdjpjaaGreat.fleetNil
open Go Go.ChangeShapes Go.WideShapes Go.ChangeAt Go.RowKit Sx
theorem flnHas_x (x : Int)  (w : World) : Calls Tryz.prog 30 #[.pointer none, .int .i64 x] w fun e w' => e = .returned (.bool false) ∧ Below w.heap.size w w' := by
  refine calls_pure (G := tys) w tysOK mixed Tryz.func30 (by rfl) (by first | rfl | (simp only [List.all_cons, List.all_nil, plain_wz, plain_lim, plain_wi]; rfl)) (by first | exact plain3_wz _ | exact plain3_wi _ _ _ | rfl | (simp only [plain3, List.all_cons, List.all_nil, plain_wz, plain_lim, plain_wi]; rfl)) ?_
  repeat' (refine N.go ?_; first | with_reducible (first | refine N.eq ?_ | refine N.forkF ?_) | fail)
  all_goals rfl
theorem cFlnHas (x : Int) (h : List (Option Chunk)) : CallOK Tryz.prog 30 [.pointer none, .int .i64 x] h (.bool false) [] [] := call_pure rfl rfl (Tryz.call30 _) (flnHas_x x)
theorem flnPlace_x (x : Int)  (w : World) : Calls Tryz.prog 16 #[.pointer none, .int .i64 x] w fun e w' => e = .returned (.tuple #[.agg #[.int .i64 0, .int .i64 0], .bool false]) ∧ Below w.heap.size w w' := by
  refine calls_pure (G := tys) w tysOK mixed Tryz.func16 (by rfl) (by first | rfl | (simp only [List.all_cons, List.all_nil, plain_wz, plain_lim, plain_wi]; rfl)) (by first | exact plain3_wz _ | exact plain3_wi _ _ _ | rfl | (simp only [plain3, List.all_cons, List.all_nil, plain_wz, plain_lim, plain_wi]; rfl)) ?_
  repeat' (refine N.go ?_; first | with_reducible (first | refine N.obl (by decide) ?_ | refine N.eq ?_ | refine N.forkT ?_) | fail)
  all_goals rfl
theorem cFlnPlace (x : Int) (h : List (Option Chunk)) : CallOK Tryz.prog 16 [.pointer none, .int .i64 x] h (.tuple #[.agg #[.int .i64 0, .int .i64 0], .bool false]) [] [] := call_pure rfl rfl (Tryz.call16 _) (flnPlace_x x)
theorem flnNode_x (x : Int)  (w : World) : Calls Tryz.prog 11 #[.pointer none, .int .i64 x] w fun e w' => e = .returned (.pointer none) ∧ Below w.heap.size w w' := by
  refine calls_pure (G := tys) w tysOK mixed Tryz.func11 (by rfl) (by first | rfl | (simp only [List.all_cons, List.all_nil, plain_wz, plain_lim, plain_wi]; rfl)) (by first | exact plain3_wz _ | exact plain3_wi _ _ _ | rfl | (simp only [plain3, List.all_cons, List.all_nil, plain_wz, plain_lim, plain_wi]; rfl)) ?_
  repeat' (refine N.go ?_; first | with_reducible refine N.eq ?_ | refine N.call (cFlnHas _ _) ?_ | refine N.forkYes (by decide) ?_ | fail)
  all_goals rfl
theorem cFlnNode (x : Int) (h : List (Option Chunk)) : CallOK Tryz.prog 11 [.pointer none, .int .i64 x] h (.pointer none) [] [] := call_pure rfl rfl (Tryz.call11 _) (flnNode_x x)
theorem flnOn_x (x : Int)  (w : World) : Calls Tryz.prog 17 #[.pointer none, .int .i64 x] w fun e w' => e = .returned (.bool false) ∧ Below w.heap.size w w' := by
  refine calls_pure (G := tys) w tysOK mixed Tryz.func17 (by rfl) (by first | rfl | (simp only [List.all_cons, List.all_nil, plain_wz, plain_lim, plain_wi]; rfl)) (by first | exact plain3_wz _ | exact plain3_wi _ _ _ | rfl | (simp only [plain3, List.all_cons, List.all_nil, plain_wz, plain_lim, plain_wi]; rfl)) ?_
  repeat' (refine N.go ?_; first | with_reducible (first | refine N.eq ?_ | refine N.forkF ?_) | refine N.call (cFlnHas _ _) ?_ | fail)
  all_goals rfl
theorem cFlnOn (x : Int) (h : List (Option Chunk)) : CallOK Tryz.prog 17 [.pointer none, .int .i64 x] h (.bool false) [] [] := call_pure rfl rfl (Tryz.call17 _) (flnOn_x x)
theorem flnTime_x   (w : World) : Calls Tryz.prog 15 #[.pointer none] w fun e w' => e = .returned (.int .i64 0) ∧ Below w.heap.size w w' := by
  refine calls_pure (G := tys) w tysOK mixed Tryz.func15 (by rfl) (by first | rfl | (simp only [List.all_cons, List.all_nil, plain_wz, plain_lim, plain_wi]; rfl)) (by first | exact plain3_wz _ | exact plain3_wi _ _ _ | rfl | (simp only [plain3, List.all_cons, List.all_nil, plain_wz, plain_lim, plain_wi]; rfl)) ?_
  repeat' (refine N.go ?_; first | with_reducible (first | refine N.eq ?_ | refine N.forkT ?_) | fail)
  all_goals rfl
theorem cFlnTime  (h : List (Option Chunk)) : CallOK Tryz.prog 15 [.pointer none] h (.int .i64 0) [] [] := call_pure rfl rfl (Tryz.call15 _) (flnTime_x)
theorem flnNow_x (x : Int)  (w : World) : Calls Tryz.prog 18 #[.pointer none, .int .i64 x] w fun e w' => e = .returned (.int .i64 0) ∧ Below w.heap.size w w' := by
  refine calls_pure (G := tys) w tysOK mixed Tryz.func18 (by rfl) (by first | rfl | (simp only [List.all_cons, List.all_nil, plain_wz, plain_lim, plain_wi]; rfl)) (by first | exact plain3_wz _ | exact plain3_wi _ _ _ | rfl | (simp only [plain3, List.all_cons, List.all_nil, plain_wz, plain_lim, plain_wi]; rfl)) ?_
  repeat' (refine N.go ?_; first | with_reducible (first | refine N.eq ?_ | refine N.forkT ?_) | fail)
  all_goals rfl
theorem cFlnNow (x : Int) (h : List (Option Chunk)) : CallOK Tryz.prog 18 [.pointer none, .int .i64 x] h (.int .i64 0) [] [] := call_pure rfl rfl (Tryz.call18 _) (flnNow_x x)
theorem flnLen_x   (w : World) : Calls Tryz.prog 13 #[.pointer none] w fun e w' => e = .returned (.int .i64 0) ∧ Below w.heap.size w w' := by
  refine calls_pure (G := tys) w tysOK mixed Tryz.func13 (by rfl) (by first | rfl | (simp only [List.all_cons, List.all_nil, plain_wz, plain_lim, plain_wi]; rfl)) (by first | exact plain3_wz _ | exact plain3_wi _ _ _ | rfl | (simp only [plain3, List.all_cons, List.all_nil, plain_wz, plain_lim, plain_wi]; rfl)) ?_
  repeat' (refine N.go ?_; first | with_reducible (first | refine N.eq ?_ | refine N.forkT ?_) | fail)
  all_goals rfl
theorem cFlnLen  (h : List (Option Chunk)) : CallOK Tryz.prog 13 [.pointer none] h (.int .i64 0) [] [] := call_pure rfl rfl (Tryz.call13 _) (flnLen_x)
theorem flnLost_x   (w : World) : Calls Tryz.prog 19 #[.pointer none] w fun e w' => e = .returned (.int .i64 0) ∧ Below w.heap.size w w' := by
  refine calls_pure (G := tys) w tysOK mixed Tryz.func19 (by rfl) (by first | rfl | (simp only [List.all_cons, List.all_nil, plain_wz, plain_lim, plain_wi]; rfl)) (by first | exact plain3_wz _ | exact plain3_wi _ _ _ | rfl | (simp only [plain3, List.all_cons, List.all_nil, plain_wz, plain_lim, plain_wi]; rfl)) ?_
  repeat' (refine N.go ?_; first | with_reducible (first | refine N.eq ?_ | refine N.forkT ?_) | fail)
  all_goals rfl
theorem cFlnLost  (h : List (Option Chunk)) : CallOK Tryz.prog 19 [.pointer none] h (.int .i64 0) [] [] := call_pure rfl rfl (Tryz.call19 _) (flnLost_x)
theorem calls_pureD {f : FuncId} {fn : Func} {c : Code} {vs xs : List Value} {V : Value} (w : World) (hf : Tryz.prog.funcs[f]? = some fn) (hb : fn.body = some c) (hd : All2 (Den (Fil []) (fun _ => (0, 0))) vs xs) (hV : plain3 V = true)
    (hwp : initK vs fn.ntmps fun t => wpC Tryz.prog tys 0 c (bodyQ Tryz.prog tys fn fun v _ => N (v = V)) ⟨t, []⟩) : Calls Tryz.prog f ⟨xs⟩ w fun e w' => e = .returned V ∧ Below w.heap.size w w' := by
  have H : HOK ⟨w, fun _ => False, 0, fun _ => (0, 0)⟩ (fun _ => (0, 0)) [] w := ⟨Evo.refl _ _, fun i hi => absurd hi (by simp), fun i c hi => by simp at hi, fun i c hi => by simp at hi, fun i c hi => by simp at hi, fun i c j d hi => by simp at hi, ExtOK.nil fun i c hi => by simp at hi⟩
  refine (calls_sx (args := ⟨xs⟩) (X := ⟨w, fun _ => False, 0, fun _ => (0, 0)⟩) tysOK mixed hf hb H hd hwp).mono ?_
  rintro e w' ⟨ρ', v, st, x, rfl, H', hd, hv⟩
  have hv := hv.out
  subst hv
  refine ⟨?_, H'.evo.below⟩
  rw [← hd.self, den_plain3 hV]
theorem cFlnDo (c : Sp) (h : List (Option Chunk)) : CallOK Tryz.prog 10 [.pointer none, c.v] h (.int .i64 1) [] [] := by
  refine call_sub (G := tys) [] [] [.pointer none, c.v] tysOK mixed Tryz.func10 (by rfl) (Tryz.call10) trivial trivial trivial trivial ⟨.plain rfl, c.re, trivial⟩ ?_
  repeat' (refine N.go ?_; first | with_reducible (first | refine N.obl rfl ?_ | refine N.forkT ?_) | refine N.obl (.plain rfl) ?_ | refine N.obl trivial ?_ | exact N.true | fail)
theorem walk (c : Sp) (W : World) : Calls Tryz.prog 5 #[.agg #[.int .i64 c.kd, .int .i64 c.nd, .int .i64 c.n, .int .i64 c.px, .int .i64 c.py, .int .i64 c.qx, .int .i64 c.qy, .int .i64 c.ex, .int .i64 c.ey, .int .i64 c.ea, .int .i64 c.eb, .int .i64 c.ed, .int .i64 c.x, .int .u8 c.b, uR c.u]] W fun e w' => e = .returned (.bool true) ∧ Below W.heap.size W w' := by
  refine calls_pureD (vs := [c.v]) (xs := [.agg #[.int .i64 c.kd, .int .i64 c.nd, .int .i64 c.n, .int .i64 c.px, .int .i64 c.py, .int .i64 c.qx, .int .i64 c.qy, .int .i64 c.ex, .int .i64 c.ey, .int .i64 c.ea, .int .i64 c.eb, .int .i64 c.ed, .int .i64 c.x, .int .u8 c.b, uR c.u]]) W Tryz.func5 (by rfl) ⟨fun r _ => Sp.den c r, trivial⟩ (by rfl) ?_
  repeat' (refine N.go ?_; first | with_reducible (first | refine N.obl (by decide) ?_ | refine N.eq ?_ | refine N.obl rfl ?_ | refine N.forkT ?_) | refine N.call (cFlnDo _ _) ?_ | refine N.call (cFlnPlace _ _) ?_ | refine N.call (cFlnNode _ _) ?_ | refine N.call (cFlnOn _ _) ?_ | refine N.call (cFlnNow _ _) ?_ | refine N.call (cFlnTime _) ?_ | refine N.call (cFlnLen _) ?_ | refine N.call (cFlnLost _) ?_ | refine N.call (cAwake25 _) ?_ | refine N.forkYes (by decide) ?_ | fail)
  all_goals rfl
theorem open_step {H : Type} {enc : TypeId × Value → H} {W : World} {r : Reach} {base : Nat} {v : Value} {d : DataW H} {p : List MemPlace} (hv : Value.okWide Tryz.prog W r base 41 v) (h : DataW.Trod enc Tryz.prog W 0 (fun _ => true) true 41 v d p) :
    ∃ (c : Sp) (bs : List Int), v = .agg #[.int .i64 c.kd, .int .i64 c.nd, .int .i64 c.n, .int .i64 c.px, .int .i64 c.py, .int .i64 c.qx, .int .i64 c.qy, .int .i64 c.ex, .int .i64 c.ey, .int .i64 c.ea, .int .i64 c.eb, .int .i64 c.ed, .int .i64 c.x, .int .u8 c.b, uR c.u] ∧ Src W [] c.u bs := by
  obtain ⟨cs, rfl, hs⟩ := okWide_struct Tryz.underlying41 hv
  have hs2 : cs.size = 15 := hs.trans (by kernel_rfl)
  obtain ⟨l⟩ := cs
  match l, hs2 with
  | [c0, c1, c2, c3, c4, c5, c6, c7, c8, c9, c10, c11, c12, c13, c14], _ =>
    obtain ⟨fuel, hf⟩ := h
    have hf' : DataW.trod enc Tryz.prog W 0 (fun _ => true) true fuel 41 [c0, c1, c2, c3, c4, c5, c6, c7, c8, c9, c10, c11, c12, c13, c14] = some (d, p) := hf
    have k0 := (leaf_int (d := 6) (l := 3) (j := 0) (u := c0) (by kernel_rfl) (@Tryz.underlying3) rfl hf').1
    have k1 := (leaf_int (d := 6) (l := 3) (j := 1) (u := c1) (by kernel_rfl) (@Tryz.underlying3) rfl hf').1
    have k2 := (leaf_int (d := 6) (l := 3) (j := 2) (u := c2) (by kernel_rfl) (@Tryz.underlying3) rfl hf').1
    have k3 := (leaf_int (d := 6) (l := 2) (j := 3) (u := c3) (by kernel_rfl) (@Tryz.underlying2) rfl hf').1
    have k4 := (leaf_int (d := 6) (l := 2) (j := 4) (u := c4) (by kernel_rfl) (@Tryz.underlying2) rfl hf').1
    have k5 := (leaf_int (d := 6) (l := 2) (j := 5) (u := c5) (by kernel_rfl) (@Tryz.underlying2) rfl hf').1
    have k6 := (leaf_int (d := 6) (l := 2) (j := 6) (u := c6) (by kernel_rfl) (@Tryz.underlying2) rfl hf').1
    have k7 := (leaf_int (d := 6) (l := 2) (j := 7) (u := c7) (by kernel_rfl) (@Tryz.underlying2) rfl hf').1
    have k8 := (leaf_int (d := 6) (l := 2) (j := 8) (u := c8) (by kernel_rfl) (@Tryz.underlying2) rfl hf').1
    have k9 := (leaf_int (d := 6) (l := 2) (j := 9) (u := c9) (by kernel_rfl) (@Tryz.underlying2) rfl hf').1
    have k10 := (leaf_int (d := 6) (l := 2) (j := 10) (u := c10) (by kernel_rfl) (@Tryz.underlying2) rfl hf').1
    have k11 := (leaf_int (d := 6) (l := 2) (j := 11) (u := c11) (by kernel_rfl) (@Tryz.underlying2) rfl hf').1
    have k12 := (leaf_int (d := 6) (l := 3) (j := 12) (u := c12) (by kernel_rfl) (@Tryz.underlying3) rfl hf').1
    have k13 := (leaf_int (d := 6) (l := 5) (j := 13) (u := c13) (by kernel_rfl) (@Tryz.underlying5) rfl hf').1
    obtain ⟨v14, y14, n14, hv14, hy14⟩ := leaf_read 6 41 14 39 fuel _ _ (by kernel_rfl) (by simp) hf'
    obtain ⟨u, bs, hu, hs3⟩ := inner_bytes hy14
    have k14 : c14 = uR u := by rw [← hu]; simpa using hv14
    obtain ⟨i0, k0⟩ : ∃ i : Int, c0 = .int .i64 i := ⟨_, k0⟩
    obtain ⟨i1, k1⟩ : ∃ i : Int, c1 = .int .i64 i := ⟨_, k1⟩
    obtain ⟨i2, k2⟩ : ∃ i : Int, c2 = .int .i64 i := ⟨_, k2⟩
    obtain ⟨i3, k3⟩ : ∃ i : Int, c3 = .int .i64 i := ⟨_, k3⟩
    obtain ⟨i4, k4⟩ : ∃ i : Int, c4 = .int .i64 i := ⟨_, k4⟩
    obtain ⟨i5, k5⟩ : ∃ i : Int, c5 = .int .i64 i := ⟨_, k5⟩
    obtain ⟨i6, k6⟩ : ∃ i : Int, c6 = .int .i64 i := ⟨_, k6⟩
    obtain ⟨i7, k7⟩ : ∃ i : Int, c7 = .int .i64 i := ⟨_, k7⟩
    obtain ⟨i8, k8⟩ : ∃ i : Int, c8 = .int .i64 i := ⟨_, k8⟩
    obtain ⟨i9, k9⟩ : ∃ i : Int, c9 = .int .i64 i := ⟨_, k9⟩
    obtain ⟨i10, k10⟩ : ∃ i : Int, c10 = .int .i64 i := ⟨_, k10⟩
    obtain ⟨i11, k11⟩ : ∃ i : Int, c11 = .int .i64 i := ⟨_, k11⟩
    obtain ⟨i12, k12⟩ : ∃ i : Int, c12 = .int .i64 i := ⟨_, k12⟩
    obtain ⟨i13, k13⟩ : ∃ i : Int, c13 = .int .u8 i := ⟨_, k13⟩
    rw [k0, k1, k2, k3, k4, k5, k6, k7, k8, k9, k10, k11, k12, k13, k14]
    exact ⟨⟨i0, i1, i2, i3, i4, i5, i6, i7, i8, i9, i10, i11, i12, i13, u⟩, bs, rfl, hs3⟩
theorem lifted (os : Os) (started : os.Started) (H : Type) (enc : TypeId × Value → H) :
    ReturnsInHanded {} Tryz.checked os 5 .any (Rows.fleetNilSpec.pre6 enc Tryz.prog Tryz.f5 Rows.fleetNilRow.domain false) (Rows.fleetNilSpec.post enc Tryz.prog Tryz.f5 false true false false) := by
  refine law_lifted (C := Tryz.checked) (tb := 4) Tryz.own started (by kernel_rfl) Tryz.func5 Tryz.laidOut (by kernel_rfl) rfl Tryz.underlying4 rfl
    (fun ds hds => by match ds, hds with | [_], _ => rfl)
    (ChangeSpec.witness6 (enc := enc) (C := Tryz.checked) false ⟨#[], #[.agg #[.int .i64 0, .int .i64 0, .int .i64 0, .int .i64 0, .int .i64 0, .int .i64 0, .int .i64 0, .int .i64 0, .int .i64 0, .int .i64 0, .int .i64 0, .int .i64 0, .int .i64 0, .int .u8 0, .slice none 0 0]], []⟩ 8 (by kernel_rfl) (by kernel_rfl) (by kernel_rfl) (by kernel_rfl)) ?_
  intro W base args ds p hval0 hA0 hsz0
  have hval : ∀ (j : Nat) t v, Tryz.f5.params[j]? = some t → args[j]? = some v → Value.okWide Tryz.prog W .any base t v := hval0
  have hA : DataW.TrodAll enc Tryz.prog W 0 (fun _ => true) true Tryz.f5.params.toList args.toList ds p := hA0
  have hsz : (DataW.weightsEach Tryz.prog Tryz.f5.params.toList ds).all (· ≤ reachBytes) = true := hsz0
  rw [Tryz.params5] at hA hval hsz
  obtain ⟨v0, vs0, d0, ds0, p0, q0, hargs, rfl, rfl, h0, r0⟩ := trodAll_cons hA
  obtain ⟨rfl, rfl, rfl⟩ := trodAll_nil r0
  obtain rfl : args = #[v0] := by cases args; simp_all
  obtain ⟨c, bs, rfl, hs⟩ := open_step (hval 0 _ v0 rfl rfl) h0
  exact walk c W
theorem proved : Rows.FleetNilSaid :=
  OpenClaim.holds_of_wide 5 Tryz.f5 rfl rfl rfl rfl rfl rfl rfl ⟨rfl, rfl, rfl, rfl, rfl⟩ rfl rfl rfl rfl rfl (by kernel_rfl) Tryz.func5 (by kernel_rfl)
    (of_decide_eq_true (by kernel_rfl)) (by unfold Func.isWrapper; rw [if_neg (by decide +kernel)]; exact ⟨rfl, rfl⟩)
    (fun os started H enc _ => lifted os started H enc)
#print axioms proved
end Go.Proofs.YtdljelmbjdjpjaaGreat.fleetNil
