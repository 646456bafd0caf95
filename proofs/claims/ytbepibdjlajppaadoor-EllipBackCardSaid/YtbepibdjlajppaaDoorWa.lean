
/-
  The walks of wide's sub, cmp, Add, Sub, Sign, Cmp.
-/
import Derived.Test.YtbepibdjlajppaaDoorNeg
import Derived.Test.YtbepibdjlajppaaDoorEngB
set_option linter.unusedVariables false
set_option linter.unusedSimpArgs false
namespace Go.Proofs.YtbepibdjlajppaaDoor
open Go Go.RowKit Sx

theorem limL16_len (f : Nat → Nat) : (limL 16 f).length = 16 := limL_len 16 f
theorem wiL_len (n o : Bool) (v : Nat) : (wiL n o v).length = 18 := by simp [wiL, limL_len]
theorem wi_re {ix : List (Nat × Nat)} {w : Bool} {m : Nat} (n o : Bool) (v : Nat) : ((⟨false, 18, [(0, 18, .agg ⟨wiL n o v⟩)]⟩ : Chunk).own = true → (⟨w, 18, [(0, 18, .agg ⟨wiL n o v⟩)]⟩ : Chunk).own = true ∧ m ≤ (⟨w, 18, [(0, 18, .agg ⟨wiL n o v⟩)]⟩ : Chunk).n) ∧ (⟨false, 18, [(0, 18, .agg ⟨wiL n o v⟩)]⟩ : Chunk).n ≤ (⟨w, 18, [(0, 18, .agg ⟨wiL n o v⟩)]⟩ : Chunk).n ∧ ChunkRe ix ⟨w, 18, [(0, 18, .agg ⟨wiL n o v⟩)]⟩ ⟨false, 18, [(0, 18, .agg ⟨wiL n o v⟩)]⟩ :=
  reSame (agg_plain (wiL_len _ _ _) (plain_wi _ _ _))
theorem lim_re {ix : List (Nat × Nat)} {w : Bool} {m : Nat} (f : Nat → Nat) : ((⟨false, 16, [(0, 16, .agg ⟨limL 16 f⟩)]⟩ : Chunk).own = true → (⟨w, 16, [(0, 16, .agg ⟨limL 16 f⟩)]⟩ : Chunk).own = true ∧ m ≤ (⟨w, 16, [(0, 16, .agg ⟨limL 16 f⟩)]⟩ : Chunk).n) ∧ (⟨false, 16, [(0, 16, .agg ⟨limL 16 f⟩)]⟩ : Chunk).n ≤ (⟨w, 16, [(0, 16, .agg ⟨limL 16 f⟩)]⟩ : Chunk).n ∧ ChunkRe ix ⟨w, 16, [(0, 16, .agg ⟨limL 16 f⟩)]⟩ ⟨false, 16, [(0, 16, .agg ⟨limL 16 f⟩)]⟩ :=
  reSame (agg_plain (limL_len _ _) (plain_lim _ _))
theorem sub64 (x y b : Nat) (hb : b ≤ 1) (w : World) : (callFunc 81 #[.int .u64 x, .int .u64 y, .int .u64 b]).run Tryd.prog w =
    .ok (.value (.tuple #[.int .u64 (((x + 18446744073709551616 - y - b) % 18446744073709551616 : Nat) : Int), .int .u64 ((if x < y + b then 1 else 0 : Nat) : Int)])) w := by
  rw [run_callFunc_extern Tryd.func81 (by kernel_rfl) (by kernel_rfl) (by kernel_rfl) (e := Proofs.sub64Entry) (by kernel_rfl), Proofs.run_sub64 x y b hb]
  rfl
theorem cSub64 (x y b p q : Nat) (h : List (Option Chunk)) (hb : b ≤ 1) (hp : (x + 18446744073709551616 - y - b) % 18446744073709551616 = p) (hq : (if x < y + b then 1 else 0) = q) : CallOK Tryd.prog 81 [.int .u64 x, .int .u64 y, .int .u64 b] h (.tuple #[.int .u64 p, .int .u64 q]) [] [] := by
  subst hp; subst hq
  exact call_ext rfl rfl fun w => sub64 x y b hb w
/-- The digits of a difference, as far as they are reckoned. -/
def subTo (d i : Nat) : Nat → Nat := fun j => if j < i then dg d j else 0
theorem subTo_zero (d : Nat) : limL 16 (subTo d 0) = limL 16 (fun _ => 0) := limL_same fun j _ => by simp [subTo]
theorem subTo_end (d : Nat) : limL 16 (subTo d 16) = limL 16 (dg d) := limL_same fun j hj => by unfold subTo; rw [if_pos hj]
set_option maxRecDepth 100000 in
set_option maxHeartbeats 1000000 in
theorem cSubS (i j v u : Nat) (n1 o1 n2 o2 w1 w2 : Bool) (h : List (Option Chunk)) (hi : h[i]? = some (some ⟨w1, 18, [(0, 18, .agg ⟨wiL n1 o1 v⟩)]⟩)) (hj : h[j]? = some (some ⟨w2, 18, [(0, 18, .agg ⟨wiL n2 o2 u⟩)]⟩)) (huv : u ≤ v) :
    CallOK Tryd.prog 77 [.pointer (some ⟨i, 2, some 0⟩), .pointer (some ⟨j, 2, some 0⟩)] h (.agg ⟨limL 16 (dg (v - u))⟩) [] [i, j] := by
  obtain ⟨d, rfl⟩ : ∃ d, v = u + d := ⟨v - u, by omega⟩
  rw [Nat.add_sub_cancel_left]
  refine call_sub (G := tys) [⟨i, _, ⟨false, 18, [(0, 18, .agg ⟨wiL n1 o1 (u + d)⟩)]⟩, ⟨false, 0, []⟩⟩, ⟨j, _, ⟨false, 18, [(0, 18, .agg ⟨wiL n2 o2 u⟩)]⟩, ⟨false, 0, []⟩⟩] [] [.pointer (some ⟨0, 2, some 0⟩), .pointer (some ⟨1, 2, some 0⟩)] tysOK mixed Tryd.func77 (by rfl) (Tryd.call77) ⟨hi, hj, trivial⟩ ⟨wi_re _ _ _, wi_re _ _ _, trivial⟩ (by simp [Apart]) trivial ⟨.ptr rfl, .ptr rfl, trivial⟩ ?_
  repeat' (refine N.go ?_; first | with_reducible refine N.obl (by decide) ?_ | with_reducible refine N.obl (flat_wi _ _ _) ?_ | with_reducible refine N.obl (flat_lim _ _) ?_ | with_reducible refine N.eq ?_ | with_reducible refine N.obl rfl ?_ | with_reducible refine N.obl ⟨by kernel_rfl, by kernel_rfl⟩ ?_ | with_reducible refine N.alt ?_ | with_reducible refine N.forkT ?_ | with_reducible refine N.forkF ?_)
  refine N.go ?_
  refine N.loop (α := Nat) (fun i => i ≤ 16) (fun i => 16 - i) (fun i => [(8, .int .i64 (i : Int)), (6, .int .u64 ((cry u d i : Nat) : Int))]) (fun i => [(3, ⟨true, 16, [(0, 16, .agg ⟨limL 16 (subTo d i)⟩)]⟩)]) 0 (Nat.zero_le _) ?_ ?_
  · repeat (refine N.go ?_; first | exact N.true | with_reducible refine N.obl rfl ?_ | with_reducible refine N.obl (ChunkLe.refl _) ?_ | refine N.obl (ChunkLe.of (by rw [subTo_zero]; rfl)) ?_ | refine N.obl (by rw [cry_zero]; rfl) ?_)
  · intro i hi
    by_cases hlt : i < 16
    · have c1 : dg u i + dg d i + cry u d i = dg (u + d) i + 18446744073709551616 * cry u d (i + 1) := cry_step u d i
      have c2 := cry_le u d i
      have c3 := cry_le u d (i + 1)
      have c4 := dg_lt u i
      have c5 := dg_lt d i
      have c6 := dg_lt (u + d) i
      have hp : (dg (u + d) i + 18446744073709551616 - dg u i - cry u d i) % 18446744073709551616 = dg d i := by omega
      have hq : (if dg (u + d) i < dg u i + cry u d i then 1 else 0) = cry u d (i + 1) := by split <;> omega
      repeat' (refine N.go ?_; first | with_reducible refine N.obl (by decide) ?_ | with_reducible refine N.obl (flat_wi _ _ _) ?_ | with_reducible refine N.obl (flat_lim _ _) ?_ | with_reducible refine N.eq ?_ | with_reducible refine N.obl rfl ?_ | with_reducible refine N.obl ⟨by kernel_rfl, by kernel_rfl⟩ ?_ | with_reducible refine N.alt ?_ | with_reducible refine N.forkT ?_ | with_reducible refine N.forkF ?_ | refine N.forkYes (by rw [decide_eq_true_eq]; omega) ?_ | refine N.idx i 1 rfl hlt ?_ | refine N.load _ (reads_wi (p := i) hlt rfl) ?_ | refine N.call (cSub64 _ _ _ _ _ _ c2 hp hq) ?_ | refine N.store ⟨true, 16, [(0, 16, .agg ⟨limL 16 (subTo d (i + 1))⟩)]⟩ (writes_lim (p := i) hlt (by first | rfl | omega) (by unfold subTo; rw [if_pos (by omega)]) (fun k _ hk => by unfold subTo; by_cases h : k < i <;> simp [h] <;> omega)) ?_)
      refine N.go ?_
      refine N.next (i + 1) ⟨by omega, by omega⟩ ?_
      repeat (refine N.go ?_; first | exact N.true | with_reducible refine N.obl rfl ?_ | with_reducible refine N.obl (ChunkLe.refl _) ?_ | refine N.obl (int_i64 (by rw [IntWalk.i64_in _ (by omega)]; rfl)) ?_)
    · obtain rfl : i = 16 := by omega
      refine N.go ?_
      refine N.forkNo (by decide) ?_
      rw [subTo_end]
      repeat' (refine N.go ?_; first | with_reducible refine N.obl (by decide) ?_ | with_reducible refine N.obl (flat_wi _ _ _) ?_ | with_reducible refine N.obl (flat_lim _ _) ?_ | with_reducible refine N.eq ?_ | with_reducible refine N.obl rfl ?_ | with_reducible refine N.obl ⟨by kernel_rfl, by kernel_rfl⟩ ?_ | with_reducible refine N.alt ?_ | with_reducible refine N.forkT ?_ | with_reducible refine N.forkF ?_ | exact N.true | refine N.obl trivial ?_ | refine N.obl (.plain (plain_lim _ _)) ?_)
theorem cCmpS (i f v j g u : Nat) (h : List (Option Chunk)) (h1 : Has h i f v) (h2 : Has h j g u) (hv : v < Bs ^ 16) (hu : u < Bs ^ 16) : CallOK Tryd.prog 76 [.pointer (some ⟨i, f, some 0⟩), .pointer (some ⟨j, g, some 0⟩)] h (.int .i64 (cm v u)) [] [i, j] :=
  call_heap [i, j] rfl (Tryd.call76) fun ρ w hc => (cmp_any (ρ i).1 ((ρ i).2 + f) v (ρ j).1 ((ρ j).2 + g) u w (h1.digs (by simp) hc) (h2.digs (by simp) hc) hv hu).mono (by rintro e w' ⟨he, hb, _⟩; exact ⟨he, hb⟩)
theorem cry_top (v u : Nat) (h : v + u < Bs ^ 16) : cry v u 16 = 0 := by
  unfold cry
  have h1 : v % Bs ^ 16 ≤ v := Nat.mod_le _ _
  have h2 : u % Bs ^ 16 ≤ u := Nat.mod_le _ _
  exact Nat.div_eq_of_lt (by omega)
set_option maxRecDepth 100000 in
theorem add_false_same_x (v u : Nat) (hv : v < Top) (hu : u < Top) (hs : v + u < Top) (w : World) : Calls Tryd.prog 56 #[.agg ⟨wiL false false v⟩, .agg ⟨wiL false false u⟩] w fun e w' => e = .returned (.agg ⟨wiL (false && decide (v + u ≠ 0)) false (v + u)⟩) ∧ Below w.heap.size w w' := by
  have hv16 := Nat.lt_trans hv top_lt
  have hu16 := Nat.lt_trans hu top_lt
  refine calls_pure (G := tys) w tysOK mixed Tryd.func56 (by rfl) (by first | rfl | (simp only [List.all_cons, List.all_nil, plain_wz, plain_lim, plain_wi]; rfl)) (by first | exact plain3_wz _ | exact plain3_wi _ _ _ | rfl | (simp only [plain3, List.all_cons, List.all_nil, plain_wz, plain_lim, plain_wi]; rfl)) ?_
  repeat' (refine N.go ?_; first | with_reducible refine N.obl (by decide) ?_ | with_reducible refine N.obl (flat_wi _ _ _) ?_ | with_reducible refine N.obl (flat_lim _ _) ?_ | with_reducible refine N.eq ?_ | with_reducible refine N.obl rfl ?_ | with_reducible refine N.obl ⟨by kernel_rfl, by kernel_rfl⟩ ?_ | with_reducible refine N.alt ?_ | with_reducible refine N.forkT ?_ | with_reducible refine N.forkF ?_ | refine N.call (cAdd _ _ _ _ _ _ _ (has_wi (by rfl)) (has_wi (by rfl))) ?_ | refine N.forkNo (by rw [cry_top _ _ (Nat.lt_trans hs top_lt)]; decide) ?_ | with_reducible refine N.call (cMade _ _ _ hs) ?_ | refine N.forkNo (by decide) ?_ | refine N.forkYes (by decide) ?_)
  all_goals rfl
set_option maxRecDepth 100000 in
theorem add_false_ge_x (v u : Nat) (hv : v < Top) (hu : u < Top) (hs : u ≤ v) (w : World) : Calls Tryd.prog 56 #[.agg ⟨wiL false false v⟩, .agg ⟨wiL true false u⟩] w fun e w' => e = .returned (.agg ⟨wiL (false && decide (v - u ≠ 0)) false (v - u)⟩) ∧ Below w.heap.size w w' := by
  have hv16 := Nat.lt_trans hv top_lt
  have hu16 := Nat.lt_trans hu top_lt
  refine calls_pure (G := tys) w tysOK mixed Tryd.func56 (by rfl) (by first | rfl | (simp only [List.all_cons, List.all_nil, plain_wz, plain_lim, plain_wi]; rfl)) (by first | exact plain3_wz _ | exact plain3_wi _ _ _ | rfl | (simp only [plain3, List.all_cons, List.all_nil, plain_wz, plain_lim, plain_wi]; rfl)) ?_
  repeat' (refine N.go ?_; first | with_reducible refine N.obl (by decide) ?_ | with_reducible refine N.obl (flat_wi _ _ _) ?_ | with_reducible refine N.obl (flat_lim _ _) ?_ | with_reducible refine N.eq ?_ | with_reducible refine N.obl rfl ?_ | with_reducible refine N.obl ⟨by kernel_rfl, by kernel_rfl⟩ ?_ | with_reducible refine N.alt ?_ | with_reducible refine N.forkT ?_ | with_reducible refine N.forkF ?_ | refine N.call (cCmpS _ _ _ _ _ _ _ (has_wi (by rfl)) (has_wi (by rfl)) hv16 hu16) ?_ | refine N.call (cSubS _ _ _ _ _ _ _ _ _ _ _ (by rfl) (by rfl) (by omega)) ?_ | refine N.forkYes (by rw [decide_eq_true_eq]; unfold cm; split <;> (try split) <;> omega) ?_ | with_reducible refine N.call (cMade _ _ _ (Nat.lt_of_le_of_lt (Nat.sub_le _ _) hv)) ?_ | refine N.forkNo (by decide) ?_ | refine N.forkYes (by decide) ?_)
  all_goals rfl
set_option maxRecDepth 100000 in
theorem add_false_lt_x (v u : Nat) (hv : v < Top) (hu : u < Top) (hs : v < u) (w : World) : Calls Tryd.prog 56 #[.agg ⟨wiL false false v⟩, .agg ⟨wiL true false u⟩] w fun e w' => e = .returned (.agg ⟨wiL (true && decide (u - v ≠ 0)) false (u - v)⟩) ∧ Below w.heap.size w w' := by
  have hv16 := Nat.lt_trans hv top_lt
  have hu16 := Nat.lt_trans hu top_lt
  refine calls_pure (G := tys) w tysOK mixed Tryd.func56 (by rfl) (by first | rfl | (simp only [List.all_cons, List.all_nil, plain_wz, plain_lim, plain_wi]; rfl)) (by first | exact plain3_wz _ | exact plain3_wi _ _ _ | rfl | (simp only [plain3, List.all_cons, List.all_nil, plain_wz, plain_lim, plain_wi]; rfl)) ?_
  repeat' (refine N.go ?_; first | with_reducible refine N.obl (by decide) ?_ | with_reducible refine N.obl (flat_wi _ _ _) ?_ | with_reducible refine N.obl (flat_lim _ _) ?_ | with_reducible refine N.eq ?_ | with_reducible refine N.obl rfl ?_ | with_reducible refine N.obl ⟨by kernel_rfl, by kernel_rfl⟩ ?_ | with_reducible refine N.alt ?_ | with_reducible refine N.forkT ?_ | with_reducible refine N.forkF ?_ | refine N.call (cCmpS _ _ _ _ _ _ _ (has_wi (by rfl)) (has_wi (by rfl)) hv16 hu16) ?_ | refine N.call (cSubS _ _ _ _ _ _ _ _ _ _ _ (by rfl) (by rfl) (by omega)) ?_ | refine N.forkNo (by rw [decide_eq_false_iff_not]; unfold cm; split <;> (try split) <;> omega) ?_ | with_reducible refine N.call (cMade _ _ _ (Nat.lt_of_le_of_lt (Nat.sub_le _ _) hu)) ?_ | refine N.forkNo (by decide) ?_ | refine N.forkYes (by decide) ?_)
  all_goals rfl
set_option maxRecDepth 100000 in
theorem add_true_same_x (v u : Nat) (hv : v < Top) (hu : u < Top) (hs : v + u < Top) (w : World) : Calls Tryd.prog 56 #[.agg ⟨wiL true false v⟩, .agg ⟨wiL true false u⟩] w fun e w' => e = .returned (.agg ⟨wiL (true && decide (v + u ≠ 0)) false (v + u)⟩) ∧ Below w.heap.size w w' := by
  have hv16 := Nat.lt_trans hv top_lt
  have hu16 := Nat.lt_trans hu top_lt
  refine calls_pure (G := tys) w tysOK mixed Tryd.func56 (by rfl) (by first | rfl | (simp only [List.all_cons, List.all_nil, plain_wz, plain_lim, plain_wi]; rfl)) (by first | exact plain3_wz _ | exact plain3_wi _ _ _ | rfl | (simp only [plain3, List.all_cons, List.all_nil, plain_wz, plain_lim, plain_wi]; rfl)) ?_
  repeat' (refine N.go ?_; first | with_reducible refine N.obl (by decide) ?_ | with_reducible refine N.obl (flat_wi _ _ _) ?_ | with_reducible refine N.obl (flat_lim _ _) ?_ | with_reducible refine N.eq ?_ | with_reducible refine N.obl rfl ?_ | with_reducible refine N.obl ⟨by kernel_rfl, by kernel_rfl⟩ ?_ | with_reducible refine N.alt ?_ | with_reducible refine N.forkT ?_ | with_reducible refine N.forkF ?_ | refine N.call (cAdd _ _ _ _ _ _ _ (has_wi (by rfl)) (has_wi (by rfl))) ?_ | refine N.forkNo (by rw [cry_top _ _ (Nat.lt_trans hs top_lt)]; decide) ?_ | with_reducible refine N.call (cMade _ _ _ hs) ?_ | refine N.forkNo (by decide) ?_ | refine N.forkYes (by decide) ?_)
  all_goals rfl
set_option maxRecDepth 100000 in
theorem add_true_ge_x (v u : Nat) (hv : v < Top) (hu : u < Top) (hs : u ≤ v) (w : World) : Calls Tryd.prog 56 #[.agg ⟨wiL true false v⟩, .agg ⟨wiL false false u⟩] w fun e w' => e = .returned (.agg ⟨wiL (true && decide (v - u ≠ 0)) false (v - u)⟩) ∧ Below w.heap.size w w' := by
  have hv16 := Nat.lt_trans hv top_lt
  have hu16 := Nat.lt_trans hu top_lt
  refine calls_pure (G := tys) w tysOK mixed Tryd.func56 (by rfl) (by first | rfl | (simp only [List.all_cons, List.all_nil, plain_wz, plain_lim, plain_wi]; rfl)) (by first | exact plain3_wz _ | exact plain3_wi _ _ _ | rfl | (simp only [plain3, List.all_cons, List.all_nil, plain_wz, plain_lim, plain_wi]; rfl)) ?_
  repeat' (refine N.go ?_; first | with_reducible refine N.obl (by decide) ?_ | with_reducible refine N.obl (flat_wi _ _ _) ?_ | with_reducible refine N.obl (flat_lim _ _) ?_ | with_reducible refine N.eq ?_ | with_reducible refine N.obl rfl ?_ | with_reducible refine N.obl ⟨by kernel_rfl, by kernel_rfl⟩ ?_ | with_reducible refine N.alt ?_ | with_reducible refine N.forkT ?_ | with_reducible refine N.forkF ?_ | refine N.call (cCmpS _ _ _ _ _ _ _ (has_wi (by rfl)) (has_wi (by rfl)) hv16 hu16) ?_ | refine N.call (cSubS _ _ _ _ _ _ _ _ _ _ _ (by rfl) (by rfl) (by omega)) ?_ | refine N.forkYes (by rw [decide_eq_true_eq]; unfold cm; split <;> (try split) <;> omega) ?_ | with_reducible refine N.call (cMade _ _ _ (Nat.lt_of_le_of_lt (Nat.sub_le _ _) hv)) ?_ | refine N.forkNo (by decide) ?_ | refine N.forkYes (by decide) ?_)
  all_goals rfl
set_option maxRecDepth 100000 in
theorem add_true_lt_x (v u : Nat) (hv : v < Top) (hu : u < Top) (hs : v < u) (w : World) : Calls Tryd.prog 56 #[.agg ⟨wiL true false v⟩, .agg ⟨wiL false false u⟩] w fun e w' => e = .returned (.agg ⟨wiL (false && decide (u - v ≠ 0)) false (u - v)⟩) ∧ Below w.heap.size w w' := by
  have hv16 := Nat.lt_trans hv top_lt
  have hu16 := Nat.lt_trans hu top_lt
  refine calls_pure (G := tys) w tysOK mixed Tryd.func56 (by rfl) (by first | rfl | (simp only [List.all_cons, List.all_nil, plain_wz, plain_lim, plain_wi]; rfl)) (by first | exact plain3_wz _ | exact plain3_wi _ _ _ | rfl | (simp only [plain3, List.all_cons, List.all_nil, plain_wz, plain_lim, plain_wi]; rfl)) ?_
  repeat' (refine N.go ?_; first | with_reducible refine N.obl (by decide) ?_ | with_reducible refine N.obl (flat_wi _ _ _) ?_ | with_reducible refine N.obl (flat_lim _ _) ?_ | with_reducible refine N.eq ?_ | with_reducible refine N.obl rfl ?_ | with_reducible refine N.obl ⟨by kernel_rfl, by kernel_rfl⟩ ?_ | with_reducible refine N.alt ?_ | with_reducible refine N.forkT ?_ | with_reducible refine N.forkF ?_ | refine N.call (cCmpS _ _ _ _ _ _ _ (has_wi (by rfl)) (has_wi (by rfl)) hv16 hu16) ?_ | refine N.call (cSubS _ _ _ _ _ _ _ _ _ _ _ (by rfl) (by rfl) (by omega)) ?_ | refine N.forkNo (by rw [decide_eq_false_iff_not]; unfold cm; split <;> (try split) <;> omega) ?_ | with_reducible refine N.call (cMade _ _ _ (Nat.lt_of_le_of_lt (Nat.sub_le _ _) hu)) ?_ | refine N.forkNo (by decide) ?_ | refine N.forkYes (by decide) ?_)
  all_goals rfl
theorem wz_neg {z : Int} (h : z < 0) : wz z = .agg ⟨wiL true false z.natAbs⟩ := by unfold wz; rw [decide_eq_true h]
theorem wz_pos {z : Int} (h : 0 ≤ z) : wz z = .agg ⟨wiL false false z.natAbs⟩ := by unfold wz; rw [decide_eq_false (by omega)]
theorem wi_wz {b : Bool} {n : Nat} {z : Int} (h1 : n = z.natAbs) (h2 : b = decide (z < 0)) : (Value.agg ⟨wiL b false n⟩) = wz z := by subst h1 h2; rfl
theorem add_z (a b : Int) (ha : a.natAbs < Top) (hb : b.natAbs < Top) (hab : (a + b).natAbs < Top) (w : World) : Calls Tryd.prog 56 #[wz a, wz b] w fun e w' => e = .returned (wz (a + b)) ∧ Below w.heap.size w w' := by
  by_cases h1 : a < 0 <;> by_cases h2 : b < 0
  · rw [wz_neg h1, wz_neg h2]
    have := add_true_same_x a.natAbs b.natAbs ha hb (by omega) w
    rwa [wi_wz (b := true && decide (a.natAbs + b.natAbs ≠ 0)) (n := a.natAbs + b.natAbs) (z := a + b) (by omega) (by rw [Bool.true_and]; exact decide_eq_decide.2 (by omega))] at this
  · rw [wz_neg h1, wz_pos (by omega : 0 ≤ b)]
    by_cases h3 : b.natAbs ≤ a.natAbs
    · have := add_true_ge_x a.natAbs b.natAbs ha hb h3 w
      rwa [wi_wz (b := true && decide (a.natAbs - b.natAbs ≠ 0)) (n := a.natAbs - b.natAbs) (z := a + b) (by omega) (by rw [Bool.true_and]; exact decide_eq_decide.2 (by omega))] at this
    · have := add_true_lt_x a.natAbs b.natAbs ha hb (by omega) w
      rwa [wi_wz (b := false && decide (b.natAbs - a.natAbs ≠ 0)) (n := b.natAbs - a.natAbs) (z := a + b) (by omega) (by rw [Bool.false_and, decide_eq_false (by omega)])] at this
  · rw [wz_pos (by omega : 0 ≤ a), wz_neg h2]
    by_cases h3 : b.natAbs ≤ a.natAbs
    · have := add_false_ge_x a.natAbs b.natAbs ha hb h3 w
      rwa [wi_wz (b := false && decide (a.natAbs - b.natAbs ≠ 0)) (n := a.natAbs - b.natAbs) (z := a + b) (by omega) (by rw [Bool.false_and, decide_eq_false (by omega)])] at this
    · have := add_false_lt_x a.natAbs b.natAbs ha hb (by omega) w
      rwa [wi_wz (b := true && decide (b.natAbs - a.natAbs ≠ 0)) (n := b.natAbs - a.natAbs) (z := a + b) (by omega) (by rw [Bool.true_and]; exact decide_eq_decide.2 (by omega))] at this
  · rw [wz_pos (by omega : 0 ≤ a), wz_pos (by omega : 0 ≤ b)]
    have := add_false_same_x a.natAbs b.natAbs ha hb (by omega) w
    rwa [wi_wz (b := false && decide (a.natAbs + b.natAbs ≠ 0)) (n := a.natAbs + b.natAbs) (z := a + b) (by omega) (by rw [Bool.false_and, decide_eq_false (by omega)])] at this
theorem cAddz (a b : Int) (h : List (Option Chunk)) (ha : a.natAbs < Top) (hb : b.natAbs < Top) (hab : (a + b).natAbs < Top) : CallOK Tryd.prog 56 [wz a, wz b] h (wz (a + b)) [] [] :=
  call_pure (by simp [plain_wz]) (plain3_wz _) (Tryd.call56 _) (add_z a b ha hb hab)
set_option maxRecDepth 100000 in
theorem sub_z_x (a b : Int) (ha : a.natAbs < Top) (hb : b.natAbs < Top) (hab : (a - b).natAbs < Top) (w : World) : Calls Tryd.prog 34 #[wz a, wz b] w fun e w' => e = .returned (wz (a - b)) ∧ Below w.heap.size w w' := by
  have hn : (-b).natAbs < Top := by rwa [Int.natAbs_neg]
  have hs : (a + -b).natAbs < Top := by rwa [← Int.sub_eq_add_neg]
  refine calls_pure (G := tys) w tysOK mixed Tryd.func34 (by rfl) (by first | rfl | (simp only [List.all_cons, List.all_nil, plain_wz, plain_lim, plain_wi]; rfl)) (by first | exact plain3_wz _ | exact plain3_wi _ _ _ | rfl | (simp only [plain3, List.all_cons, List.all_nil, plain_wz, plain_lim, plain_wi]; rfl)) ?_
  repeat' (refine N.go ?_; first | with_reducible refine N.obl (by decide) ?_ | with_reducible refine N.obl (flat_wi _ _ _) ?_ | with_reducible refine N.obl (flat_lim _ _) ?_ | with_reducible refine N.eq ?_ | with_reducible refine N.obl rfl ?_ | with_reducible refine N.obl ⟨by kernel_rfl, by kernel_rfl⟩ ?_ | with_reducible refine N.alt ?_ | with_reducible refine N.forkT ?_ | with_reducible refine N.forkF ?_ | with_reducible refine N.call (cNeg _ _ hb) ?_ | with_reducible refine N.call (cAddz _ _ _ ha hn hs) ?_)
  all_goals (rw [Int.sub_eq_add_neg])
theorem cSubz (a b : Int) (h : List (Option Chunk)) (ha : a.natAbs < Top) (hb : b.natAbs < Top) (hab : (a - b).natAbs < Top) : CallOK Tryd.prog 34 [wz a, wz b] h (wz (a - b)) [] [] :=
  call_pure (by simp [plain_wz]) (plain3_wz _) (Tryd.call34 _) (sub_z_x a b ha hb hab)
def sgn (z : Int) : Int := if z < 0 then -1 else if z = 0 then 0 else 1
theorem sgn_pos (z : Int) : sgn z > 0 ↔ z > 0 := by unfold sgn; split <;> (try split) <;> omega
theorem sgn_nonneg (z : Int) : sgn z ≥ 0 ↔ z ≥ 0 := by unfold sgn; split <;> (try split) <;> omega
set_option maxRecDepth 100000 in
theorem sign_z_x (z : Int) (hz : z.natAbs < Top) (w : World) : Calls Tryd.prog 13 #[wz z] w fun e w' => e = .returned (.int .i64 (sgn z)) ∧ Below w.heap.size w w' := by
  have hz16 := Nat.lt_trans hz top_lt
  refine calls_pure (G := tys) w tysOK mixed Tryd.func13 (by rfl) (by first | rfl | (simp only [List.all_cons, List.all_nil, plain_wz, plain_lim, plain_wi]; rfl)) (by first | exact plain3_wz _ | exact plain3_wi _ _ _ | rfl | (simp only [plain3, List.all_cons, List.all_nil, plain_wz, plain_lim, plain_wi]; rfl)) ?_
  repeat' (refine N.go ?_; first | with_reducible refine N.obl (by decide) ?_ | with_reducible refine N.obl (flat_wi _ _ _) ?_ | with_reducible refine N.obl (flat_lim _ _) ?_ | with_reducible refine N.eq ?_ | with_reducible refine N.obl rfl ?_ | with_reducible refine N.obl ⟨by kernel_rfl, by kernel_rfl⟩ ?_ | with_reducible refine N.alt ?_ | with_reducible refine N.forkT ?_ | with_reducible refine N.forkF ?_ | with_reducible refine N.bin _ (eq_size0 _ _ _ _ hz16 false rfl) ?_ | refine N.forkNo (by decide) ?_ | refine N.forkYes (by decide) ?_ | with_reducible refine N.fork (fun hb => ?_) (fun hb => ?_))
  all_goals
    simp only [decide_eq_true_eq, decide_eq_false_iff_not, Bool.false_eq_true, if_false] at *
    unfold sgn
    first
      | rw [if_neg (by omega), if_pos (by omega)]
      | rw [if_pos (by omega)]
      | rw [if_neg (by omega), if_neg (by omega)]
theorem cSign (z : Int) (h : List (Option Chunk)) (hz : z.natAbs < Top) : CallOK Tryd.prog 13 [wz z] h (.int .i64 (sgn z)) [] [] :=
  call_pure (by simp [plain_wz]) rfl (Tryd.call13 _) (sign_z_x z hz)
end Go.Proofs.YtbepibdjlajppaaDoor
