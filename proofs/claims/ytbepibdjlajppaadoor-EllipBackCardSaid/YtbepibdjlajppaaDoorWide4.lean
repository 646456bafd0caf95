
/-
  The walks of Of, made: numbers with their signs.
-/
import Derived.Test.YtbepibdjlajppaaDoorWide3
set_option linter.unusedVariables false
namespace Go.Proofs.YtbepibdjlajppaaDoor
open Go.RowKit

theorem built_of (x : Int) : Tryd.prog.built 44 [(0, .int .u64 x)] = some #[.int .u64 x, .int .u64 0, .int .u64 0, .int .u64 0, .int .u64 0, .int .u64 0, .int .u64 0, .int .u64 0, .int .u64 0, .int .u64 0, .int .u64 0, .int .u64 0, .int .u64 0, .int .u64 0, .int .u64 0, .int .u64 0] := by kernel_rfl
theorem built_sz (v : Nat) (h : v < 18446744073709551616) : Tryd.prog.built 44 [(0, .int .u64 v)] = some (sz v) := by
  rw [sz_small v h]; exact built_of _
theorem built_0 : Tryd.prog.built 44 [] = some (sz 0) := by
  rw [sz_zero]; kernel_rfl
theorem built_wi (neg : Bool) (v : Nat) : Tryd.prog.built 46 [(0, .bool neg), (2, .agg (sz v))] = some (wi neg false v) := by
  rw [sz_lit, wi_lit]; kernel_rfl

/-- A whole number as a number. -/
def zi (z : Int) : Array Value := wi (decide (z < 0)) false z.natAbs
@[simp] theorem zi_size (z : Int) : (zi z).size = 18 := wi_size _ _ _

set_option maxRecDepth 100000 in
theorem wof_neg (v : Nat) (h : 0 < v ∧ v ≤ 9223372036854775808) (w : World) : Calls Tryd.prog 23 #[.int .i64 (-(v : Int))] w fun e w' => e = .returned (.agg (wi true false v)) ∧ Below w.heap.size w w' := by
  have hB : Below w.heap.size w w := Below.refl _ _
  have hr := IsRow.new w (wi false false 0) 46
  rw [wi_zero] at hr
  obtain ⟨h0, h1⟩ := h
  have hwr : IntKind.u64.wrap (-IntKind.u64.wrap (-(v : Int))) = v := by
    show ((-((-(v : Int)) % 18446744073709551616)) % 18446744073709551616 : Int) = v
    omega
  have hb1 : Tryd.prog.built 44 [(0, .int .u64 (IntKind.u64.wrap (-IntKind.u64.wrap (-(v : Int)))))] = some (sz v) := by rw [hwr]; exact built_sz v (by omega)
  clear hwr
  have hn : -(v : Int) < 0 := by omega
  have hb2 := built_wi true v
  go_enter Tryd.func23, Tryd.ntmps23
  go_wp2_with (first | (refine isBuildL (ty := 44) rfl ?_; refine wpList_build1 ?_ 44 0 _ rfl (.int .u64 (IntKind.u64.wrap (-IntKind.u64.wrap (-(v : Int))))) rfl (sz v) (hb1) ?_; (focus rfl)) | (refine isBuildL (ty := 46) rfl ?_; refine wpList_build2 ?_ 46 0 2 _ _ rfl (.bool true) (.agg (sz v)) rfl rfl (wi true false v) (hb2) ?_; (focus rfl)) | (refine isStoreL (ty := 46) rfl ?_; refine wpList_store_row ?_ 46 _ _ rfl (w.heap.size) (wi true false v) rfl rfl _ (_) (hr) (by rw [wi_size]; kernel_rfl) (by simp) (wi_one _ _ _) ?_; (focus rfl)) | fail)
  exact bodyPost_ret (results_cell_row Tryd.results23 _ _ w.heap.size _ _ _ _ rfl (hr.row _) Tryd.underlying46 rfl (by rw [wi_size]; kernel_rfl)) rfl ⟨rfl, below_setRow (hB.alloc (Nat.le_refl _) _) (Nat.le_refl _) _⟩

set_option maxRecDepth 100000 in
theorem wof_pos (v : Nat) (h : v < 9223372036854775808) (w : World) : Calls Tryd.prog 23 #[.int .i64 ((v : Int))] w fun e w' => e = .returned (.agg (wi false false v)) ∧ Below w.heap.size w w' := by
  have hB : Below w.heap.size w w := Below.refl _ _
  have hr := IsRow.new w (wi false false 0) 46
  rw [wi_zero] at hr
  have hwr : IntKind.u64.wrap (v : Int) = v := by
    show ((v : Int) % 18446744073709551616 : Int) = v
    omega
  have hb1 : Tryd.prog.built 44 [(0, .int .u64 (v : Int))] = some (sz v) := built_sz v (by omega)
  have hn : ¬ (v : Int) < 0 := by omega
  have hb2 := built_wi false v
  go_enter Tryd.func23, Tryd.ntmps23
  go_wp2_with (first | (refine isBuildL (ty := 44) rfl ?_; refine wpList_build1 ?_ 44 0 _ rfl (.int .u64 (v : Int)) rfl (sz v) (hb1) ?_; (focus rfl)) | (refine isBuildL (ty := 46) rfl ?_; refine wpList_build2 ?_ 46 0 2 _ _ rfl (.bool false) (.agg (sz v)) rfl rfl (wi false false v) (hb2) ?_; (focus rfl)) | (refine isStoreL (ty := 46) rfl ?_; refine wpList_store_row ?_ 46 _ _ rfl (w.heap.size) (wi false false v) rfl rfl _ (_) (hr) (by rw [wi_size]; kernel_rfl) (by simp) (wi_one _ _ _) ?_; (focus rfl)) | fail)
  exact bodyPost_ret (results_cell_row Tryd.results23 _ _ w.heap.size _ _ _ _ rfl (hr.row _) Tryd.underlying46 rfl (by rw [wi_size]; kernel_rfl)) rfl ⟨rfl, below_setRow (hB.alloc (Nat.le_refl _) _) (Nat.le_refl _) _⟩

theorem wof_any (n : Int) (h0 : -9223372036854775808 ≤ n) (h1 : n < 9223372036854775808) (w : World) : Calls Tryd.prog 23 #[.int .i64 n] w fun e w' => e = .returned (.agg (zi n)) ∧ Below w.heap.size w w' := by
  by_cases hn : n < 0
  · have := wof_neg n.natAbs (by omega) w
    rw [show -(n.natAbs : Int) = n from by omega] at this
    unfold zi; rw [decide_eq_true hn]; exact this
  · have := wof_pos n.natAbs (by omega) w
    rw [show (n.natAbs : Int) = n from by omega] at this
    unfold zi; rw [decide_eq_false hn]; exact this

set_option maxHeartbeats 1000000 in
set_option maxRecDepth 100000 in
theorem made_any (neg : Bool) (v : Nat) (hv : v < Top) (w : World) : Calls Tryd.prog 62 #[.bool neg, .agg (sz v)] w fun e w' => e = .returned (.agg (wi (neg && decide (v ≠ 0)) false v)) ∧ Below w.heap.size w w' := by
  have hv16 : v < Bs ^ 16 := Nat.lt_trans hv top_lt
  have hbl : bl v ≤ 1023 := bl_small v TopBits hv16 hv
  have hB : Below w.heap.size w w := Below.refl _ _
  have hr := (IsRow.new w (sz v) 44).alloc (.cells (wi false false 0) 46)
  have hr2 := IsRow.new (w.alloc (.cells (sz v) 44)) (wi false false 0) 46
  have hdg := Digs.of_sz hr
  rw [wi_zero] at hdg hr hr2
  have HD := Lib.hid hdg
  clear hdg
  have hB2 : Below w.heap.size w ((w.alloc (.cells (sz v) 44)).alloc (.cells #[.bool false, .bool false, .int .u64 0, .int .u64 0, .int .u64 0, .int .u64 0, .int .u64 0, .int .u64 0, .int .u64 0, .int .u64 0, .int .u64 0, .int .u64 0, .int .u64 0, .int .u64 0, .int .u64 0, .int .u64 0, .int .u64 0, .int .u64 0] 46)) := by
    refine Below.alloc (Below.alloc hB ?_ _) ?_ _
    · exact Nat.le_refl _
    · simp
  go_enter Tryd.func62, Tryd.ntmps62
  go_wp2_with fail
  refine (bits_any w.heap.size 0 v _ HD.out).mono ?_
  rintro e w' ⟨rfl, rfl⟩
  clear HD
  cases neg
  · go_wp2_with fail
    rw [show (w.alloc (.cells (sz v) 44)).heap.size = w.heap.size + 1 from by simp] at hr2
    generalize hW : ((w.alloc (.cells (sz v) 44)).alloc (.cells #[.bool false, .bool false, .int .u64 0, .int .u64 0, .int .u64 0, .int .u64 0, .int .u64 0, .int .u64 0, .int .u64 0, .int .u64 0, .int .u64 0, .int .u64 0, .int .u64 0, .int .u64 0, .int .u64 0, .int .u64 0, .int .u64 0, .int .u64 0] 46)) = W at hr hr2 hB2 ⊢
    clear hW
    have heq := equal_sz v 0 hv16 (bsp_pos 16) W.drew
    clear heq
    refine wp_region_still_tail 8 (by kernel_rfl) (by kernel_rfl) ?_
    simp only [List.take_succ_cons, List.take_zero, List.drop_succ_cons, List.drop_zero]
    repeat (first | (refine isLoadS (ty := 44) rfl ?_; refine wpStill_load_row ?_ 44 _ rfl (w.heap.size) rfl _ (sz v) _ _ (hr.drew) Tryd.underlying44 rfl (by rw [sz_size]; kernel_rfl) ?_; (focus (first | rfl | (go_simp; done)))) | (refine isBuildS (ty := 44) rfl ?_; refine wpStill_build0 ?_ 44 rfl (sz 0) (built_0) ?_; (focus (first | rfl | (go_simp; done)))) | (refine isBuildS (ty := 46) rfl ?_; refine wpStill_build2 ?_ 46 0 2 _ _ rfl (.bool false) (.agg (sz v)) rfl rfl (wi false false v) (built_wi _ _) ?_; (focus (first | rfl | (go_simp; done)))) | still_step)
    refine wpStill_nil ?_
    change wpList _ _ _ _ _ W.drew
    go_wp2_with (refine isStoreL (ty := 46) rfl ?_; refine wpList_store_row ?_ 46 _ _ rfl (w.heap.size + 1) (wi false false v) rfl rfl _ (_) (hr2.drew) (by rw [wi_size]; kernel_rfl) (by simp) (wi_one _ _ _) ?_; (focus rfl))
    exact bodyPost_ret (results_cell_row Tryd.results62 _ _ (w.heap.size + 1) _ _ _ _ rfl (hr2.drew.row _) Tryd.underlying46 rfl (by rw [wi_size]; kernel_rfl)) rfl ⟨by rw [show (false && decide (v ≠ 0)) = false from by simp], below_setRow hB2.drew (by omega) _⟩
  · by_cases hz : v = 0
    · have HZ := Lib.hid hz
      clear hz
      go_wp2_with fail
      rw [show (w.alloc (.cells (sz v) 44)).heap.size = w.heap.size + 1 from by simp] at hr2
      generalize hW : ((w.alloc (.cells (sz v) 44)).alloc (.cells #[.bool false, .bool false, .int .u64 0, .int .u64 0, .int .u64 0, .int .u64 0, .int .u64 0, .int .u64 0, .int .u64 0, .int .u64 0, .int .u64 0, .int .u64 0, .int .u64 0, .int .u64 0, .int .u64 0, .int .u64 0, .int .u64 0, .int .u64 0] 46)) = W at hr hr2 hB2 ⊢
      clear hW
      have heq := equal_sz v 0 hv16 (bsp_pos 16) W.drew
      rw [decide_eq_true HZ.out] at heq
      refine wp_region_still_tail 8 (by kernel_rfl) (by kernel_rfl) ?_
      simp only [List.take_succ_cons, List.take_zero, List.drop_succ_cons, List.drop_zero]
      repeat (first | (refine isLoadS (ty := 44) rfl ?_; refine wpStill_load_row ?_ 44 _ rfl (w.heap.size) rfl _ (sz v) _ _ (hr.drew) Tryd.underlying44 rfl (by rw [sz_size]; kernel_rfl) ?_; (focus (first | rfl | (go_simp; done)))) | (refine isBuildS (ty := 44) rfl ?_; refine wpStill_build0 ?_ 44 rfl (sz 0) (built_0) ?_; (focus (first | rfl | (go_simp; done)))) | (refine isBuildS (ty := 46) rfl ?_; refine wpStill_build2 ?_ 46 0 2 _ _ rfl (.bool false) (.agg (sz v)) rfl rfl (wi false false v) (built_wi _ _) ?_; (focus (first | rfl | (go_simp; done)))) | still_step)
      refine wpStill_nil ?_
      change wpList _ _ _ _ _ W.drew
      go_wp2_with (refine isStoreL (ty := 46) rfl ?_; refine wpList_store_row ?_ 46 _ _ rfl (w.heap.size + 1) (wi false false v) rfl rfl _ (_) (hr2.drew) (by rw [wi_size]; kernel_rfl) (by simp) (wi_one _ _ _) ?_; (focus rfl))
      exact bodyPost_ret (results_cell_row Tryd.results62 _ _ (w.heap.size + 1) _ _ _ _ rfl (hr2.drew.row _) Tryd.underlying46 rfl (by rw [wi_size]; kernel_rfl)) rfl ⟨by rw [show (true && decide (v ≠ 0)) = false from by simp [HZ.out]], below_setRow hB2.drew (by omega) _⟩
    · have HZ := Lib.hid hz
      clear hz
      go_wp2_with fail
      rw [show (w.alloc (.cells (sz v) 44)).heap.size = w.heap.size + 1 from by simp] at hr2
      generalize hW : ((w.alloc (.cells (sz v) 44)).alloc (.cells #[.bool false, .bool false, .int .u64 0, .int .u64 0, .int .u64 0, .int .u64 0, .int .u64 0, .int .u64 0, .int .u64 0, .int .u64 0, .int .u64 0, .int .u64 0, .int .u64 0, .int .u64 0, .int .u64 0, .int .u64 0, .int .u64 0, .int .u64 0] 46)) = W at hr hr2 hB2 ⊢
      clear hW
      have heq := equal_sz v 0 hv16 (bsp_pos 16) W.drew
      rw [decide_eq_false HZ.out] at heq
      refine wp_region_still_tail 8 (by kernel_rfl) (by kernel_rfl) ?_
      simp only [List.take_succ_cons, List.take_zero, List.drop_succ_cons, List.drop_zero]
      repeat (first | (refine isLoadS (ty := 44) rfl ?_; refine wpStill_load_row ?_ 44 _ rfl (w.heap.size) rfl _ (sz v) _ _ (hr.drew) Tryd.underlying44 rfl (by rw [sz_size]; kernel_rfl) ?_; (focus (first | rfl | (go_simp; done)))) | (refine isBuildS (ty := 44) rfl ?_; refine wpStill_build0 ?_ 44 rfl (sz 0) (built_0) ?_; (focus (first | rfl | (go_simp; done)))) | (refine isBuildS (ty := 46) rfl ?_; refine wpStill_build2 ?_ 46 0 2 _ _ rfl (.bool true) (.agg (sz v)) rfl rfl (wi true false v) (built_wi _ _) ?_; (focus (first | rfl | (go_simp; done)))) | still_step)
      refine wpStill_nil ?_
      change wpList _ _ _ _ _ W.drew
      go_wp2_with (refine isStoreL (ty := 46) rfl ?_; refine wpList_store_row ?_ 46 _ _ rfl (w.heap.size + 1) (wi true false v) rfl rfl _ (_) (hr2.drew) (by rw [wi_size]; kernel_rfl) (by simp) (wi_one _ _ _) ?_; (focus rfl))
      exact bodyPost_ret (results_cell_row Tryd.results62 _ _ (w.heap.size + 1) _ _ _ _ rfl (hr2.drew.row _) Tryd.underlying46 rfl (by rw [wi_size]; kernel_rfl)) rfl ⟨by rw [show (true && decide (v ≠ 0)) = true from by simp [HZ.out]], below_setRow hB2.drew (by omega) _⟩
end Go.Proofs.YtbepibdjlajppaaDoor
