/-
  The walk of Sqrt at a number of one digit.
-/
import Derived.Test.YtkjeebabcdnjkaaWide7
import Derived.Test.YtkjeebabcdnjkaaRoot0
import Derived.Deep.LoopGhost
set_option linter.unusedVariables false
namespace Go.Proofs.Ytkjeebabcdnjkaa
open Go.RowKit

theorem IsRow.grown {w w' : World} {g B : Nat} {t : TypeId} {cs : Array Value} (h : IsRow w g t cs) (hb : Below B w w') (hB : B = w.heap.size) : IsRow w' g t cs := h.below hb (by rw [hB]; exact h.lt)
theorem IsRow.new_zero (w : World) (n : Nat) (h : w.heap.size = n) : IsRow (w.alloc (.cells #[.int .u64 0, .int .u64 0, .int .u64 0, .int .u64 0, .int .u64 0, .int .u64 0, .int .u64 0, .int .u64 0, .int .u64 0, .int .u64 0, .int .u64 0, .int .u64 0, .int .u64 0, .int .u64 0, .int .u64 0, .int .u64 0] 52)) n 52 (sz 0) := by
  rw [← sz_zero, ← h]; exact IsRow.new _ _ _
theorem built_one : Try.prog.built 52 [(0, .int .u64 1)] = some (sz 1) := built_sz 1 (by decide)

theorem div_by (v x : Nat) (hv : v < 18446744073709551616) (hx0 : 0 < x) (hx : x < 18446744073709551616) (w : World) :
    Calls Try.prog 47 #[.agg (sz v), .agg (sz x)] w fun e w' => e = .returned (.tuple #[.agg (sz (v / x)), .agg (sz (v % x))]) ∧ Below w.heap.size w w' := by
  refine divide_one v x (Nat.lt_of_lt_of_le hv (Nat.le_self_pow (by decide) Bs)) hx0 hx ?_ w
  intro i w' hi
  have hn : nd v ≤ 1 := by
    by_cases h : v = 0
    · subst h; decide
    · rw [nd_one v (by omega) hv]; exact Nat.le_refl _
  obtain rfl : i = 0 := by omega
  have h1 : rm v x (0 + 1) = 0 := by unfold rm; rw [Nat.zero_add, Nat.pow_one, Nat.div_eq_of_lt hv, Nat.zero_mod]
  have h2 : dg v 0 = v := by rw [dg_small v hv]; rfl
  have h3 : rm v x 0 = v % x := by unfold rm; rw [Nat.pow_zero, Nat.div_one]
  have h4 : dg (v / x) 0 = v / x := by rw [dg_small _ (Nat.lt_of_le_of_lt (Nat.div_le_self _ _) hv)]; rfl
  rw [h1, h2, h3, h4]
  exact div64_lo v x hv hx0 hx w'

set_option maxRecDepth 100000 in
set_option maxHeartbeats 2000000 in
theorem sqrt_small (v : Nat) (hv : v < 9223372036854775808) (w : World) :
    Calls Try.prog 36 #[.agg (wi false false v)] w fun e w' => e = .returned (.tuple #[.agg (wi false false (isq v)), .int .i64 0]) ∧ Below w.heap.size w w' := by
  have hv1 : v < 18446744073709551616 := by omega
  have hv16 : v < Bs ^ 16 := Nat.lt_of_lt_of_le hv1 (Nat.le_self_pow (by decide) Bs)
  have hB : Below w.heap.size w w := Below.refl _ _
  have r0 := (IsRow.new w (wi false false v) 54).alloc (.cells #[.bool false, .bool false, .int .u64 0, .int .u64 0, .int .u64 0, .int .u64 0, .int .u64 0, .int .u64 0, .int .u64 0, .int .u64 0, .int .u64 0, .int .u64 0, .int .u64 0, .int .u64 0, .int .u64 0, .int .u64 0, .int .u64 0, .int .u64 0] 54)
  have r1 := IsRow.new (w.alloc (.cells (wi false false v) 54)) #[.bool false, .bool false, .int .u64 0, .int .u64 0, .int .u64 0, .int .u64 0, .int .u64 0, .int .u64 0, .int .u64 0, .int .u64 0, .int .u64 0, .int .u64 0, .int .u64 0, .int .u64 0, .int .u64 0, .int .u64 0, .int .u64 0, .int .u64 0] 54
  rw [show (w.alloc (.cells (wi false false v) 54)).heap.size = w.heap.size + 1 from by simp] at r1
  have hB0 : Below w.heap.size w ((w.alloc (.cells (wi false false v) 54)).alloc (.cells #[.bool false, .bool false, .int .u64 0, .int .u64 0, .int .u64 0, .int .u64 0, .int .u64 0, .int .u64 0, .int .u64 0, .int .u64 0, .int .u64 0, .int .u64 0, .int .u64 0, .int .u64 0, .int .u64 0, .int .u64 0, .int .u64 0, .int .u64 0] 54)) := by
    repeat (first | with_reducible exact hB | with_reducible refine Below.alloc ?_ (by first | (simp; done) | (simp; omega) | omega) _)
  have hs0 : ((w.alloc (.cells (wi false false v) 54)).alloc (.cells #[.bool false, .bool false, .int .u64 0, .int .u64 0, .int .u64 0, .int .u64 0, .int .u64 0, .int .u64 0, .int .u64 0, .int .u64 0, .int .u64 0, .int .u64 0, .int .u64 0, .int .u64 0, .int .u64 0, .int .u64 0, .int .u64 0, .int .u64 0] 54)).heap.size = w.heap.size + 2 := by simp
  have c0 := r0.cell (wi_neg false false v)
  have c1 := r0.cell (wi_over false false v)
  by_cases hz : v = 0
  · have heq : ∀ W : World, (Op.equalIn 10000 52 (.agg (sz v)) (.agg (sz 0))).run Try.prog W = .ok true W := fun W => by
      rw [equal_sz v 0 hv16 (bsp_pos 16) W, decide_eq_true hz]
    have hiq : isq v = v := by subst hz; rfl
    have HZ := Lib.hid hz
    clear hz
    go_enter Try.func36, Try.ntmps36
    go_wp2_with (first | (refine isLoadL (ty := 52) rfl ?_; refine wpList_load_part ?_ 52 _ rfl (w.heap.size) 2 rfl (sz v) _ ((Digs.of_wi r0).cells) Try.underlying52 rfl (by rw [sz_size]; kernel_rfl) ?_; (focus rfl)) | (refine isBuildL (ty := 52) rfl ?_; refine wpList_build0 ?_ 52 rfl (sz 0) (built_0) ?_; (focus rfl)) | (refine isLoadL (ty := 54) rfl ?_; refine wpList_load_row ?_ 54 _ rfl (w.heap.size) rfl _ (wi false false v) _ _ (r0) Try.underlying54 rfl (by rw [wi_size]; kernel_rfl) ?_; (focus rfl)) | (refine isStoreL (ty := 54) rfl ?_; refine wpList_store_row ?_ 54 _ _ rfl (w.heap.size + 1) (wi false false v) rfl rfl _ (_) (r1) (by rw [wi_size]; kernel_rfl) (by simp) (wi_one _ _ _) ?_; (focus rfl)) | fail)
    have hl := run_loadVar_row (P := Try.prog) _ _ _ 54 _ _ _ (r1.row (wi false false v)) Try.underlying54 rfl (by rw [wi_size]; kernel_rfl)
    exact bodyPost_ret (v := .tuple #[.agg (wi false false v), .int .i64 0]) (by simp [results, Try.results36, asAddr, hl]) rfl ⟨by rw [hiq], below_setRow hB0 (by omega) _⟩
  · have heq : ∀ W : World, (Op.equalIn 10000 52 (.agg (sz v)) (.agg (sz 0))).run Try.prog W = .ok false W := fun W => by
      rw [equal_sz v 0 hv16 (bsp_pos 16) W, decide_eq_false hz]
    go_enter Try.func36, Try.ntmps36
    go_wp2_with (first | (refine isLoadL (ty := 52) rfl ?_; refine wpList_load_part ?_ 52 _ rfl (w.heap.size) 2 rfl (sz v) _ ((Digs.of_wi r0).cells) Try.underlying52 rfl (by rw [sz_size]; kernel_rfl) ?_; (focus rfl)) | (refine isBuildL (ty := 52) rfl ?_; refine wpList_build0 ?_ 52 rfl (sz 0) (built_0) ?_; (focus rfl)) | (refine isBuildL (ty := 52) rfl ?_; refine wpList_build1 ?_ 52 0 _ rfl (.int .u64 1) rfl (sz 1) (built_one) ?_; (focus rfl)) | (refine isStoreL (ty := 52) rfl ?_; refine wpList_store_row ?_ 52 _ _ rfl (w.heap.size + 2) (sz 1) rfl rfl _ (_) (IsRow.new_zero ((w.alloc (.cells (wi false false v) 54)).alloc (.cells #[.bool false, .bool false, .int .u64 0, .int .u64 0, .int .u64 0, .int .u64 0, .int .u64 0, .int .u64 0, .int .u64 0, .int .u64 0, .int .u64 0, .int .u64 0, .int .u64 0, .int .u64 0, .int .u64 0, .int .u64 0, .int .u64 0, .int .u64 0] 54)) (w.heap.size + 2) (by simp)) (by rw [sz_size]; kernel_rfl) (by simp) (sz_one _) ?_; (focus rfl)) | fail)
    have r4 := (IsRow.new_zero ((w.alloc (.cells (wi false false v) 54)).alloc (.cells #[.bool false, .bool false, .int .u64 0, .int .u64 0, .int .u64 0, .int .u64 0, .int .u64 0, .int .u64 0, .int .u64 0, .int .u64 0, .int .u64 0, .int .u64 0, .int .u64 0, .int .u64 0, .int .u64 0, .int .u64 0, .int .u64 0, .int .u64 0] 54)) (w.heap.size + 2) (by simp)).row (sz 1)
    have r0' := (r0.alloc (.cells #[.int .u64 0, .int .u64 0, .int .u64 0, .int .u64 0, .int .u64 0, .int .u64 0, .int .u64 0, .int .u64 0, .int .u64 0, .int .u64 0, .int .u64 0, .int .u64 0, .int .u64 0, .int .u64 0, .int .u64 0, .int .u64 0] 52)).rowOther (w.heap.size + 2) (sz 1) (by omega)
    have r1' := (r1.alloc (.cells #[.int .u64 0, .int .u64 0, .int .u64 0, .int .u64 0, .int .u64 0, .int .u64 0, .int .u64 0, .int .u64 0, .int .u64 0, .int .u64 0, .int .u64 0, .int .u64 0, .int .u64 0, .int .u64 0, .int .u64 0, .int .u64 0] 52)).rowOther (w.heap.size + 2) (sz 1) (by omega)
    have hB1 : Below w.heap.size w ((((w.alloc (.cells (wi false false v) 54)).alloc (.cells #[.bool false, .bool false, .int .u64 0, .int .u64 0, .int .u64 0, .int .u64 0, .int .u64 0, .int .u64 0, .int .u64 0, .int .u64 0, .int .u64 0, .int .u64 0, .int .u64 0, .int .u64 0, .int .u64 0, .int .u64 0, .int .u64 0, .int .u64 0] 54)).alloc (.cells #[.int .u64 0, .int .u64 0, .int .u64 0, .int .u64 0, .int .u64 0, .int .u64 0, .int .u64 0, .int .u64 0, .int .u64 0, .int .u64 0, .int .u64 0, .int .u64 0, .int .u64 0, .int .u64 0, .int .u64 0, .int .u64 0] 52)).setRow (w.heap.size + 2) (sz 1)) := below_setRow (hB0.alloc (by omega) _) (by omega) _
    have hs1 : ((((w.alloc (.cells (wi false false v) 54)).alloc (.cells #[.bool false, .bool false, .int .u64 0, .int .u64 0, .int .u64 0, .int .u64 0, .int .u64 0, .int .u64 0, .int .u64 0, .int .u64 0, .int .u64 0, .int .u64 0, .int .u64 0, .int .u64 0, .int .u64 0, .int .u64 0, .int .u64 0, .int .u64 0] 54)).alloc (.cells #[.int .u64 0, .int .u64 0, .int .u64 0, .int .u64 0, .int .u64 0, .int .u64 0, .int .u64 0, .int .u64 0, .int .u64 0, .int .u64 0, .int .u64 0, .int .u64 0, .int .u64 0, .int .u64 0, .int .u64 0, .int .u64 0] 52)).setRow (w.heap.size + 2) (sz 1)).heap.size = w.heap.size + 3 := by simp
    clear r0 r1 hB0 hs0 c0 c1 hB
    generalize ((((w.alloc (.cells (wi false false v) 54)).alloc (.cells #[.bool false, .bool false, .int .u64 0, .int .u64 0, .int .u64 0, .int .u64 0, .int .u64 0, .int .u64 0, .int .u64 0, .int .u64 0, .int .u64 0, .int .u64 0, .int .u64 0, .int .u64 0, .int .u64 0, .int .u64 0, .int .u64 0, .int .u64 0] 54)).alloc (.cells #[.int .u64 0, .int .u64 0, .int .u64 0, .int .u64 0, .int .u64 0, .int .u64 0, .int .u64 0, .int .u64 0, .int .u64 0, .int .u64 0, .int .u64 0, .int .u64 0, .int .u64 0, .int .u64 0, .int .u64 0, .int .u64 0] 52)).setRow (w.heap.size + 2) (sz 1)) = W at *
    refine (bits_any w.heap.size 2 v _ (Digs.of_wi r0')).mono ?_
    rintro e w' ⟨rfl, rfl⟩
    have hbl : bl v ≤ 63 := bl_small v 63 hv16 hv
    have hk : (bl v + 1) / 2 < 64 := by omega
    have hk1 : (bl v + 1) / 2 ≤ 32 := by omega
    have q1 : ((bl v : Nat) : Int) + 1 = ((bl v + 1 : Nat) : Int) := by omega
    have q2 : (((bl v : Nat) : Int) + 1) / 2 = (((bl v + 1) / 2 : Nat) : Int) := by omega
    have q3 : (((bl v : Nat) : Int) + 1).tdiv 2 = (((bl v + 1) / 2 : Nat) : Int) := by rw [q1]; rfl
    have hst := newton_start v hv16
    clear q1
    generalize hkk : (bl v + 1) / 2 = k at *
    have hp0 : 0 < 2 ^ k := Nat.pow_pos (by decide)
    have hp1 : 2 ^ k ≤ 2 ^ 32 := Nat.pow_le_pow_right (by decide) hk1
    generalize hpk : 2 ^ k = x0 at *
    have hx0 : x0 < 18446744073709551616 := by omega
    go_wp2_with fail
    refine (up_any (w.heap.size + 2) 0 1 k hk _ (Digs.of_sz r4)).mono ?_
    rintro e w2 ⟨rfl, hb2⟩
    rw [Nat.one_mul, hpk]
    have r0 := r0'.below hb2 r0'.lt
    have r1 := r1'.below hb2 r1'.lt
    have hB2 : Below w.heap.size w w2 := hB1.trans (hb2.mono (by omega))
    have hs2 : w.heap.size + 3 ≤ w2.heap.size := by have := hb2.size; omega
    clear r0' r1' r4 hb2 hB1 hs1
    go_wp2_with (first | (refine isStoreL (ty := 52) rfl ?_; refine wpList_store_row ?_ 52 _ _ rfl (w2.heap.size) (sz x0) rfl rfl _ (_) (IsRow.new_zero w2 w2.heap.size rfl) (by rw [sz_size]; kernel_rfl) (by simp) (sz_one _) ?_; (focus rfl)) | fail)
    have r5 := (IsRow.new_zero w2 w2.heap.size rfl).row (sz x0)
    have r0' := (r0.alloc (.cells #[.int .u64 0, .int .u64 0, .int .u64 0, .int .u64 0, .int .u64 0, .int .u64 0, .int .u64 0, .int .u64 0, .int .u64 0, .int .u64 0, .int .u64 0, .int .u64 0, .int .u64 0, .int .u64 0, .int .u64 0, .int .u64 0] 52)).rowOther w2.heap.size (sz x0) (by omega)
    have r1' := (r1.alloc (.cells #[.int .u64 0, .int .u64 0, .int .u64 0, .int .u64 0, .int .u64 0, .int .u64 0, .int .u64 0, .int .u64 0, .int .u64 0, .int .u64 0, .int .u64 0, .int .u64 0, .int .u64 0, .int .u64 0, .int .u64 0, .int .u64 0] 52)).rowOther w2.heap.size (sz x0) (by omega)
    have hB3 : Below w.heap.size w ((w2.alloc (.cells #[.int .u64 0, .int .u64 0, .int .u64 0, .int .u64 0, .int .u64 0, .int .u64 0, .int .u64 0, .int .u64 0, .int .u64 0, .int .u64 0, .int .u64 0, .int .u64 0, .int .u64 0, .int .u64 0, .int .u64 0, .int .u64 0] 52)).setRow w2.heap.size (sz x0)) := below_setRow (hB2.alloc (by omega) _) (by omega) _
    have hs3 : w2.heap.size < ((w2.alloc (.cells #[.int .u64 0, .int .u64 0, .int .u64 0, .int .u64 0, .int .u64 0, .int .u64 0, .int .u64 0, .int .u64 0, .int .u64 0, .int .u64 0, .int .u64 0, .int .u64 0, .int .u64 0, .int .u64 0, .int .u64 0, .int .u64 0] 52)).setRow w2.heap.size (sz x0)).heap.size := by simp
    generalize ((w2.alloc (.cells #[.int .u64 0, .int .u64 0, .int .u64 0, .int .u64 0, .int .u64 0, .int .u64 0, .int .u64 0, .int .u64 0, .int .u64 0, .int .u64 0, .int .u64 0, .int .u64 0, .int .u64 0, .int .u64 0, .int .u64 0, .int .u64 0] 52)).setRow w2.heap.size (sz x0)) = W3 at *
    generalize hg : w2.heap.size = g at *
    have hgw : w.heap.size + 3 ≤ g := hs2
    clear r0 r1 hB2 hg q2 q3 hkk hpk hk hk1 hbl hs2
    rw [show ∀ a : Act, a.put none undef = a from fun _ => rfl]
    go_loopg [] x0 (fun x wr => 0 < x ∧ x < 18446744073709551616 ∧ isq v ≤ x ∧ IsRow wr w.heap.size 54 (wi false false v) ∧ IsRow wr (w.heap.size + 1) 54 #[.bool false, .bool false, .int .u64 0, .int .u64 0, .int .u64 0, .int .u64 0, .int .u64 0, .int .u64 0, .int .u64 0, .int .u64 0, .int .u64 0, .int .u64 0, .int .u64 0, .int .u64 0, .int .u64 0, .int .u64 0, .int .u64 0, .int .u64 0] ∧ IsRow wr g 52 (sz x) ∧ Below w.heap.size w wr)
    case atStart => exact ⟨hp0, hx0, by omega, r0', r1', r5, hB3⟩
    case round =>
      clear r0' r1' r5 hB3 hs3 hp0 hp1 hx0 hst
      obtain ⟨x0', x1, x2, r0, r1, r5, hB⟩ := hrel
      generalize gk = x at *
      have hxx : x < Bs ^ 16 := Nat.lt_of_lt_of_le x1 (Nat.le_self_pow (by decide) Bs)
      go_wp2_with (first | (refine isLoadL (ty := 52) rfl ?_; refine wpList_load_part ?_ 52 _ rfl (w.heap.size) 2 rfl (sz v) _ ((Digs.of_wi r0).cells) Try.underlying52 rfl (by rw [sz_size]; kernel_rfl) ?_; (focus rfl)) | (refine isLoadL (ty := 52) rfl ?_; refine wpList_load_row ?_ 52 _ rfl (g) rfl _ (sz x) _ _ (r5) Try.underlying52 rfl (by rw [sz_size]; kernel_rfl) ?_; (focus rfl)) | fail)
      refine (div_by v x hv1 x0' x1 _).mono ?_
      rintro e w1 ⟨rfl, hb1⟩
      have s0 := r0.below hb1 r0.lt
      have s1 := r1.below hb1 r1.lt
      have s5 := r5.below hb1 r5.lt
      have hB1 : Below w.heap.size w w1 := hB.trans (hb1.mono hB.size)
      have hg1 := s5.lt
      clear r0 r1 r5 hb1 hB
      go_wp2_with (first | (refine isStoreL (ty := 52) rfl ?_; refine wpList_store_row ?_ 52 _ _ rfl (w1.heap.size) (sz (v / x)) rfl rfl _ (_) ((IsRow.new_zero w1 w1.heap.size rfl).alloc (.cells #[.int .u64 0, .int .u64 0, .int .u64 0, .int .u64 0, .int .u64 0, .int .u64 0, .int .u64 0, .int .u64 0, .int .u64 0, .int .u64 0, .int .u64 0, .int .u64 0, .int .u64 0, .int .u64 0, .int .u64 0, .int .u64 0] 52)) (by rw [sz_size]; kernel_rfl) (by simp) (sz_one _) ?_; (focus rfl)) | (refine isStoreL (ty := 52) rfl ?_; refine wpList_store_row ?_ 52 _ _ rfl (w1.heap.size + 1) (sz (v % x)) rfl rfl _ (_) ((IsRow.new_zero (w1.alloc (.cells #[.int .u64 0, .int .u64 0, .int .u64 0, .int .u64 0, .int .u64 0, .int .u64 0, .int .u64 0, .int .u64 0, .int .u64 0, .int .u64 0, .int .u64 0, .int .u64 0, .int .u64 0, .int .u64 0, .int .u64 0, .int .u64 0] 52)) (w1.heap.size + 1) (by simp)).rowOther w1.heap.size (sz (v / x)) (by omega)) (by rw [sz_size]; kernel_rfl) (by simp) (sz_one _) ?_; (focus rfl)) | fail)
      have n6 := (((IsRow.new_zero w1 w1.heap.size rfl).alloc (.cells #[.int .u64 0, .int .u64 0, .int .u64 0, .int .u64 0, .int .u64 0, .int .u64 0, .int .u64 0, .int .u64 0, .int .u64 0, .int .u64 0, .int .u64 0, .int .u64 0, .int .u64 0, .int .u64 0, .int .u64 0, .int .u64 0] 52)).row (sz (v / x))).rowOther (w1.heap.size + 1) (sz (v % x)) (by omega)
      have n0 := (((s0.alloc (.cells #[.int .u64 0, .int .u64 0, .int .u64 0, .int .u64 0, .int .u64 0, .int .u64 0, .int .u64 0, .int .u64 0, .int .u64 0, .int .u64 0, .int .u64 0, .int .u64 0, .int .u64 0, .int .u64 0, .int .u64 0, .int .u64 0] 52)).alloc (.cells #[.int .u64 0, .int .u64 0, .int .u64 0, .int .u64 0, .int .u64 0, .int .u64 0, .int .u64 0, .int .u64 0, .int .u64 0, .int .u64 0, .int .u64 0, .int .u64 0, .int .u64 0, .int .u64 0, .int .u64 0, .int .u64 0] 52)).rowOther w1.heap.size (sz (v / x)) (by omega)).rowOther (w1.heap.size + 1) (sz (v % x)) (by omega)
      have n1 := (((s1.alloc (.cells #[.int .u64 0, .int .u64 0, .int .u64 0, .int .u64 0, .int .u64 0, .int .u64 0, .int .u64 0, .int .u64 0, .int .u64 0, .int .u64 0, .int .u64 0, .int .u64 0, .int .u64 0, .int .u64 0, .int .u64 0, .int .u64 0] 52)).alloc (.cells #[.int .u64 0, .int .u64 0, .int .u64 0, .int .u64 0, .int .u64 0, .int .u64 0, .int .u64 0, .int .u64 0, .int .u64 0, .int .u64 0, .int .u64 0, .int .u64 0, .int .u64 0, .int .u64 0, .int .u64 0, .int .u64 0] 52)).rowOther w1.heap.size (sz (v / x)) (by omega)).rowOther (w1.heap.size + 1) (sz (v % x)) (by omega)
      have n5 := (((s5.alloc (.cells #[.int .u64 0, .int .u64 0, .int .u64 0, .int .u64 0, .int .u64 0, .int .u64 0, .int .u64 0, .int .u64 0, .int .u64 0, .int .u64 0, .int .u64 0, .int .u64 0, .int .u64 0, .int .u64 0, .int .u64 0, .int .u64 0] 52)).alloc (.cells #[.int .u64 0, .int .u64 0, .int .u64 0, .int .u64 0, .int .u64 0, .int .u64 0, .int .u64 0, .int .u64 0, .int .u64 0, .int .u64 0, .int .u64 0, .int .u64 0, .int .u64 0, .int .u64 0, .int .u64 0, .int .u64 0] 52)).rowOther w1.heap.size (sz (v / x)) (by omega)).rowOther (w1.heap.size + 1) (sz (v % x)) (by omega)
      have hB2 : Below w.heap.size w ((((w1.alloc (.cells #[.int .u64 0, .int .u64 0, .int .u64 0, .int .u64 0, .int .u64 0, .int .u64 0, .int .u64 0, .int .u64 0, .int .u64 0, .int .u64 0, .int .u64 0, .int .u64 0, .int .u64 0, .int .u64 0, .int .u64 0, .int .u64 0] 52)).alloc (.cells #[.int .u64 0, .int .u64 0, .int .u64 0, .int .u64 0, .int .u64 0, .int .u64 0, .int .u64 0, .int .u64 0, .int .u64 0, .int .u64 0, .int .u64 0, .int .u64 0, .int .u64 0, .int .u64 0, .int .u64 0, .int .u64 0] 52)).setRow w1.heap.size (sz (v / x))).setRow (w1.heap.size + 1) (sz (v % x))) := below_setRow (below_setRow ((hB1.alloc hB1.size _).alloc (by simp; have := hB1.size; omega) _) hB1.size _) (by have := hB1.size; omega) _
      generalize ((((w1.alloc (.cells #[.int .u64 0, .int .u64 0, .int .u64 0, .int .u64 0, .int .u64 0, .int .u64 0, .int .u64 0, .int .u64 0, .int .u64 0, .int .u64 0, .int .u64 0, .int .u64 0, .int .u64 0, .int .u64 0, .int .u64 0, .int .u64 0] 52)).alloc (.cells #[.int .u64 0, .int .u64 0, .int .u64 0, .int .u64 0, .int .u64 0, .int .u64 0, .int .u64 0, .int .u64 0, .int .u64 0, .int .u64 0, .int .u64 0, .int .u64 0, .int .u64 0, .int .u64 0, .int .u64 0, .int .u64 0] 52)).setRow w1.heap.size (sz (v / x))).setRow (w1.heap.size + 1) (sz (v % x))) = W2 at *
      generalize w1.heap.size = g6 at *
      clear s0 s1 s5 hB1
      refine (add_any g 0 x g6 0 (v / x) _ (Digs.of_sz n5) (Digs.of_sz n6)).mono ?_
      rintro e w3 ⟨rfl, hb3⟩
      have s0 := n0.below hb3 n0.lt
      have s1 := n1.below hb3 n1.lt
      have s5 := n5.below hb3 n5.lt
      have hB3 : Below w.heap.size w w3 := hB2.trans (hb3.mono hB2.size)
      have hg3 := s5.lt
      clear n0 n1 n5 n6 hb3 hB2
      go_wp2_with (first | (refine isStoreL (ty := 52) rfl ?_; refine wpList_store_row ?_ 52 _ _ rfl (w3.heap.size) (sz (x + v / x)) rfl rfl _ (_) (IsRow.new_zero w3 w3.heap.size rfl) (by rw [sz_size]; kernel_rfl) (by simp) (sz_one _) ?_; (focus rfl)) | fail)
      have m8 := (IsRow.new_zero w3 w3.heap.size rfl).row (sz (x + v / x))
      have m0 := (s0.alloc (.cells #[.int .u64 0, .int .u64 0, .int .u64 0, .int .u64 0, .int .u64 0, .int .u64 0, .int .u64 0, .int .u64 0, .int .u64 0, .int .u64 0, .int .u64 0, .int .u64 0, .int .u64 0, .int .u64 0, .int .u64 0, .int .u64 0] 52)).rowOther w3.heap.size (sz (x + v / x)) (by have := s0.lt; omega)
      have m1 := (s1.alloc (.cells #[.int .u64 0, .int .u64 0, .int .u64 0, .int .u64 0, .int .u64 0, .int .u64 0, .int .u64 0, .int .u64 0, .int .u64 0, .int .u64 0, .int .u64 0, .int .u64 0, .int .u64 0, .int .u64 0, .int .u64 0, .int .u64 0] 52)).rowOther w3.heap.size (sz (x + v / x)) (by have := s1.lt; omega)
      have m5 := (s5.alloc (.cells #[.int .u64 0, .int .u64 0, .int .u64 0, .int .u64 0, .int .u64 0, .int .u64 0, .int .u64 0, .int .u64 0, .int .u64 0, .int .u64 0, .int .u64 0, .int .u64 0, .int .u64 0, .int .u64 0, .int .u64 0, .int .u64 0] 52)).rowOther w3.heap.size (sz (x + v / x)) (by omega)
      have hB4 : Below w.heap.size w ((w3.alloc (.cells #[.int .u64 0, .int .u64 0, .int .u64 0, .int .u64 0, .int .u64 0, .int .u64 0, .int .u64 0, .int .u64 0, .int .u64 0, .int .u64 0, .int .u64 0, .int .u64 0, .int .u64 0, .int .u64 0, .int .u64 0, .int .u64 0] 52)).setRow w3.heap.size (sz (x + v / x))) := below_setRow (hB3.alloc hB3.size _) hB3.size _
      have hg8 : w.heap.size ≤ w3.heap.size := hB3.size
      generalize ((w3.alloc (.cells #[.int .u64 0, .int .u64 0, .int .u64 0, .int .u64 0, .int .u64 0, .int .u64 0, .int .u64 0, .int .u64 0, .int .u64 0, .int .u64 0, .int .u64 0, .int .u64 0, .int .u64 0, .int .u64 0, .int .u64 0, .int .u64 0] 52)).setRow w3.heap.size (sz (x + v / x))) = W4 at *
      generalize w3.heap.size = g8 at *
      clear s0 s1 s5 hB3
      have hq : v / x ≤ v := Nat.div_le_self _ _
      have hs16 : x + v / x < Bs ^ 16 := Nat.lt_of_lt_of_le (show x + v / x < Bs * Bs from by simp only [Bs]; omega) (by rw [← Nat.pow_two]; exact Nat.pow_le_pow_right bs_pos (by decide))
      refine (down_any g8 0 (x + v / x) 1 (by decide) hs16 _ (Digs.of_sz m8)).mono ?_
      rintro e w5 ⟨⟨bb, rfl⟩, hb5⟩
      rw [show (2 : Nat) ^ 1 = 2 from rfl]
      have s0 := m0.below hb5 m0.lt
      have s1 := m1.below hb5 m1.lt
      have s5 := m5.below hb5 m5.lt
      have s8 := m8.below hb5 m8.lt
      have hB5 : Below w.heap.size w w5 := hB4.trans (hb5.mono hB4.size)
      clear m0 m1 m5 m8 hb5 hB4
      have hge := newton_ge v x x0'
      have hend := newton_end v x x0' x2
      generalize hy : (x + v / x) / 2 = y at *
      go_wp2_with (first | (refine isStoreL (ty := 52) rfl ?_; refine wpList_store_row ?_ 52 _ _ rfl (g8) (sz y) rfl rfl _ (_) (s8) (by rw [sz_size]; kernel_rfl) (by simp) (sz_one _) ?_; (focus rfl)) | fail)
      have k0 := s0.rowOther g8 (sz y) (by omega)
      have k1 := s1.rowOther g8 (sz y) (by omega)
      have k5 := s5.rowOther g8 (sz y) (by omega)
      have k8 := s8.row (sz y)
      have hB6 : Below w.heap.size w (w5.setRow g8 (sz y)) := below_setRow hB5 hg8 _
      generalize w5.setRow g8 (sz y) = W6 at *
      clear s0 s1 s5 s8 hB5
      have hy16 : y < Bs ^ 16 := by omega
      refine (cmp_any g8 0 y g 0 x W6 (Digs.of_sz k8) (Digs.of_sz k5) hy16 hxx).mono ?_
      rintro e w7 ⟨rfl, hb7, hz7⟩
      have s0 := k0.below hb7 k0.lt
      have s1 := k1.below hb7 k1.lt
      have s5 := k5.below hb7 k5.lt
      have s8 := k8.below hb7 k8.lt
      have hB7 : Below w.heap.size w w7 := hB6.trans (hb7.mono hB6.size)
      clear k0 k1 k5 k8 hb7 hB6 hz7
      by_cases hyx : x ≤ y
      · have hxe : x = isq v := hend hyx
        have hcm : ¬ cm y x < 0 := by rw [cm_neg]; omega
        have hxt : x < Top := Nat.lt_trans (show x < 2 ^ 64 from x1) (pow_up 64 TopBits (by decide))
        have AS := Lib.hid hxe
        clear hxe hyx hend hge hy
        go_wp2_with (first | (refine isLoadL (ty := 52) rfl ?_; refine wpList_load_row ?_ 52 _ rfl (g) rfl _ (sz x) _ _ (s5) Try.underlying52 rfl (by rw [sz_size]; kernel_rfl) ?_; (focus rfl)) | fail)
        refine (made_any false x hxt _).mono ?_
        rintro e w8 ⟨rfl, hb8⟩
        rw [show (false && decide (x ≠ 0)) = false from rfl]
        have t1 := s1.below hb8 s1.lt
        have hB8 : Below w.heap.size w w8 := hB7.trans (hb8.mono hB7.size)
        clear s0 s1 s5 s8 hb8 hB7
        go_wp2_with (first | (refine isStoreL (ty := 54) rfl ?_; refine wpList_store_row ?_ 54 _ _ rfl (w.heap.size + 1) (wi false false x) rfl rfl _ (_) (t1) (by rw [wi_size]; kernel_rfl) (by simp) (wi_one _ _ _) ?_; (focus rfl)) | fail)
        have hl := run_loadVar_row (P := Try.prog) _ _ _ 54 _ _ _ (t1.row (wi false false x)) Try.underlying54 rfl (by rw [wi_size]; kernel_rfl)
        exact bodyPost_ret (v := .tuple #[.agg (wi false false x), .int .i64 0]) (by simp [results, Try.results36, asAddr, hl]) rfl ⟨by rw [← AS.out], below_setRow hB8 (by omega) _⟩
      · have hcm : cm y x < 0 := by rw [cm_neg]; omega
        have hy0 : 0 < y := by
          have := isq_pos (show 0 < v from by omega)
          omega
        have AS : Aside (y < x ∧ isq v ≤ y) := ⟨by omega, hge⟩
        clear hyx hend hge hy
        go_wp2_with (first | (refine isLoadL (ty := 52) rfl ?_; refine wpList_load_row ?_ 52 _ rfl (g8) rfl _ (sz y) _ _ (s8) Try.underlying52 rfl (by rw [sz_size]; kernel_rfl) ?_; (focus rfl)) | (refine isStoreL (ty := 52) rfl ?_; refine wpList_store_row ?_ 52 _ _ rfl (g) (sz y) rfl rfl _ (_) (s5) (by rw [sz_size]; kernel_rfl) (by simp) (sz_one _) ?_; (focus rfl)) | fail)
        go_roundg y
        case measure => exact AS.out.1
        case rel => exact ⟨hy0, by have := AS.out.1; omega, AS.out.2, s0.rowOther g (sz y) (by omega), s1.rowOther g (sz y) (by omega), s5.row (sz y), below_setRow hB7 (by omega) _⟩
end Go.Proofs.Ytkjeebabcdnjkaa
