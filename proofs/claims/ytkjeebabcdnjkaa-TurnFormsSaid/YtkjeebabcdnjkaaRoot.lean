/-
  The walks of Int64, narrow, WideDown, root.Sqrt at numbers of one digit.
-/
import Derived.Test.YtkjeebabcdnjkaaWide8
set_option linter.unusedVariables false
namespace Go.Proofs.Ytkjeebabcdnjkaa
open Go.RowKit

set_option maxRecDepth 100000 in
theorem int64_small (v : Nat) (hv : v < 9223372036854775808) (w : World) :
    Calls Try.prog 44 #[.agg (wi false false v)] w fun e w' => e = .returned (.tuple #[.int .i64 v, .bool true]) ∧ Below w.heap.size w w' := by
  have hv1 : v < 18446744073709551616 := by omega
  have hv16 : v < Bs ^ 16 := Nat.lt_of_lt_of_le hv1 (Nat.le_self_pow (by decide) Bs)
  have hbl : bl v ≤ 63 := bl_small v 63 hv16 hv
  have hB : Below w.heap.size w w := Below.refl _ _
  have r0 := IsRow.new w (wi false false v) 54
  have c0 := r0.cell (wi_neg false false v)
  have c1 := r0.cell (wi_over false false v)
  have c2 := r0.cell (wi_get false false v 0 (by omega))
  rw [show dg v 0 = v from by rw [dg_small v hv1]; rfl, show 2 + 0 = 2 from rfl] at c2
  have hB0 : Below w.heap.size w (w.alloc (.cells (wi false false v) 54)) := hB.alloc (Nat.le_refl _) _
  have g1 : decide (((bl v : Nat) : Int) > 64) = false := decide_eq_false (by omega)
  have g2 : decide ((v : Int) > 9223372036854775808) = false := decide_eq_false (by omega)
  have g3 : ((v : Int) == 9223372036854775808) = false := by simp; omega
  go_enter Try.func44, Try.ntmps44
  go_wp2_with fail
  refine (bits_any w.heap.size 2 v _ (Digs.of_wi r0)).mono ?_
  rintro e w' ⟨rfl, rfl⟩
  go_wp2_with fail
  go_ret2
  exact ⟨rfl, hB0⟩

theorem narrow_small (v : Nat) (hv : v < 9223372036854775808) (w : World) :
    Calls Try.prog 35 #[.agg (wi false false v), .int .i64 0] w fun e w' => e = .returned (.tuple #[.int .i64 v, .int .i64 0]) ∧ Below w.heap.size w w' := by
  have hB : Below w.heap.size w w := Below.refl _ _
  have r0 := IsRow.new w (wi false false v) 54
  have hB0 : Below w.heap.size w (w.alloc (.cells (wi false false v) 54)) := hB.alloc (Nat.le_refl _) _
  go_enter Try.func35, Try.ntmps35
  go_wp2_with (first | (refine isLoadL (ty := 54) rfl ?_; refine wpList_load_row ?_ 54 _ rfl (w.heap.size) rfl _ (wi false false v) _ _ (r0) Try.underlying54 rfl (by rw [wi_size]; kernel_rfl) ?_; (focus rfl)) | fail)
  refine (int64_small v hv _).mono ?_
  rintro e w1 ⟨rfl, hb⟩
  have hB1 : Below w.heap.size w w1 := hB0.trans (hb.mono (by simp))
  go_wp2_with fail
  go_ret2
  exact ⟨rfl, hB1⟩

theorem widedown_small (v : Nat) (hv : v < 9223372036854775808) (w : World) :
    Calls Try.prog 29 #[.agg (wi false false v)] w fun e w' => e = .returned (.tuple #[.int .i64 (isq v), .int .i64 0]) ∧ Below w.heap.size w w' := by
  have hB : Below w.heap.size w w := Below.refl _ _
  have r0 := IsRow.new w (wi false false v) 54
  have hB0 : Below w.heap.size w (w.alloc (.cells (wi false false v) 54)) := hB.alloc (Nat.le_refl _) _
  have hi : isq v < 9223372036854775808 := by
    have h1 := isq_le v
    rcases Nat.lt_or_ge (isq v) 9223372036854775808 with h | h
    · exact h
    · have := Nat.mul_le_mul h h; omega
  go_enter Try.func29, Try.ntmps29
  go_wp2_with (first | (refine isLoadL (ty := 54) rfl ?_; refine wpList_load_row ?_ 54 _ rfl (w.heap.size) rfl _ (wi false false v) _ _ (r0) Try.underlying54 rfl (by rw [wi_size]; kernel_rfl) ?_; (focus rfl)) | fail)
  refine (sqrt_small v hv _).mono ?_
  rintro e w1 ⟨rfl, hb⟩
  have hB1 : Below w.heap.size w w1 := hB0.trans (hb.mono (by simp))
  clear hb hB0 r0
  go_wp2_with fail
  refine (narrow_small (isq v) hi _).mono ?_
  rintro e w2 ⟨rfl, hb⟩
  have hB2 : Below w.heap.size w w2 := hB1.trans (hb.mono hB1.size)
  go_wp2_with fail
  go_ret2
  exact ⟨rfl, hB2⟩

theorem rsqrt_any (n : Int) (h1 : n < 9223372036854775808) (w : World) :
    Calls Try.prog 26 #[.int .i64 n] w fun e w' => e = .returned (.int .i64 (isq n.toNat)) ∧ Below w.heap.size w w' := by
  have hm : max 0 n = (n.toNat : Int) := by omega
  have HM := Lib.hid hm
  clear hm
  have hB : Below w.heap.size w w := Below.refl _ _
  go_enter Try.func26, Try.ntmps26
  go_wp2_with fail
  rw [HM.out]
  refine (wof_pos n.toNat (by omega) _).mono ?_
  rintro e w1 ⟨rfl, hB1⟩
  go_wp2_with fail
  refine (widedown_small n.toNat (by omega) _).mono ?_
  rintro e w2 ⟨rfl, hb⟩
  have hB2 : Below w.heap.size w w2 := hB1.trans (hb.mono hB1.size)
  go_wp2_with fail
  go_ret
  exact ⟨rfl, hB2⟩
end Go.Proofs.Ytkjeebabcdnjkaa
