/-
  The walk of Dist.
-/
import Derived.Test.YtkjeebabcdnjkaaRoot
import Derived.Test.YtkjeebabcdnjkaaTurnS
set_option linter.unusedVariables false
namespace Go.Proofs.Ytkjeebabcdnjkaa
open Go.RowKit

/-- May it be a point? -/
def okPos (n : Int) : Bool := inB n 4194304
/-- The distance, down. -/
def distN (px py qx qy : Int) : Int := if okPos px && okPos py && okPos qx && okPos qy then (isq ((px - qx) * (px - qx) + (py - qy) * (py - qy)).toNat : Nat) else 0

theorem okPos_bounds {n : Int} (h : okPos n = true) : -4194304 ≤ n ∧ n ≤ 4194304 := by
  unfold okPos inB at h
  simpa using h
theorem sq_bound (d M : Int) (h1 : -M ≤ d) (h2 : d ≤ M) : 0 ≤ d * d ∧ d * d ≤ M * M := by
  have e : d * d = ((d.natAbs * d.natAbs : Nat) : Int) := (Int.natAbs_mul_self' d).symm.trans (Int.natCast_mul _ _).symm
  have h3 : d.natAbs ≤ M.toNat := by omega
  have h4 := Nat.mul_le_mul h3 h3
  have h5 : ((M.toNat * M.toNat : Nat) : Int) = M * M := by
    rw [Int.natCast_mul, Int.toNat_of_nonneg (by omega)]
  omega
theorem Try.info_i64 : (Try.prog.info? 2).isSome = true := by kernel_rfl

set_option maxRecDepth 100000 in
set_option maxHeartbeats 1000000 in
theorem dist_any (px py qx qy : Int) (w : World) :
    Calls Try.prog 16 #[.agg #[.int .i64 px, .int .i64 py], .agg #[.int .i64 qx, .int .i64 qy]] w fun e w' => e = .returned (.int .i64 (distN px py qx qy)) ∧ Below w.heap.size w w' := by
  have hB : Below w.heap.size w w := Below.refl _ _
  have i0 : ∀ w : World, (Instr.index 44 (.agg #[.int .i64 px, .int .i64 py, .int .i64 qx, .int .i64 qy]) (.int .i64 0)).run Try.prog w = .ok (.int .i64 px) w := fun w => by kernel_rfl
  have i1 : ∀ w : World, (Instr.index 44 (.agg #[.int .i64 px, .int .i64 py, .int .i64 qx, .int .i64 qy]) (.int .i64 1)).run Try.prog w = .ok (.int .i64 py) w := fun w => by kernel_rfl
  have i2 : ∀ w : World, (Instr.index 44 (.agg #[.int .i64 px, .int .i64 py, .int .i64 qx, .int .i64 qy]) (.int .i64 2)).run Try.prog w = .ok (.int .i64 qx) w := fun w => by kernel_rfl
  have i3 : ∀ w : World, (Instr.index 44 (.agg #[.int .i64 px, .int .i64 py, .int .i64 qx, .int .i64 qy]) (.int .i64 3)).run Try.prog w = .ok (.int .i64 qy) w := fun w => by kernel_rfl
  have hB2 : Below w.heap.size w ((w.alloc (.cells #[.int .i64 px, .int .i64 py] 23)).alloc (.cells #[.int .i64 qx, .int .i64 qy] 23)) := (hB.alloc (Nat.le_refl _) _).alloc (by simp) _
  go_enter Try.func16, Try.ntmps16
  go_wp2_with fail
  go_loopw [18] (fun i wr => wr = (w.alloc (.cells #[.int .i64 px, .int .i64 py] 23)).alloc (.cells #[.int .i64 qx, .int .i64 qy] 23) ∧ (i = .int .i64 0 ∨ (i = .int .i64 1 ∧ okPos px = true) ∨ (i = .int .i64 2 ∧ okPos px = true ∧ okPos py = true) ∨ (i = .int .i64 3 ∧ okPos px = true ∧ okPos py = true ∧ okPos qx = true) ∨ (i = .int .i64 4 ∧ okPos px = true ∧ okPos py = true ∧ okPos qx = true ∧ okPos qy = true))) (fun i _ => 4 - (intOf i).toNat)
  case atStart => exact ⟨by first | trivial | rfl, .inl rfl⟩
  case round =>
    obtain ⟨rfl, hrel⟩ := hrel
    rcases hrel with rfl | ⟨rfl, a1⟩ | ⟨rfl, a1, a2⟩ | ⟨rfl, a1, a2, a3⟩ | ⟨rfl, a1, a2, a3, a4⟩
    · go_wp2_with fail
      refine (in_any px 4194304 _ (by omega)).mono ?_
      rintro e w' ⟨rfl, rfl⟩
      cases hc : inB px 4194304
      · have HC := Lib.hid hc
        clear hc
        go_wp2_with fail
        go_ret
        exact ⟨by unfold distN; rw [show okPos px = false from HC.out]; simp, hB2⟩
      · have HC := Lib.hid hc
        clear hc
        go_wp2_with fail
        go_roundw
        case rel => have hc := HC.out; exact ⟨by first | trivial | rfl, .inr (.inl ⟨rfl, hc⟩)⟩
        case measure => simp [intOf]
    · have KN := Lib.hid (show okPos px = true ∧ True from ⟨a1, trivial⟩)
      clear a1
      go_wp2_with fail
      refine (in_any py 4194304 _ (by omega)).mono ?_
      rintro e w' ⟨rfl, rfl⟩
      cases hc : inB py 4194304
      · have HC := Lib.hid hc
        clear hc
        go_wp2_with fail
        go_ret
        exact ⟨by unfold distN; rw [show okPos py = false from HC.out]; simp, hB2⟩
      · have HC := Lib.hid hc
        clear hc
        go_wp2_with fail
        go_roundw
        case rel => have hc := HC.out; obtain ⟨a1, _⟩ := KN.out; exact ⟨by first | trivial | rfl, .inr (.inr (.inl ⟨rfl, a1, hc⟩))⟩
        case measure => simp [intOf]
    · have KN := Lib.hid (show okPos px = true ∧ okPos py = true ∧ True from ⟨a1, a2, trivial⟩)
      clear a1 a2
      go_wp2_with fail
      refine (in_any qx 4194304 _ (by omega)).mono ?_
      rintro e w' ⟨rfl, rfl⟩
      cases hc : inB qx 4194304
      · have HC := Lib.hid hc
        clear hc
        go_wp2_with fail
        go_ret
        exact ⟨by unfold distN; rw [show okPos qx = false from HC.out]; simp, hB2⟩
      · have HC := Lib.hid hc
        clear hc
        go_wp2_with fail
        go_roundw
        case rel => have hc := HC.out; obtain ⟨a1, a2, _⟩ := KN.out; exact ⟨by first | trivial | rfl, .inr (.inr (.inr (.inl ⟨rfl, a1, a2, hc⟩)))⟩
        case measure => simp [intOf]
    · have KN := Lib.hid (show okPos px = true ∧ okPos py = true ∧ okPos qx = true ∧ True from ⟨a1, a2, a3, trivial⟩)
      clear a1 a2 a3
      go_wp2_with fail
      refine (in_any qy 4194304 _ (by omega)).mono ?_
      rintro e w' ⟨rfl, rfl⟩
      cases hc : inB qy 4194304
      · have HC := Lib.hid hc
        clear hc
        go_wp2_with fail
        go_ret
        exact ⟨by unfold distN; rw [show okPos qy = false from HC.out]; simp, hB2⟩
      · have HC := Lib.hid hc
        clear hc
        go_wp2_with fail
        go_roundw
        case rel => have hc := HC.out; obtain ⟨a1, a2, a3, _⟩ := KN.out; exact ⟨by first | trivial | rfl, .inr (.inr (.inr (.inr ⟨rfl, a1, a2, a3, hc⟩)))⟩
        case measure => simp [intOf]
    · have b1 := okPos_bounds a1
      have b2 := okPos_bounds a2
      have b3 := okPos_bounds a3
      have b4 := okPos_bounds a4
      have HD : Hid (distN px py qx qy = (isq ((px - qx) * (px - qx) + (py - qy) * (py - qy)).toNat : Nat)) := by
        show _ = _
        unfold distN; rw [a1, a2, a3, a4]; rfl
      clear a1 a2 a3 a4
      obtain ⟨b1, b1'⟩ := b1
      obtain ⟨b2, b2'⟩ := b2
      obtain ⟨b3, b3'⟩ := b3
      obtain ⟨b4, b4'⟩ := b4
      obtain ⟨s1, s2⟩ := sq_bound (px - qx) 8388608 (by omega) (by omega)
      obtain ⟨s3, s4⟩ := sq_bound (py - qy) 8388608 (by omega) (by omega)
      go_wp2_with fail
      go_region
      go_wp2_with fail
      have hB3 := hB2.drew
      refine (rsqrt_any _ (by omega) _).mono ?_
      rintro e w2 ⟨rfl, hb⟩
      have hB4 : Below w.heap.size w w2 := hB3.trans (hb.mono hB3.size)
      go_wp2_with fail
      go_ret
      exact ⟨by rw [HD.out]; rfl, hB4⟩
end Go.Proofs.Ytkjeebabcdnjkaa
