
/-
  The walk of wide.Mul.
-/
import Derived.Test.YtbepibdjlajppaaDoorWd
import Derived.Test.YtbepibdjlajppaaDoorMulP
set_option linter.unusedVariables false
set_option linter.unusedSimpArgs false
namespace Go.Proofs.YtbepibdjlajppaaDoor
open Go Go.RowKit Sx

theorem mul_low (ab t c : Nat) : (((((ab % 18446744073709551616 : Nat) : Int) + (t : Int) + 0) % 18446744073709551616) + (c : Int) + 0) % 18446744073709551616 = (((ab + t + c) % 18446744073709551616 : Nat) : Int) := by omega
theorem mul_high (ab t c : Nat) (h : (ab + t + c) / 18446744073709551616 < 18446744073709551616) : IntKind.u64.wrap (IntKind.u64.wrap (((ab / 18446744073709551616 : Nat) : Int) + (((ab % 18446744073709551616 : Nat) : Int) + (t : Int) + 0) / 18446744073709551616) + ((((ab % 18446744073709551616 : Nat) : Int) + (t : Int) + 0) % 18446744073709551616 + (c : Int) + 0) / 18446744073709551616) = (((ab + t + c) / 18446744073709551616 : Nat) : Int) := by
  rw [IntKind.wrap_u64, IntKind.wrap_u64]; omega
theorem int_u64 {a b : Int} (h : a = b) : Value.int .u64 a = .int .u64 b := by rw [h]
theorem int_i64 {a b : Int} (h : a = b) : Value.int .i64 a = .int .i64 b := by rw [h]

set_option maxRecDepth 100000 in
set_option maxHeartbeats 1000000 in
theorem mul_x (n1 n2 : Bool) (v u : Nat) (hv : v < Bs ^ 16) (hu : u < Bs ^ 16) (hvu : v * u < Top) (w : World) :
    Calls Tryd.prog 35 #[.agg ⟨wiL n1 false v⟩, .agg ⟨wiL n2 false u⟩] w fun e w' => e = .returned (.agg ⟨wiL ((n1 != n2) && decide (v * u ≠ 0)) false (v * u)⟩) ∧ Below w.heap.size w w' := by
  have hn1 := nd_le v
  have hn2 := nd_le u
  have hvm : v < Bs ^ nd v := ndTo_lt v 16 hv
  have hun : u < Bs ^ nd u := ndTo_lt u 16 hu
  refine calls_pure (G := tys) w tysOK mixed Tryd.func35 (by rfl) (by simp [plain_wi]) (by exact plain_wi _ _ _) ?_
  repeat (refine N.go ?_; first | with_reducible refine N.obl (flat_wi _ _ _) ?_ | with_reducible refine N.obl (flat_lim _ _) ?_ | with_reducible refine N.eq ?_ | with_reducible refine N.obl rfl ?_ | with_reducible refine N.obl ⟨by kernel_rfl, by kernel_rfl⟩ ?_ | with_reducible refine N.alt ?_ | with_reducible refine N.forkT ?_ | with_reducible refine N.forkF ?_ | refine N.call (cParts _ _ _ _ (has_wi (by rfl))) ?_)
  refine N.go ?_
  refine N.loop (α := Nat) (fun i => i ≤ nd v) (fun i => nd v - i) (fun i => [(29, .int .i64 (i : Int))]) (fun i => [(3, ⟨true, 32, [(0, 32, .agg ⟨limL 32 (dg (mT v u i))⟩)]⟩)]) 0 (Nat.zero_le _) ?_ ?_
  · repeat (refine N.go ?_; first | exact N.true | with_reducible refine N.obl rfl ?_ | with_reducible refine N.obl (ChunkLe.refl _) ?_ | refine N.obl (ChunkLe.of (by rw [mT_zero, limL_same (g := fun _ => 0) (fun j _ => dg_zero j)]; rfl)) ?_)
  · intro i hi
    by_cases hlt : i < nd v
    · refine N.go ?_
      refine N.forkYes (by simpa using hlt) ?_
      refine N.go ?_
      refine N.loop (α := Nat) (fun j => j ≤ nd u) (fun j => nd u - j) (fun j => [(33, .int .i64 (j : Int)), (9, .int .u64 ((mC v u i j : Nat) : Int))]) (fun j => [(3, ⟨true, 32, [(0, 32, .agg ⟨limL 32 (mA v u i j)⟩)]⟩)]) 0 (Nat.zero_le _) ?_ ?_
      · repeat (refine N.go ?_; first | exact N.true | with_reducible refine N.obl rfl ?_ | with_reducible refine N.obl (ChunkLe.refl _) ?_ | refine N.obl (ChunkLe.of (by rw [limL_same (f := mA v u i 0) (g := dg (mT v u i)) (fun k _ => mA_zero v u i k)])) ?_ | refine N.obl (by rw [mC_zero]; rfl) ?_)
      · intro j hj
        have da := dg_lt v i
        have db := dg_lt u j
        have dt := dg_lt (mT v u i) (i + j)
        have dc := mC_lt v u i j
        by_cases hlt2 : j < nd u
        · have hab : dg v i * dg u j ≤ 18446744073709551615 * 18446744073709551615 := Nat.mul_le_mul (by omega) (by omega)
          refine N.go ?_
          refine N.forkYes (by simpa using hlt2) ?_
          refine N.go ?_
          refine N.alt ?_
          refine N.go ?_
          refine N.idx i 1 rfl (by omega) ?_
          refine N.go ?_
          refine N.load _ (reads_wi (p := i) (by omega) rfl) ?_
          refine N.go ?_
          refine N.idx j 1 rfl (by omega) ?_
          refine N.go ?_
          refine N.load _ (reads_wi (p := j) (by omega) rfl) ?_
          refine N.go ?_
          refine N.call (cMul64 (dg v i) (dg u j) _ da db) ?_
          refine N.go ?_
          refine N.obl ⟨by kernel_rfl, by kernel_rfl⟩ ?_
          refine N.go ?_
          refine N.idx (i + j) 1 (by rw [IntWalk.i64_in _ (by omega)]; omega) (by omega) ?_
          refine N.go ?_
          refine N.load _ (reads_lim (p := i + j) (by omega) rfl) ?_
          rw [mA_old]
          refine N.go ?_
          refine N.call (cAdd64 _ _ _ _ (by omega) (by omega) (by omega) (by omega) (by omega) (by omega)) ?_
          refine N.go ?_
          refine N.call (cAdd64 _ _ _ _ (by omega) (by omega) (by omega) (by omega) (by omega) (by omega)) ?_
          refine N.go ?_
          refine N.idx (i + j) 1 (by rw [IntWalk.i64_in _ (by omega)]; omega) (by omega) ?_
          refine N.go ?_
          refine N.store ⟨true, 32, [(0, 32, .agg ⟨limL 32 (mA v u i (j + 1))⟩)]⟩ (writes_lim (p := i + j) (by omega) rfl (by rw [mA_at]; exact mul_low _ _ _) (fun k _ hk => mA_step v u i j k hk)) ?_
          refine N.go ?_
          refine N.next (j + 1) ⟨by omega, by omega⟩ ?_
          repeat (refine N.go ?_; first | exact N.true | with_reducible refine N.obl rfl ?_ | with_reducible refine N.obl (ChunkLe.refl _) ?_ | refine N.obl (int_i64 (by rw [IntWalk.i64_in _ (by omega)]; rfl)) ?_ | refine N.obl (int_u64 (by rw [mC_step]; exact mul_high _ _ _ (total_lt da db dt dc))) ?_)
        · refine N.go ?_
          refine N.forkNo (by simpa using hlt2) ?_
          obtain rfl : j = nd u := by omega
          refine N.go ?_
          refine N.idx (i + nd u) 1 (by rw [IntWalk.i64_in _ (by omega)]; omega) (by omega) ?_
          refine N.go ?_
          refine N.store ⟨true, 32, [(0, 32, .agg ⟨limL 32 (dg (mT v u (i + 1)))⟩)]⟩ (writes_lim (p := i + nd u) (by omega) rfl (by rw [mul_end v u i (nd u) _ hun, if_neg (by omega), if_pos rfl]) (fun k _ hk => by
            rw [mul_end v u i (nd u) k hun]
            by_cases h : k < i + nd u
            · rw [if_pos h]
            · rw [if_neg h, if_neg hk, mA_high _ _ _ _ _ (by omega)])) ?_
          refine N.go ?_
          refine N.next (i + 1) ⟨by omega, by omega⟩ ?_
          repeat (refine N.go ?_; first | exact N.true | with_reducible refine N.obl rfl ?_ | with_reducible refine N.obl (ChunkLe.refl _) ?_ | refine N.obl (int_i64 (by rw [IntWalk.i64_in _ (by omega)]; rfl)) ?_)
    · have hm : i = nd v := by omega
      subst hm
      refine N.go ?_
      refine N.forkNo (by simp) ?_
      refine N.go ?_
      rw [mT_end v u _ hvm]
      refine N.mk ⟨0, 16, 0, rfl, rfl, ?_⟩
      refine N.go ?_
      refine N.mk ⟨0, 16, 0, ⟨rfl, by decide⟩, rfl, ?_⟩
      refine N.go ?_
      refine N.mk ⟨16, .agg ⟨limL 16 (dg (v * u))⟩, ⟨true, 16, [(0, 16, .agg ⟨limL 16 (dg (v * u))⟩)]⟩, rfl, ?_, flat_lim _ _, writes_all, ?_⟩
      · have := reads_lims (o := true) (n := 32) (m := 16) (p := 0) (f := dg (v * u)) (by omega)
        simp only [Nat.zero_add] at this
        exact this
      refine N.go ?_
      refine N.obl ⟨by kernel_rfl, by kernel_rfl⟩ ?_
      refine N.go ?_
      refine N.mk ⟨16, 32, 1, rfl, ⟨rfl, by decide⟩, ?_⟩
      refine N.go ?_
      refine N.loop (α := Nat) (fun j => j ≤ 16) (fun j => 16 - j) (fun j => [(86, .int .i64 (j : Int))]) (fun _ => []) 0 (by omega) ?_ ?_
      · repeat (refine N.go ?_; first | exact N.true | with_reducible refine N.obl rfl ?_ | with_reducible refine N.obl (ChunkLe.refl _) ?_ )
      · intro j hj
        by_cases hlt3 : j < 16
        · refine N.go ?_
          refine N.forkYes (by simp; omega) ?_
          refine N.go ?_
          refine N.idx j 1 rfl hlt3 ?_
          refine N.go ?_
          refine N.load _ (reads_lim (p := 16 + j) (by omega) rfl) ?_
          refine N.go ?_
          have hz : dg (v * u) (16 + j) = 0 := dg_big _ _ (Nat.lt_of_lt_of_le (Nat.lt_trans hvu top_lt) (Nat.pow_le_pow_right bs_pos (by omega)))
          rw [hz]
          refine N.forkNo rfl ?_
          refine N.go ?_
          refine N.next (j + 1) ⟨by omega, by omega⟩ ?_
          repeat (refine N.go ?_; first | exact N.true | with_reducible refine N.obl rfl ?_ | with_reducible refine N.obl (ChunkLe.refl _) ?_ | refine N.obl (int_i64 (by rw [IntWalk.i64_in _ (by omega)]; rfl)) ?_)
        · refine N.go ?_
          refine N.forkNo (by simp; omega) ?_
          repeat (refine N.go ?_; first | with_reducible refine N.obl (flat_wi _ _ _) ?_ | with_reducible refine N.obl (flat_lim _ _) ?_ | with_reducible refine N.eq ?_ | with_reducible refine N.obl rfl ?_ | with_reducible refine N.obl ⟨by kernel_rfl, by kernel_rfl⟩ ?_ | with_reducible refine N.alt ?_ | with_reducible refine N.forkT ?_ | with_reducible refine N.forkF ?_ | refine N.call (cMade _ _ _ hvu) ?_)
          rfl
end Go.Proofs.YtbepibdjlajppaaDoor
