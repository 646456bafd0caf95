/-
  The walks of wide's down by one, Sqrt, Cmp, and of root's WideUp, Up.
-/
import Derived.Test.YtgmfnpmmfghkkaaWa
import Derived.Test.YtgmfnpmmfghkkaaI64
import Derived.Test.YtgmfnpmmfghkkaaRoot0
import Derived.Test.YtgmfnpmmfghkkaaWide6
import Derived.Test.YtgmfnpmmfghkkaaMore
set_option linter.unusedVariables false
set_option linter.unusedSimpArgs false
namespace Go.Proofs.Ytgmfnpmmfghkkaa
open Go Go.RowKit Sx

theorem cUp (i f v k : Nat) (h : List (Option Chunk)) (h1 : Has h i f v) (hk : k < 64) : CallOK Try.prog 70 [.pointer (some ⟨i, f, some 0⟩), .int .i64 k] h (.agg ⟨limL 16 (dg (v * 2 ^ k))⟩) [] [i] :=
  call_heap [i] (plain_lim _ _) (Try.call70) fun ρ w hc => up_any (ρ i).1 ((ρ i).2 + f) v k hk w (h1.digs (by simp) hc)
theorem fd2 (n : Nat) : ((n : Nat) : Int).fdiv (2 ^ sh (Int.tmod 1 64) IntKind.u64) = ((n / 2 : Nat) : Int) := by
  rw [show sh (Int.tmod 1 64) IntKind.u64 = 1 from by decide, Int.fdiv_eq_ediv_of_nonneg _ (by decide)]; omega
def dn1 (v : Nat) : Bool := IntKind.u64.wrap (((dg v 0 : Nat) : Int) * 2 ^ 63) != 0
theorem downTo_zero (v : Nat) : limL 16 (downTo v 1 0) = limL 16 (fun _ => 0) := limL_same fun j _ => by simp [downTo]
theorem downTo_end (v : Nat) : limL 16 (downTo v 1 16) = limL 16 (dg (v / 2)) := limL_same fun j hj => by unfold downTo; rw [if_pos hj]
/-- The digits while the i-th is half done. -/
def downM (v i : Nat) : Nat → Nat := fun j => if j = i then dg v i / 2 else downTo v 1 i j
set_option maxRecDepth 100000 in
set_option maxHeartbeats 1000000 in
theorem cDown1 (i v : Nat) (w1 : Bool) (h : List (Option Chunk)) (hi : h[i]? = some (some ⟨w1, 16, [(0, 16, .agg ⟨limL 16 (dg v)⟩)]⟩)) (hv : v < Bs ^ 16) :
    CallOK Try.prog 74 [.pointer (some ⟨i, 0, some 0⟩), .int .i64 1] h (.tuple #[.agg ⟨limL 16 (dg (v / 2))⟩, .bool (dn1 v)]) [] [i] := by
  refine call_sub (G := tys) [⟨i, _, ⟨false, 16, [(0, 16, .agg ⟨limL 16 (dg v)⟩)]⟩, ⟨false, 0, []⟩⟩] [] [.pointer (some ⟨0, 0, some 0⟩), .int .i64 1] tysOK mixed Try.func74 (by rfl) (Try.call74) ⟨hi, trivial⟩ ⟨lim_re _, trivial⟩ (by simp [Apart]) trivial ⟨.ptr rfl, .plain rfl, trivial⟩ ?_
  repeat' (refine N.go ?_; first | with_reducible refine N.obl (by decide) ?_ | with_reducible refine N.obl (flat_wi _ _ _) ?_ | with_reducible refine N.obl (flat_lim _ _) ?_ | with_reducible refine N.eq ?_ | with_reducible refine N.obl rfl ?_ | with_reducible refine N.obl ⟨by kernel_rfl, by kernel_rfl⟩ ?_ | with_reducible refine N.forkT ?_ | with_reducible refine N.forkF ?_ | with_reducible refine N.min2 ?_ | refine N.forkNo (by decide) ?_ | refine N.forkYes (by decide) ?_)
  refine N.go ?_
  refine N.roll 1 ?_
  repeat' (refine N.go ?_; first | with_reducible refine N.obl (by decide) ?_ | with_reducible refine N.obl (flat_wi _ _ _) ?_ | with_reducible refine N.obl (flat_lim _ _) ?_ | with_reducible refine N.eq ?_ | with_reducible refine N.obl rfl ?_ | with_reducible refine N.obl ⟨by kernel_rfl, by kernel_rfl⟩ ?_ | with_reducible refine N.forkT ?_ | with_reducible refine N.forkF ?_ | refine N.forkNo (by decide) ?_ | refine N.forkYes (by decide) ?_)
  refine N.go ?_
  refine N.loop (α := Nat) (fun i => i ≤ 16) (fun i => 16 - i) (fun i => [(9, .int .i64 (i : Int))]) (fun i => [(2, ⟨true, 16, [(0, 16, .agg ⟨limL 16 (downTo v 1 i)⟩)]⟩)]) 0 (Nat.zero_le _) ?_ ?_
  · repeat (refine N.go ?_; first | exact N.true | with_reducible refine N.obl rfl ?_ | with_reducible refine N.obl (ChunkLe.refl _) ?_ | refine N.obl (ChunkLe.of (by rw [downTo_zero]; rfl)) ?_)
  · intro n hn
    by_cases hlt : n < 16
    · have hs := shr_step v n 1 (by decide)
      have hd := dg_lt v n
      have hd1 := dg_lt v (n + 1)
      have hst : ∀ k, k < 16 → k ≠ n → downM v n k = downTo v 1 n k := fun k _ hk => by unfold downM; rw [if_neg hk]
      by_cases hlt2 : n + 1 < 16
      · have hfin : bits .or .u64 (((dg v n / 2 : Nat) : Int)) (IntKind.u64.wrap (((dg v (n + 1) : Nat) : Int) * 2 ^ 63)) = ((downTo v 1 (n + 1) n : Nat) : Int) := by
          have := or_down (dg v n) (dg v (n + 1)) 1 (by decide) (by decide) hd
          rw [downTo_at, hs, ← this, int_shr]
        repeat' (refine N.go ?_; first | with_reducible refine N.obl (by decide) ?_ | with_reducible refine N.obl (flat_wi _ _ _) ?_ | with_reducible refine N.obl (flat_lim _ _) ?_ | with_reducible refine N.eq ?_ | with_reducible refine N.obl rfl ?_ | with_reducible refine N.obl ⟨by kernel_rfl, by kernel_rfl⟩ ?_ | with_reducible refine N.forkT ?_ | with_reducible refine N.forkF ?_ | refine N.forkYes (by rw [decide_eq_true_eq]; (try rw [IntWalk.i64_in _ (by omega)]); omega) ?_ | refine N.idx n 1 (by first | rfl | (rw [show IntKind.i64.wrap (Int.tdiv 1 64) = 0 from by decide, IntWalk.i64_in _ (by omega)]; omega)) hlt ?_ | refine N.idx (n + 1) 1 (by rw [IntWalk.i64_in _ (by omega)]; omega) hlt2 ?_ | refine N.load _ (reads_lim (p := n + 1) hlt2 (by first | rfl | omega)) ?_ | refine N.load _ (reads_lim (f := dg v) (p := n) hlt (by first | rfl | omega)) ?_ | refine N.load (.int .u64 ((dg v n / 2 : Nat) : Int)) (by have := reads_lim (o := true) (f := downM v n) (p := n) (q := n) hlt rfl; unfold downM at this; rw [if_pos rfl] at this; exact this) ?_ | refine N.store ⟨true, 16, [(0, 16, .agg ⟨limL 16 (downM v n)⟩)]⟩ (writes_lim (f := downTo v 1 n) (g := downM v n) (p := n) hlt (by first | rfl | omega) (by unfold downM; rw [if_pos rfl]; exact fd2 _) hst) ?_ | refine N.store ⟨true, 16, [(0, 16, .agg ⟨limL 16 (downTo v 1 (n + 1))⟩)]⟩ (writes_lim (f := downM v n) (g := downTo v 1 (n + 1)) (p := n) hlt (by first | rfl | omega) hfin (fun k hk hk1 => by rw [hst k hk hk1]; exact (downTo_step v 1 n k hk1).symm)) ?_ | refine N.forkNo (by decide) ?_ | refine N.forkYes (by decide) ?_ | refine N.obl (by decide) ?_)
        refine N.go ?_
        refine N.next (n + 1) ⟨by omega, by omega⟩ ?_
        repeat (refine N.go ?_; first | exact N.true | with_reducible refine N.obl rfl ?_ | with_reducible refine N.obl (ChunkLe.refl _) ?_ | refine N.obl (int_i64 (by rw [IntWalk.i64_in _ (by omega)]; rfl)) ?_)
      · obtain rfl : n = 15 := by omega
        have hz15 : dg v (15 + 1) = 0 := dg_big v 16 hv
        repeat' (refine N.go ?_; first | with_reducible refine N.obl (by decide) ?_ | with_reducible refine N.obl (flat_wi _ _ _) ?_ | with_reducible refine N.obl (flat_lim _ _) ?_ | with_reducible refine N.eq ?_ | with_reducible refine N.obl rfl ?_ | with_reducible refine N.obl ⟨by kernel_rfl, by kernel_rfl⟩ ?_ | with_reducible refine N.forkT ?_ | with_reducible refine N.forkF ?_ | refine N.forkYes (by decide) ?_ | refine N.forkNo (by decide) ?_ | refine N.idx 15 1 (by first | rfl | decide) (by decide) ?_ | refine N.load _ (reads_lim (f := dg v) (p := 15) (by decide) (by first | rfl | omega)) ?_ | refine N.store ⟨true, 16, [(0, 16, .agg ⟨limL 16 (downTo v 1 16)⟩)]⟩ (writes_lim (f := downTo v 1 15) (g := downTo v 1 16) (p := 15) (by decide) (by first | rfl | omega) (by rw [downTo_at v 1 15, hs, hz15]; exact (fd2 _).trans (by simp)) (fun k _ hk1 => (downTo_step v 1 15 k hk1).symm)) ?_ | refine N.obl (by decide) ?_)
        refine N.go ?_
        refine N.next 16 ⟨by omega, by omega⟩ ?_
        repeat (refine N.go ?_; first | exact N.true | with_reducible refine N.obl rfl ?_ | with_reducible refine N.obl (ChunkLe.refl _) ?_ | refine N.obl (int_i64 (by decide)) ?_)
    · obtain rfl : n = 16 := by omega
      refine N.go ?_
      refine N.forkNo (by decide) ?_
      rw [downTo_end]
      repeat' (refine N.go ?_; first | with_reducible refine N.obl (by decide) ?_ | with_reducible refine N.obl (flat_wi _ _ _) ?_ | with_reducible refine N.obl (flat_lim _ _) ?_ | with_reducible refine N.eq ?_ | with_reducible refine N.obl rfl ?_ | with_reducible refine N.obl ⟨by kernel_rfl, by kernel_rfl⟩ ?_ | with_reducible refine N.forkT ?_ | with_reducible refine N.forkF ?_ | exact N.true | refine N.obl trivial ?_ | refine N.idx 0 0 (by decide) (by decide) ?_ | refine N.load _ (reads_lim (f := dg v) (p := 0) (by decide) rfl) ?_ | refine N.obl (.plain (by simp [plain3, plain_lim]; rfl)) ?_ | refine N.forkNo (by decide) ?_ | refine N.forkYes (by decide) ?_ | refine N.obl (by decide) ?_)
end Go.Proofs.Ytgmfnpmmfghkkaa
