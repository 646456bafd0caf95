import Derived.Deep.RegionHeld3
import Derived.IntWalk
import Derived.Test.YtchfbblpflcniaaM4

/-
  The walk of divide, by a divisor of one digit.
-/
set_option linter.unusedVariables false
namespace Go.Proofs.Ytchfbblpflcniaa
open Go.RowKit

theorem div64_lo (lo y : Nat) (hlo : lo < 18446744073709551616) (hy0 : 0 < y) (hy : y < 18446744073709551616) (w : World) :
    Calls Try.prog 87 #[.int .u64 0, .int .u64 lo, .int .u64 y] w fun e w' => e = .returned (.tuple #[.int .u64 (lo / y : Nat), .int .u64 (lo % y : Nat)]) ∧ Below w.heap.size w w' := by
  have hB : Below w.heap.size w w := Below.refl _ _
  have h1 : ((y : Int) == 0) = false := by simp; omega
  have h2 : ¬ (y : Int) ≤ 0 := by omega
  have h3 : (lo : Int).tdiv y = ((lo / y : Nat) : Int) := rfl
  have h4 : (lo : Int).tmod y = ((lo % y : Nat) : Int) := rfl
  have h5 : lo / y < 18446744073709551616 := Nat.lt_of_le_of_lt (Nat.div_le_self _ _) hlo
  have h6 : lo % y < 18446744073709551616 := Nat.lt_of_le_of_lt (Nat.mod_le _ _) hlo
  go_enter Try.func87, Try.ntmps87
  go_wp2_with fail
  go_region
  go_wp2_with fail
  have e1 : IntKind.u64.wrap ((lo : Int) / (y : Int)) = ((lo / y : Nat) : Int) := by
    rw [show (lo : Int) / (y : Int) = ((lo / y : Nat) : Int) from rfl, IntKind.wrap_u64]
    generalize lo / y = q at *
    omega
  have e2 : (lo : Int) % (y : Int) = ((lo % y : Nat) : Int) := rfl
  exact bodyPost_ret (v := .tuple #[.int .u64 (lo / y : Nat), .int .u64 (lo % y : Nat)]) (by simp [results, Try.results87, e1]) rfl ⟨rfl, hB.drew⟩

/-- The digits of a quotient, as far as they are reckoned (from the top). -/
def dvTo (a b n : Nat) : Nat → Nat := fun j => if n ≤ j then dg (a / b) j else 0
theorem dvTo_step (a b n j : Nat) (h : j ≠ n) : dvTo a b (n + 1) j = dvTo a b n j := by
  unfold dvTo; by_cases hj : n ≤ j <;> simp [hj, show n + 1 ≤ j ↔ n < j from Iff.rfl] <;> omega
theorem dvTo_at (a b n : Nat) : dvTo a b n n = dg (a / b) n := by unfold dvTo; rw [if_pos (Nat.le_refl _)]

/-- What is left of a division, behind so many digits. -/
def rm (a b i : Nat) : Nat := a / Bs ^ i % b
theorem cm_neg (a b : Nat) : cm a b < 0 ↔ a < b := by unfold cm; split <;> (try split) <;> omega
theorem nd_one (b : Nat) (h0 : 0 < b) (h : b < 18446744073709551616) : nd b = 1 := by
  have key : ∀ n, ndTo b (n + 1) = 1 := by
    intro n
    induction n with
    | zero =>
      rw [ndTo]
      rw [if_neg (by rw [dg_small b h]; simp; omega)]
    | succ n ih => rw [ndTo, if_pos (by rw [dg_small b h]; simp), ih]
  exact key 15

set_option maxRecDepth 100000 in
set_option maxHeartbeats 1000000 in
theorem divide_one (a b : Nat) (ha : a < Bs ^ 16) (hb0 : 0 < b) (hb : b < 18446744073709551616)
    (H : ∀ (i : Nat) (w : World), i < nd a → Calls Try.prog 87 #[.int .u64 (rm a b (i + 1) : Nat), .int .u64 (dg a i : Nat), .int .u64 (b : Nat)] w fun e w' =>
      e = .returned (.tuple #[.int .u64 (dg (a / b) i : Nat), .int .u64 (rm a b i : Nat)]) ∧ Below w.heap.size w w') (w : World) :
    Calls Try.prog 63 #[.agg (sz a), .agg (sz b)] w fun e w' => e = .returned (.tuple #[.agg (sz (a / b)), .agg (sz (a % b))]) ∧ Below w.heap.size w w' := by
  have hb16 : b < Bs ^ 16 := Nat.lt_of_lt_of_le hb (Nat.le_self_pow (by decide) Bs)
  have hB : Below w.heap.size w w := Below.refl _ _
  go_enter Try.func63, Try.ntmps63
  go_wp2_with fail
  have r0 : IsRow ((((((w.alloc (.cells (sz a) 50)).alloc (.cells (sz b) 50)).alloc (.cells (sz 0) 50)).alloc (.cells (sz 0) 50)).alloc (.cells (sz 0) 50)).alloc (.cells (sz 0) 50)) w.heap.size 50 (sz a) := (((((IsRow.new w (sz a) 50).alloc (.cells (sz b) 50)).alloc (.cells (sz 0) 50)).alloc (.cells (sz 0) 50)).alloc (.cells (sz 0) 50)).alloc (.cells (sz 0) 50)
  have r1 : IsRow ((((((w.alloc (.cells (sz a) 50)).alloc (.cells (sz b) 50)).alloc (.cells (sz 0) 50)).alloc (.cells (sz 0) 50)).alloc (.cells (sz 0) 50)).alloc (.cells (sz 0) 50)) (w.heap.size + 1) 50 (sz b) := by
    have h := ((((IsRow.new (w.alloc (.cells (sz a) 50)) (sz b) 50).alloc (.cells (sz 0) 50)).alloc (.cells (sz 0) 50)).alloc (.cells (sz 0) 50)).alloc (.cells (sz 0) 50)
    rw [show (w.alloc (.cells (sz a) 50)).heap.size = w.heap.size + 1 from by simp] at h
    exact h
  have r2 : IsRow ((((((w.alloc (.cells (sz a) 50)).alloc (.cells (sz b) 50)).alloc (.cells (sz 0) 50)).alloc (.cells (sz 0) 50)).alloc (.cells (sz 0) 50)).alloc (.cells (sz 0) 50)) (w.heap.size + 1 + 1) 50 (sz 0) := by
    have h := (((IsRow.new ((w.alloc (.cells (sz a) 50)).alloc (.cells (sz b) 50)) (sz 0) 50).alloc (.cells (sz 0) 50)).alloc (.cells (sz 0) 50)).alloc (.cells (sz 0) 50)
    rw [show ((w.alloc (.cells (sz a) 50)).alloc (.cells (sz b) 50)).heap.size = w.heap.size + 1 + 1 from by simp] at h
    exact h
  have r3 : IsRow ((((((w.alloc (.cells (sz a) 50)).alloc (.cells (sz b) 50)).alloc (.cells (sz 0) 50)).alloc (.cells (sz 0) 50)).alloc (.cells (sz 0) 50)).alloc (.cells (sz 0) 50)) (w.heap.size + 1 + 1 + 1) 50 (sz 0) := by
    have h := ((IsRow.new (((w.alloc (.cells (sz a) 50)).alloc (.cells (sz b) 50)).alloc (.cells (sz 0) 50)) (sz 0) 50).alloc (.cells (sz 0) 50)).alloc (.cells (sz 0) 50)
    rw [show (((w.alloc (.cells (sz a) 50)).alloc (.cells (sz b) 50)).alloc (.cells (sz 0) 50)).heap.size = w.heap.size + 1 + 1 + 1 from by simp] at h
    exact h
  have r4 : IsRow ((((((w.alloc (.cells (sz a) 50)).alloc (.cells (sz b) 50)).alloc (.cells (sz 0) 50)).alloc (.cells (sz 0) 50)).alloc (.cells (sz 0) 50)).alloc (.cells (sz 0) 50)) (w.heap.size + 1 + 1 + 1 + 1) 50 (sz 0) := by
    have h := (IsRow.new ((((w.alloc (.cells (sz a) 50)).alloc (.cells (sz b) 50)).alloc (.cells (sz 0) 50)).alloc (.cells (sz 0) 50)) (sz 0) 50).alloc (.cells (sz 0) 50)
    rw [show ((((w.alloc (.cells (sz a) 50)).alloc (.cells (sz b) 50)).alloc (.cells (sz 0) 50)).alloc (.cells (sz 0) 50)).heap.size = w.heap.size + 1 + 1 + 1 + 1 from by simp] at h
    exact h
  have hB0 : Below w.heap.size w ((((((w.alloc (.cells (sz a) 50)).alloc (.cells (sz b) 50)).alloc (.cells (sz 0) 50)).alloc (.cells (sz 0) 50)).alloc (.cells (sz 0) 50)).alloc (.cells (sz 0) 50)) := by
    repeat (first | with_reducible exact hB | with_reducible refine Below.alloc ?_ (by first | (simp; done) | (simp; omega) | omega) _)
  have hsz0 : ((((((w.alloc (.cells (sz a) 50)).alloc (.cells (sz b) 50)).alloc (.cells (sz 0) 50)).alloc (.cells (sz 0) 50)).alloc (.cells (sz 0) 50)).alloc (.cells (sz 0) 50)).heap.size = w.heap.size + 6 := by simp
  rw [← sz_zero]
  generalize ((((((w.alloc (.cells (sz a) 50)).alloc (.cells (sz b) 50)).alloc (.cells (sz 0) 50)).alloc (.cells (sz 0) 50)).alloc (.cells (sz 0) 50)).alloc (.cells (sz 0) 50)) = W at r0 r1 r2 r3 r4 hB0 hsz0 ⊢
  refine (cmp_any w.heap.size 0 a (w.heap.size + 1) 0 b W (Digs.of_sz r0) (Digs.of_sz r1) ha hb16).mono ?_
  rintro e w1 ⟨rfl, hb1, hs1⟩
  have l0 := r0.below hb1 r0.lt
  have l1 := r1.below hb1 r1.lt
  have l2 := r2.below hb1 r2.lt
  have l3 := r3.below hb1 r3.lt
  have l4 := r4.below hb1 r4.lt
  have hB1 : Below w.heap.size w w1 := hB0.trans (hb1.mono (by omega))
  have hz1 : w1.heap.size = w.heap.size + 6 := by omega
  clear r0 r1 r2 r3 r4 hb1 hB0 hs1 hsz0 hB
  by_cases hab : a < b
  · have hc : cm a b = -1 := by unfold cm; rw [if_pos hab]
    rw [hc]
    clear hc
    go_wp2_with fail
    refine wp_region_any (by kernel_rfl) ?_
    change wpAny _ _ _ _ _ _ _ (World.drew _)
    refine wpAny_ready (rs := [0, 1]) (by kernel_rfl) (by simp) ?_
    refine AllReady.cons rfl (fun K hK => ?_) (AllReady.cons rfl (fun K hK => ?_) AllReady.nil)
    · refine step_load_row rfl 50 _ rfl (w.heap.size + 1 + 1 + 1 + 1) rfl _ (sz 0) _ _ (l4.drew) Try.underlying50 rfl (by rw [sz_size]; kernel_rfl) ?_; refine hK _ _ ?_; clear hK K
      refine wpAny_ready (rs := [1, 2]) (by kernel_rfl) (by simp) ?_
      refine AllReady.cons rfl (fun K hK => ?_) (AllReady.cons rfl (fun K hK => ?_) AllReady.nil)
      · refine step_load_row rfl 50 _ rfl (w.heap.size) rfl _ (sz a) _ _ (l0.drew) Try.underlying50 rfl (by rw [sz_size]; kernel_rfl) ?_; refine hK _ _ ?_; clear hK K
        refine wpAny_ready (rs := [2]) (by kernel_rfl) (by simp) ?_
        refine AllReady.cons rfl (fun K hK => ?_) AllReady.nil
        refine step_store_row rfl 50 _ _ rfl (w.heap.size + 1 + 1) (sz 0) rfl rfl _ _ (l2.drew) (by rw [sz_size]; kernel_rfl) (by simp) (sz_one _) ?_; refine hK _ _ ?_; clear hK K
        refine wpAny_ready (rs := [3]) (by kernel_rfl) (by simp) ?_
        refine AllReady.cons rfl (fun K hK => ?_) AllReady.nil
        refine step_store_row rfl 50 _ _ rfl (w.heap.size + 1 + 1 + 1) (sz a) rfl rfl _ _ (l3.drew.rowOther (w.heap.size + 1 + 1) (sz 0) (by omega)) (by rw [sz_size]; kernel_rfl) (by simp) (sz_one _) ?_; refine hK _ _ ?_; clear hK K
        refine wpAny_done (by kernel_rfl) ?_ _
        go_wp2_with fail
        have m2 := (l2.drew.row (sz 0)).rowOther (w.heap.size + 1 + 1 + 1) (sz a) (by omega)
        have m3 := (l3.drew.rowOther (w.heap.size + 1 + 1) (sz 0) (by omega)).row (sz a)
        have h2 := run_loadVar_row (P := Try.prog) _ _ _ 50 _ _ _ m2 Try.underlying50 rfl (by rw [sz_size]; kernel_rfl)
        have h3 := run_loadVar_row (P := Try.prog) _ _ _ 50 _ _ _ m3 Try.underlying50 rfl (by rw [sz_size]; kernel_rfl)
        exact bodyPost_ret (results_cell2 Try.results63 _ _ _ _ _ _ rfl rfl h2 h3) rfl ⟨by rw [Nat.div_eq_of_lt hab, Nat.mod_eq_of_lt hab], below_setRow (below_setRow hB1.drew (by omega) _) (by omega) _⟩
      · refine step_store_row rfl 50 _ _ rfl (w.heap.size + 1 + 1) (sz 0) rfl rfl _ _ (l2.drew) (by rw [sz_size]; kernel_rfl) (by simp) (sz_one _) ?_; refine hK _ _ ?_; clear hK K
        refine wpAny_ready (rs := [1]) (by kernel_rfl) (by simp) ?_
        refine AllReady.cons rfl (fun K hK => ?_) AllReady.nil
        refine step_load_row rfl 50 _ rfl (w.heap.size) rfl _ (sz a) _ _ (l0.drew.rowOther (w.heap.size + 1 + 1) (sz 0) (by omega)) Try.underlying50 rfl (by rw [sz_size]; kernel_rfl) ?_; refine hK _ _ ?_; clear hK K
        refine wpAny_ready (rs := [3]) (by kernel_rfl) (by simp) ?_
        refine AllReady.cons rfl (fun K hK => ?_) AllReady.nil
        refine step_store_row rfl 50 _ _ rfl (w.heap.size + 1 + 1 + 1) (sz a) rfl rfl _ _ (l3.drew.rowOther (w.heap.size + 1 + 1) (sz 0) (by omega)) (by rw [sz_size]; kernel_rfl) (by simp) (sz_one _) ?_; refine hK _ _ ?_; clear hK K
        refine wpAny_done (by kernel_rfl) ?_ _
        go_wp2_with fail
        have m2 := (l2.drew.row (sz 0)).rowOther (w.heap.size + 1 + 1 + 1) (sz a) (by omega)
        have m3 := (l3.drew.rowOther (w.heap.size + 1 + 1) (sz 0) (by omega)).row (sz a)
        have h2 := run_loadVar_row (P := Try.prog) _ _ _ 50 _ _ _ m2 Try.underlying50 rfl (by rw [sz_size]; kernel_rfl)
        have h3 := run_loadVar_row (P := Try.prog) _ _ _ 50 _ _ _ m3 Try.underlying50 rfl (by rw [sz_size]; kernel_rfl)
        exact bodyPost_ret (results_cell2 Try.results63 _ _ _ _ _ _ rfl rfl h2 h3) rfl ⟨by rw [Nat.div_eq_of_lt hab, Nat.mod_eq_of_lt hab], below_setRow (below_setRow hB1.drew (by omega) _) (by omega) _⟩
    · refine step_load_row rfl 50 _ rfl (w.heap.size) rfl _ (sz a) _ _ (l0.drew) Try.underlying50 rfl (by rw [sz_size]; kernel_rfl) ?_; refine hK _ _ ?_; clear hK K
      refine wpAny_ready (rs := [0]) (by kernel_rfl) (by simp) ?_
      refine AllReady.cons rfl (fun K hK => ?_) AllReady.nil
      refine step_load_row rfl 50 _ rfl (w.heap.size + 1 + 1 + 1 + 1) rfl _ (sz 0) _ _ (l4.drew) Try.underlying50 rfl (by rw [sz_size]; kernel_rfl) ?_; refine hK _ _ ?_; clear hK K
      refine wpAny_ready (rs := [2]) (by kernel_rfl) (by simp) ?_
      refine AllReady.cons rfl (fun K hK => ?_) AllReady.nil
      refine step_store_row rfl 50 _ _ rfl (w.heap.size + 1 + 1) (sz 0) rfl rfl _ _ (l2.drew) (by rw [sz_size]; kernel_rfl) (by simp) (sz_one _) ?_; refine hK _ _ ?_; clear hK K
      refine wpAny_ready (rs := [3]) (by kernel_rfl) (by simp) ?_
      refine AllReady.cons rfl (fun K hK => ?_) AllReady.nil
      refine step_store_row rfl 50 _ _ rfl (w.heap.size + 1 + 1 + 1) (sz a) rfl rfl _ _ (l3.drew.rowOther (w.heap.size + 1 + 1) (sz 0) (by omega)) (by rw [sz_size]; kernel_rfl) (by simp) (sz_one _) ?_; refine hK _ _ ?_; clear hK K
      refine wpAny_done (by kernel_rfl) ?_ _
      go_wp2_with fail
      have m2 := (l2.drew.row (sz 0)).rowOther (w.heap.size + 1 + 1 + 1) (sz a) (by omega)
      have m3 := (l3.drew.rowOther (w.heap.size + 1 + 1) (sz 0) (by omega)).row (sz a)
      have h2 := run_loadVar_row (P := Try.prog) _ _ _ 50 _ _ _ m2 Try.underlying50 rfl (by rw [sz_size]; kernel_rfl)
      have h3 := run_loadVar_row (P := Try.prog) _ _ _ 50 _ _ _ m3 Try.underlying50 rfl (by rw [sz_size]; kernel_rfl)
      exact bodyPost_ret (results_cell2 Try.results63 _ _ _ _ _ _ rfl rfl h2 h3) rfl ⟨by rw [Nat.div_eq_of_lt hab, Nat.mod_eq_of_lt hab], below_setRow (below_setRow hB1.drew (by omega) _) (by omega) _⟩
  · have hc : decide (cm a b < 0) = false := decide_eq_false (by rw [cm_neg]; exact hab)
    have hn1 := nd_one b hb0 hb
    go_wp2_with fail
    refine (parts_any w.heap.size 0 a _ (Digs.of_sz l0)).mono ?_
    rintro e w' ⟨rfl, rfl⟩
    go_wp2_with fail
    refine (parts_any (w.heap.size + 1) 0 b _ (Digs.of_sz l1)).mono ?_
    rintro e w' ⟨rfl, rfl⟩
    rw [hn1]
    have hna := nd_le a
    have hlt := ndTo_lt a 16 ha
    rw [show ndTo a 16 = nd a from rfl] at hlt
    go_wp2_with fail
    go_loopw [10, 11] (fun l i wr => ∃ n : Nat, n ≤ nd a ∧ i = .int .i64 (n - 1) ∧ l = .int .u64 (rm a b n : Nat) ∧ IsRow wr w.heap.size 50 (sz a) ∧ IsRow wr (w.heap.size + 1) 50 (sz b) ∧ IsRow wr (w.heap.size + 1 + 1) 50 (sz 0) ∧ IsRow wr (w.heap.size + 1 + 1 + 1) 50 (sz 0) ∧ IsRow wr (w.heap.size + 1 + 1 + 1 + 1) 50 (lim 16 (dvTo a b n)) ∧ Below w.heap.size w wr) (fun _ i _ => (intOf i + 1).toNat)
    case atStart =>
      refine ⟨nd a, Nat.le_refl _, rfl, by unfold rm; rw [Nat.div_eq_of_lt hlt, Nat.zero_mod]; rfl, l0, l1, l2, l3, ?_, hB1⟩
      rw [lim_same 16 (dvTo a b (nd a)) (dg 0) (fun j hj => by
        rw [dg_zero]; unfold dvTo
        split
        · exact dg_big _ _ (Nat.lt_of_le_of_lt (Nat.div_le_self _ _) (Nat.lt_of_lt_of_le hlt (Nat.pow_le_pow_right bs_pos (by omega))))
        · rfl)]
      exact l4
    case round =>
      clear l0 l1 l2 l3 l4 hB1 hz1
      obtain ⟨n, hn, rfl, rfl, l0, l1, l2, l3, l4, hB1⟩ := hrel
      match n, hn with
      | 0, hn =>
        rw [lim_same 16 (dvTo a b 0) (dg (a / b)) (fun j hj => by unfold dvTo; rw [if_pos (by omega)])] at l4
        have l4' : IsRow wr (w.heap.size + 1 + 1 + 1 + 1) 50 (sz (a / b)) := l4
        clear l4
        have hrm : rm a b 0 = a % b := by unfold rm; rw [Nat.pow_zero, Nat.div_one]
        have hbm : a % b < 18446744073709551616 := Nat.lt_trans (Nat.mod_lt a hb0) hb
        have hbt : Try.prog.built 50 [(0, .int .u64 ((rm a b 0 : Nat) : Int))] = some (sz (a % b)) := by rw [hrm]; exact built_sz (a % b) hbm
        clear hrm
        go_wp2_with (first | (refine isLoadL (ty := 50) rfl ?_; refine wpList_load_row ?_ 50 _ rfl (w.heap.size + 1 + 1 + 1 + 1) rfl _ (sz (a / b)) _ _ (l4') Try.underlying50 rfl (by rw [sz_size]; kernel_rfl) ?_; (focus rfl)) | (refine isBuildL (ty := 50) rfl ?_; refine wpList_build1 ?_ 50 0 _ rfl (.int .u64 ((rm a b 0 : Nat) : Int)) rfl (sz (a % b)) (hbt) ?_; (focus rfl)) | (refine isStoreL (ty := 50) rfl ?_; refine wpList_store_row ?_ 50 _ _ rfl (w.heap.size + 1 + 1) (sz (a / b)) rfl rfl _ (_) (l2) (by rw [sz_size]; kernel_rfl) (by simp) (sz_one _) ?_; (focus rfl)) | (refine isStoreL (ty := 50) rfl ?_; refine wpList_store_row ?_ 50 _ _ rfl (w.heap.size + 1 + 1 + 1) (sz (a % b)) rfl rfl _ (_) (l3.rowOther (w.heap.size + 1 + 1) (sz (a / b)) (by omega)) (by rw [sz_size]; kernel_rfl) (by simp) (sz_one _) ?_; (focus rfl)) | fail)
        have m2 := (l2.row (sz (a / b))).rowOther (w.heap.size + 1 + 1 + 1) (sz (a % b)) (by omega)
        have m3 := (l3.rowOther (w.heap.size + 1 + 1) (sz (a / b)) (by omega)).row (sz (a % b))
        have h2 := run_loadVar_row (P := Try.prog) _ _ _ 50 _ _ _ m2 Try.underlying50 rfl (by rw [sz_size]; kernel_rfl)
        have h3 := run_loadVar_row (P := Try.prog) _ _ _ 50 _ _ _ m3 Try.underlying50 rfl (by rw [sz_size]; kernel_rfl)
        exact bodyPost_ret (results_cell2 Try.results63 _ _ _ _ _ _ rfl rfl h2 h3) rfl ⟨rfl, below_setRow (below_setRow hB1 (by omega) _) (by omega) _⟩
      | n + 1, hn =>
        have e1 : ((n + 1 : Nat) : Int) - 1 = n := by omega
        rw [e1]
        have i0 : (0 : Int) ≤ (n : Int) := by omega
        have i1 : (n : Int) < 16 := by omega
        have i2 : (n : Int) ≤ 16 := by omega
        have i3 : (n : Int).toNat = n := by omega
        have c0 := l0.cell (sz_get a n (by omega))
        have c1 := l1.cell (sz_get b 0 (by omega))
        rw [show dg b 0 = b from by rw [dg_small b hb]; rfl] at c1
        have c4 := l4.cell (lim_get 16 (dvTo a b (n + 1)) n (by omega))
        have f4 := l4.frozen n
        have hz := hB1.size
        go_wp2_with fail
        go_region_held3 (fun w' => w'.cell? ⟨w.heap.size, n, none⟩ = some (.int .u64 (dg a n : Nat)) ∧ w'.cell? ⟨w.heap.size + 1, 0, none⟩ = some (.int .u64 (b : Nat))) (first | exact ⟨c0, c1⟩ | exact ⟨k0, k1⟩ | (refine ⟨?_, ?_⟩ <;> (repeat (first | with_reducible assumption | with_reducible refine cell_drew_keep ?_ | with_reducible refine cell_alloc_keep ?_ | with_reducible refine cell_set_same ?_ | with_reducible refine cell_set_keep ?_ (by first | (simp only [ne_eq, Addr.mk.injEq, and_true]; omega) | (simp; done) | (simp; omega)))); done) | (go_keep; done))
          (first | (go_at_call 87; refine (H n _ (by omega)).mono ?_; rintro e w1 ⟨rfl, hbw⟩; have m0 := l0.drew.below hbw l0.lt; have m1 := l1.drew.below hbw l1.lt; have m2 := l2.drew.below hbw l2.lt; have m3 := l3.drew.below hbw l3.lt; have m4 := l4.drew.below hbw l4.lt; have hB := hB1.drew.trans (hbw.mono hz); have k0 := m0.cell (sz_get a n (by omega)); have k1 := m1.cell (show (sz b)[0]? = some (.int .u64 (b : Nat)) from by rw [sz_get b 0 (by omega), dg_small b hb]; rfl); have k4 := m4.cell (lim_get 16 (dvTo a b (n + 1)) n (by omega)); have kf := m4.frozen n))
        all_goals
          go_wp2_with fail
          go_roundw
        all_goals first
          | (case measure => simp [intOf])
          | (case rel =>
              refine ⟨n, by omega, rfl, rfl, m0.setOther _ _ (by show w.heap.size + 1 + 1 + 1 + 1 ≠ _; omega), m1.setOther _ _ (by show w.heap.size + 1 + 1 + 1 + 1 ≠ _; omega), m2.setOther _ _ (by show w.heap.size + 1 + 1 + 1 + 1 ≠ _; omega), m3.setOther _ _ (by show w.heap.size + 1 + 1 + 1 + 1 ≠ _; omega), ?_, hB.setCell (by show w.heap.size ≤ w.heap.size + 1 + 1 + 1 + 1; omega) _⟩
              have hs := m4.set n (.int .u64 (dg (a / b) n : Nat))
              rw [lim_set 16 (dvTo a b (n + 1)) (dvTo a b n) n _ (by omega) (by rw [dvTo_at]) (fun j _ hj => dvTo_step a b n j hj)] at hs
              exact hs)
end Go.Proofs.Ytchfbblpflcniaa


/-
  The walk of bits.Div64.
-/
set_option linter.unusedVariables false
namespace Go.Proofs.Ytchfbblpflcniaa
open Go.RowKit

/-- The quotient, what is left. -/
def d64q (hi lo y : Nat) : Nat := (hi * 18446744073709551616 + lo) / y
def d64r (hi lo y : Nat) : Nat := (hi * 18446744073709551616 + lo) % y

theorem lz_any (y : Nat) (hy : y < 18446744073709551616) (w : World) : Calls Try.prog 88 #[.int .u64 y] w fun e w' => e = .returned (.int .i64 (64 - (lb y : Int))) ∧ w = w' :=
  (Try.bits_LeadingZeros64 y w (by omega) (by omega)).mono fun e w' h => ⟨h.1, h.2.symm⟩

/-- How far a divisor is shifted up. -/
theorem norm_shift (y : Nat) (h0 : 0 < y) (hy : y < 18446744073709551616) : ∃ s : Nat, s < 64 ∧ (64 : Int) - (lb y : Int) = (s : Int) ∧ 9223372036854775808 ≤ y * 2 ^ s ∧ y * 2 ^ s < 18446744073709551616 := by
  obtain ⟨b1, b2⟩ := bitLenAux_spec 64 y hy
  obtain ⟨b3, b4⟩ := b2 (by omega)
  have e : Lib.bitLenAux 64 y = lb y := rfl
  rw [e] at b1 b3 b4
  have hl := lb_le y hy
  refine ⟨64 - lb y, by omega, by omega, ?_, ?_⟩
  · have : 2 ^ (lb y - 1) * 2 ^ (64 - lb y) = 9223372036854775808 := by
      rw [← Nat.pow_add, show lb y - 1 + (64 - lb y) = 63 from by omega]
    rw [← this]
    exact Nat.mul_le_mul_right _ b3
  · have : 2 ^ lb y * 2 ^ (64 - lb y) = 18446744073709551616 := by
      rw [← Nat.pow_add, show lb y + (64 - lb y) = 64 from by omega]
    rw [← this]
    exact Nat.mul_lt_mul_of_pos_right b1 (Nat.pow_pos (by decide))

theorem and_low (x : Nat) (hx : x < 18446744073709551616) : bits .and .u64 (x : Int) 4294967295 = ((x % 4294967296 : Nat) : Int) := by
  have := (bits_nat .u64 64 (by decide) (fun n h0 h1 => by rw [IntKind.wrap_u64]; omega) x 4294967295 hx (by decide)).1
  refine this.trans ?_
  rw [show (4294967295 : Nat) = 2 ^ 32 - 1 from rfl, Nat.and_two_pow_sub_one_eq_mod]
theorem or_words (hi lo s : Nat) (hs : s < 64) (h1 : hi * 2 ^ s < 18446744073709551616) (hlo : lo < 18446744073709551616) :
    bits .or .u64 (IntKind.u64.wrap ((hi : Int) * 2 ^ s)) ((lo : Int) / 2 ^ (64 - s)) = ((hi * 2 ^ s + lo / 2 ^ (64 - s) : Nat) : Int) := by
  by_cases h0 : 0 < s
  · rw [or_up hi lo s h0 hs hlo, Nat.mod_eq_of_lt h1]
  · obtain rfl : s = 0 := by omega
    rw [u64_shl, int_shr, or_nat _ _ (Nat.mod_lt _ (by decide)) (Nat.lt_of_le_of_lt (Nat.div_le_self _ _) hlo), Nat.mod_eq_of_lt h1]
    rw [show lo / 2 ^ (64 - 0) = 0 from Nat.div_eq_of_lt hlo, Nat.or_zero, Nat.add_zero]

set_option maxRecDepth 100000 in
set_option maxHeartbeats 6000000 in
theorem div64_hi (hi lo y : Nat) (h0 : 0 < hi) (h1 : hi < y) (hlo : lo < 18446744073709551616) (hy : y < 18446744073709551616) (w : World) :
    Calls Try.prog 87 #[.int .u64 hi, .int .u64 lo, .int .u64 y] w fun e w' => e = .returned (.tuple #[.int .u64 (d64q hi lo y : Nat), .int .u64 (d64r hi lo y : Nat)]) ∧ Below w.heap.size w w' := by
  have hB : Below w.heap.size w w := Below.refl _ _
  have g1 : ((y : Int) == 0) = false := by simp; omega
  have g2 : ¬ (y : Int) ≤ hi := by omega
  have g3 : ((hi : Int) == 0) = false := by simp; omega
  obtain ⟨s, hs, hs', hY1, hY2⟩ := norm_shift y (by omega) hy
  have hp : 0 < 2 ^ s := Nat.pow_pos (by decide)
  have hhi : hi * 2 ^ s < 18446744073709551616 := Nat.lt_trans (Nat.mul_lt_mul_of_pos_right h1 hp) hY2
  have hW := Knuth.words hi lo s hs
  have hbk := Knuth.back (hi * 18446744073709551616 + lo) y s
  have hN : hi * 18446744073709551616 + lo < y * 18446744073709551616 := by omega
  have hN2 : (hi * 18446744073709551616 + lo) * 2 ^ s < y * 2 ^ s * 18446744073709551616 := by
    rw [Nat.mul_right_comm]; exact Nat.mul_lt_mul_of_pos_right hN hp
  have f1 : IntKind.u64.wrap ((y : Int) * 2 ^ s) = ((y * 2 ^ s : Nat) : Int) := by rw [u64_shl, Nat.mod_eq_of_lt hY2]
  have f4 := or_words hi lo s hs hhi hlo
  have f5 := u64_shl lo s
  have hl64 : lo * 2 ^ s % 18446744073709551616 < 18446744073709551616 := Nat.mod_lt _ (by decide)
  have hlo2 : lo / 2 ^ (64 - s) ≤ lo := Nat.div_le_self _ _
  rw [hW] at hbk hN2
  generalize hYY : y * 2 ^ s = Y at *
  generalize hu : hi * 2 ^ s + lo / 2 ^ (64 - s) = u at *
  generalize hl : lo * 2 ^ s % 18446744073709551616 = l at *
  have huY : u < Y := by omega
  clear hW hN hN2 hYY hu hl hhi hp hlo2
  have f2 : (Y : Int) / 4294967296 = ((Y / 4294967296 : Nat) : Int) := rfl
  have f3 := and_low Y hY2
  have f6 : (l : Int) / 4294967296 = ((l / 4294967296 : Nat) : Int) := rfl
  have f7 := and_low l hl64
  have eY := Nat.div_add_mod Y 4294967296
  have el := Nat.div_add_mod l 4294967296
  have y0h := Nat.mod_lt Y (show 0 < 4294967296 by decide)
  have d0h := Nat.mod_lt l (show 0 < 4294967296 by decide)
  have y1a : 2147483648 ≤ Y / 4294967296 := by omega
  have y1b : Y / 4294967296 < 4294967296 := by omega
  have d1h : l / 4294967296 < 4294967296 := by omega
  generalize Y / 4294967296 = y1 at *
  generalize Y % 4294967296 = y0 at *
  generalize l / 4294967296 = d1 at *
  generalize l % 4294967296 = d0 at *
  have HE := Lib.hid (show Y = y1 * 4294967296 + y0 ∧ l = d1 * 4294967296 + d0 from ⟨by omega, by omega⟩)
  clear eY el
  have G := Knuth.first (u := u) (d := d1) y1a y1b y0h d1h (by have := HE.out.1; show u < y1 * 4294967296 + y0; omega)
  have hq1 := G.le
  have hq2 := G.sum
  have hr1 := Nat.mod_lt u (show 0 < y1 by omega)
  have f8 : (u : Int).tdiv y1 = ((u / y1 : Nat) : Int) := rfl
  have f8' : (u : Int) / y1 = ((u / y1 : Nat) : Int) := rfl
  generalize u / y1 = q at *
  generalize u % y1 = r at *
  have hqy : ((q * y1 : Nat) : Int) = (q : Int) * (y1 : Int) := Int.natCast_mul _ _
  have f9 : IntKind.u64.wrap ((q : Int) * (y1 : Int)) = ((q * y1 : Nat) : Int) := by rw [IntKind.wrap_u64, ← hqy]; omega
  have f10 : IntKind.u64.wrap ((u : Int) - ((q * y1 : Nat) : Int)) = (r : Int) := by rw [IntKind.wrap_u64]; omega
  have f11 : IntKind.u64.wrap (q : Int) = (q : Int) := by rw [IntKind.wrap_u64]; simp only [Knuth.h] at hq1; omega
  generalize hqq : q * y1 = qy at *
  clear hqy hqq hq2
  go_enter Try.func87, Try.ntmps87
  go_wp2_with fail
  refine (lz_any y hy _).mono ?_
  rintro e w' ⟨rfl, rfl⟩
  rw [hs']
  clear hs'
  go_wp2_with fail
  clear f1 f2 f3 f4 f5 f6 f7 f8 f8' f9 f10 f11 g1 g2 g3
  have hr2 : r < 4294967296 := by omega
  have HG := Lib.hid G
  clear G hq1 hr1
  go_loopw [15, 16] (fun a b wr => wr = w ∧ ∃ q r : Nat, a = .int .u64 q ∧ b = .int .u64 r ∧ r < 4294967296 ∧ Hid (Knuth.Guess y1 y0 u d1 q r)) (fun a b _ => (intOf a).toNat)
  case atStart => exact ⟨rfl, _, _, rfl, rfl, hr2, HG⟩
  case round =>
    clear HG hr2
    obtain ⟨e0, q, r, rfl, rfl, hr2, HG⟩ := hrel
    have e0' := e0.symm
    clear e0
    subst e0'
    have hu' : u < y1 * Knuth.h + y0 := by have := HE.out.1; show u < y1 * 4294967296 + y0; omega
    have hq1 : q ≤ 4294967297 := HG.out.le
    obtain ⟨m, hm⟩ : ∃ m : Nat, q * y0 = m := ⟨_, rfl⟩
    have hm1 : m ≤ 4294967297 * 4294967295 := by rw [← hm]; exact Nat.mul_le_mul hq1 (by omega)
    have e1 : IntKind.u64.wrap ((q : Int) * (y0 : Int)) = (m : Int) := by
      rw [← Int.natCast_mul, hm, IntKind.wrap_u64]; omega
    obtain ⟨k0, hk0⟩ : ∃ k : Nat, 4294967296 * r = k := ⟨_, rfl⟩
    have e2 : IntKind.u64.wrap (4294967296 * (r : Int)) = (k0 : Int) := by rw [IntKind.wrap_u64]; omega
    obtain ⟨k, hk⟩ : ∃ k : Nat, k0 + d1 = k := ⟨_, rfl⟩
    have e3 : IntKind.u64.wrap ((k0 : Int) + (d1 : Int)) = (k : Int) := by rw [IntKind.wrap_u64]; omega
    have hkk : Knuth.h * r + d1 = k := by simp only [Knuth.h]; omega
    have hdn : Knuth.h ≤ q ∨ k < m → 0 < q ∧ Knuth.Guess y1 y0 u d1 (q - 1) (r + y1) := fun ht => Knuth.down d1h hu' HG.out (by rw [hkk, hm]; exact ht)
    have hst : q < Knuth.h → m ≤ k → q = (u * Knuth.h + d1) / (y1 * Knuth.h + y0) := fun h1 h2 => Knuth.stop d1h hu' HG.out h1 (by rw [hkk, hm]; exact h2)
    obtain ⟨r', hr'⟩ : ∃ r', r + y1 = r' := ⟨_, rfl⟩
    have e5 : IntKind.u64.wrap ((r : Int) + (y1 : Int)) = (r' : Int) := by rw [IntKind.wrap_u64]; omega
    have hr3 : r' < 18446744073709551616 := by omega
    rw [hr'] at hdn
    have HH := Lib.hid hdn
    have HS := Lib.hid hst
    have hq64 : (q : Int) < 18446744073709551616 := by omega
    clear hm hk0 hk hkk hdn hst hm1 hr'
    by_cases hA : 4294967296 ≤ q
    · have HT : Hid (Knuth.h ≤ q ∨ k < m) := .inl hA
      have t1 : decide ((q : Int) ≥ 4294967296) = true := decide_eq_true (by omega)
      have t1' : (4294967296 : Int) ≤ (q : Int) := by omega
      clear hA
      obtain ⟨h0q, hG2⟩ := HH.out (HT.out)
      obtain ⟨q', hq'⟩ : ∃ q', q - 1 = q' := ⟨_, rfl⟩
      rw [hq'] at hG2
      have HG2 := Lib.hid hG2
      have e4 : IntKind.u64.wrap ((q : Int) - 1) = (q' : Int) := by rw [IntKind.wrap_u64]; omega
      have HQ := Lib.hid (show q = q' + 1 from by omega)
      have hq2 : q' ≤ 4294967296 := by omega
      clear hG2 hq' h0q hq1
      by_cases hbr : (4294967296 : Int) ≤ (r' : Int)
      · have HF := Lib.hid (Knuth.stop' y0h d1h hu' HG2.out hq2 (by simp only [Knuth.h]; omega))
        clear hq2
        have hdq1 : (u * 4294967296 + d1) / Y = q' := by rw [HE.out.1]; exact HF.out.symm
        have hq1h : q' < 4294967296 := by rw [← hdq1, HE.out.1]; exact Knuth.digit_lt (y1 := y1) (y0 := y0) d1h hu'
        have HD1 := Lib.hid hdq1
        have aE := Nat.div_add_mod (u * 4294967296 + d1) Y
        have aQ : (u * 4294967296 + d1) / Y = q' := hdq1
        rw [aQ] at aE
        have aL := Nat.mod_lt (u * 4294967296 + d1) (show 0 < Y by omega)
        obtain ⟨v, vE⟩ : ∃ z, (u * 4294967296 + d1) % Y = z := ⟨_, rfl⟩
        rw [vE] at aE aL
        obtain ⟨aC, aCE⟩ : ∃ c, q' * Y % 18446744073709551616 = c := ⟨_, rfl⟩
        have a3 : IntKind.u64.wrap ((q' : Int) * (Y : Int)) = (aC : Int) := by rw [← Int.natCast_mul, IntKind.wrap_u64]; omega
        rw [Nat.mul_comm Y] at aE
        obtain ⟨aA, aAE⟩ : ∃ c, u * 4294967296 % 18446744073709551616 = c := ⟨_, rfl⟩
        have a1 : IntKind.u64.wrap ((u : Int) * 4294967296) = (aA : Int) := by rw [IntKind.wrap_u64]; omega
        obtain ⟨aB, aBE⟩ : ∃ c, (aA + d1) % 18446744073709551616 = c := ⟨_, rfl⟩
        have a2 : IntKind.u64.wrap ((aA : Int) + (d1 : Int)) = (aB : Int) := by rw [IntKind.wrap_u64]; omega
        have a4 : IntKind.u64.wrap ((aB : Int) - (aC : Int)) = (v : Int) := by
          rw [IntKind.wrap_u64]
          generalize q' * Y = P at *
          omega
        have Hv := Lib.hid vE
        clear aE aCE aAE aBE vE
        have hvY : v < Y := aL
        clear aQ hdq1 aL HF
        obtain ⟨qa, rfl⟩ : ∃ c, c = q' := ⟨_, rfl⟩
        have G := Knuth.first (u := v) (d := d0) y1a y1b y0h d0h (by have := HE.out.1; show v < y1 * 4294967296 + y0; omega)
        have hq1 := G.le
        have hq2 := G.sum
        have hr1 := Nat.mod_lt v (show 0 < y1 by omega)
        have f8 : (v : Int).tdiv y1 = ((v / y1 : Nat) : Int) := rfl
        have f8' : (v : Int) / y1 = ((v / y1 : Nat) : Int) := rfl
        generalize v / y1 = q0 at *
        generalize v % y1 = r0 at *
        have hqy : ((q0 * y1 : Nat) : Int) = (q0 : Int) * (y1 : Int) := Int.natCast_mul _ _
        have f9 : IntKind.u64.wrap ((q0 : Int) * (y1 : Int)) = ((q0 * y1 : Nat) : Int) := by rw [IntKind.wrap_u64, ← hqy]; omega
        have f10 : IntKind.u64.wrap ((v : Int) - ((q0 * y1 : Nat) : Int)) = (r0 : Int) := by rw [IntKind.wrap_u64]; omega
        have f11 : IntKind.u64.wrap (q0 : Int) = (q0 : Int) := by rw [IntKind.wrap_u64]; simp only [Knuth.h] at hq1; omega
        generalize hqq : q0 * y1 = qy at *
        clear hqy hqq hq2
        go_wp2_with fail
        clear f8 f8' f9 f10 f11 a1 a2 a3 a4 e1 e2 e3 e5
        have hr2' : r0 < 4294967296 := by omega
        have HG' := Lib.hid G
        clear G hq1 hr1 HG hr2 HH HS
        have hr2 := hr2'
        have HG := HG'
        clear hr2' HG'
        go_loopw [16, 18] (fun a b wr => wr = w ∧ ∃ q r : Nat, b = .int .u64 q ∧ a = .int .u64 r ∧ r < 4294967296 ∧ Hid (Knuth.Guess y1 y0 v d0 q r)) (fun a b _ => (intOf b).toNat)
        case atStart => exact ⟨rfl, _, _, rfl, rfl, hr2, HG⟩
        case round =>
          clear HG hr2
          obtain ⟨e0, q, r, rfl, rfl, hr2, HG⟩ := hrel
          have e0' := e0.symm
          clear e0
          subst e0'
          have hu' : v < y1 * Knuth.h + y0 := by have := HE.out.1; show v < y1 * 4294967296 + y0; omega
          have hq1 : q ≤ 4294967297 := HG.out.le
          obtain ⟨m, hm⟩ : ∃ m : Nat, q * y0 = m := ⟨_, rfl⟩
          have hm1 : m ≤ 4294967297 * 4294967295 := by rw [← hm]; exact Nat.mul_le_mul hq1 (by omega)
          have e1 : IntKind.u64.wrap ((q : Int) * (y0 : Int)) = (m : Int) := by
            rw [← Int.natCast_mul, hm, IntKind.wrap_u64]; omega
          obtain ⟨k0, hk0⟩ : ∃ k : Nat, 4294967296 * r = k := ⟨_, rfl⟩
          have e2 : IntKind.u64.wrap (4294967296 * (r : Int)) = (k0 : Int) := by rw [IntKind.wrap_u64]; omega
          obtain ⟨k, hk⟩ : ∃ k : Nat, k0 + d0 = k := ⟨_, rfl⟩
          have e3 : IntKind.u64.wrap ((k0 : Int) + (d0 : Int)) = (k : Int) := by rw [IntKind.wrap_u64]; omega
          have hkk : Knuth.h * r + d0 = k := by simp only [Knuth.h]; omega
          have hdn : Knuth.h ≤ q ∨ k < m → 0 < q ∧ Knuth.Guess y1 y0 v d0 (q - 1) (r + y1) := fun ht => Knuth.down d0h hu' HG.out (by rw [hkk, hm]; exact ht)
          have hst : q < Knuth.h → m ≤ k → q = (v * Knuth.h + d0) / (y1 * Knuth.h + y0) := fun h1 h2 => Knuth.stop d0h hu' HG.out h1 (by rw [hkk, hm]; exact h2)
          obtain ⟨r', hr'⟩ : ∃ r', r + y1 = r' := ⟨_, rfl⟩
          have e5 : IntKind.u64.wrap ((r : Int) + (y1 : Int)) = (r' : Int) := by rw [IntKind.wrap_u64]; omega
          have hr3 : r' < 18446744073709551616 := by omega
          rw [hr'] at hdn
          have HH := Lib.hid hdn
          have HS := Lib.hid hst
          have hq64 : (q : Int) < 18446744073709551616 := by omega
          clear hm hk0 hk hkk hdn hst hm1 hr'
          by_cases hA : 4294967296 ≤ q
          · have HT : Hid (Knuth.h ≤ q ∨ k < m) := .inl hA
            have t1 : decide ((q : Int) ≥ 4294967296) = true := decide_eq_true (by omega)
            have t1' : (4294967296 : Int) ≤ (q : Int) := by omega
            clear hA
            obtain ⟨h0q, hG2⟩ := HH.out (HT.out)
            obtain ⟨q', hq'⟩ : ∃ q', q - 1 = q' := ⟨_, rfl⟩
            rw [hq'] at hG2
            have HG2 := Lib.hid hG2
            have e4 : IntKind.u64.wrap ((q : Int) - 1) = (q' : Int) := by rw [IntKind.wrap_u64]; omega
            have HQ := Lib.hid (show q = q' + 1 from by omega)
            have hq2 : q' ≤ 4294967296 := by omega
            clear hG2 hq' h0q hq1
            by_cases hbr : (4294967296 : Int) ≤ (r' : Int)
            · have HF := Lib.hid (Knuth.stop' y0h d0h hu' HG2.out hq2 (by simp only [Knuth.h]; omega))
              clear hq2
              have hdq : (v * 4294967296 + d0) / Y = q' := by rw [HE.out.1]; exact HF.out.symm
              have hq0 : q' < 4294967296 := by rw [← hdq, HE.out.1]; exact Knuth.digit_lt (y1 := y1) (y0 := y0) d0h (by have := HE.out.1; show v < y1 * 4294967296 + y0; omega)
              have bE := Nat.div_add_mod (v * 4294967296 + d0) Y
              have bQ : (v * 4294967296 + d0) / Y = q' := hdq
              rw [bQ] at bE
              have bL := Nat.mod_lt (v * 4294967296 + d0) (show 0 < Y by omega)
              obtain ⟨R, RE⟩ : ∃ z, (v * 4294967296 + d0) % Y = z := ⟨_, rfl⟩
              rw [RE] at bE bL
              obtain ⟨bC, bCE⟩ : ∃ c, q' * Y % 18446744073709551616 = c := ⟨_, rfl⟩
              have b3 : IntKind.u64.wrap ((q' : Int) * (Y : Int)) = (bC : Int) := by rw [← Int.natCast_mul, IntKind.wrap_u64]; omega
              rw [Nat.mul_comm Y] at bE
              obtain ⟨bA, bAE⟩ : ∃ c, v * 4294967296 % 18446744073709551616 = c := ⟨_, rfl⟩
              have b1 : IntKind.u64.wrap ((v : Int) * 4294967296) = (bA : Int) := by rw [IntKind.wrap_u64]; omega
              obtain ⟨bB, bBE⟩ : ∃ c, (bA + d0) % 18446744073709551616 = c := ⟨_, rfl⟩
              have b2 : IntKind.u64.wrap ((bA : Int) + (d0 : Int)) = (bB : Int) := by rw [IntKind.wrap_u64]; omega
              have b4 : IntKind.u64.wrap ((bB : Int) - (bC : Int)) = (R : Int) := by
                rw [IntKind.wrap_u64]
                generalize q' * Y = P at *
                omega
              have HR0' := Lib.hid RE
              clear bE bCE bAE bBE RE
              obtain ⟨Q1, hQ1⟩ : ∃ c : Nat, qa * 4294967296 = c := ⟨_, rfl⟩
              have c1 : IntKind.u64.wrap ((qa : Int) * 4294967296) = (Q1 : Int) := by rw [IntKind.wrap_u64]; omega
              obtain ⟨Q, hQ⟩ : ∃ c : Nat, Q1 + q' = c := ⟨_, rfl⟩
              have c2 : IntKind.u64.wrap ((Q1 : Int) + (q' : Int)) = (Q : Int) := by rw [IntKind.wrap_u64]; omega
              have HR : Hid (Q = d64q hi lo y ∧ R / 2 ^ s = d64r hi lo y) := by
                show Q = (hi * 18446744073709551616 + lo) / y ∧ R / 2 ^ s = (hi * 18446744073709551616 + lo) % y
                have e2 := Knuth.two u d1 d0 Y (by omega)
                have el := HE.out.2
                have eN : u * 18446744073709551616 + l = u * Knuth.h * Knuth.h + d1 * Knuth.h + d0 := Knuth.join u l d1 d0 el
                rw [← eN] at e2
                rw [← hbk.1, ← hbk.2, e2.1, e2.2]
                have x1 : (u * Knuth.h + d1) / Y = qa := HD1.out
                have x2 : (u * Knuth.h + d1) % Y = v := Hv.out
                have x3 : (v * Knuth.h + d0) / Y = q' := hdq
                have x4 : (v * Knuth.h + d0) % Y = R := HR0'.out
                rw [x1, x2, x3, x4]
                refine ⟨?_, rfl⟩
                show Q = qa * 4294967296 + q'
                rw [← hQ, ← hQ1]
              clear hQ hQ1 hdq hq0 bQ
              go_wp2_with fail
              exact bodyPost_ret (v := .tuple #[.int .u64 (Q : Nat), .int .u64 ((R : Int) / 2 ^ s)]) (by simp [results, Try.results87]) rfl ⟨by rw [int_shr, HR.out.1, HR.out.2], hB⟩
            · clear hq2
              go_wp2_with fail
              go_roundw
              case rel => exact ⟨by first | trivial | rfl, q', r', rfl, rfl, by omega, HG2⟩
              case measure => have := HQ.out; simp [intOf]; omega
          · by_cases hB : k < m
            · have HT : Hid (Knuth.h ≤ q ∨ k < m) := .inr hB
              have t1 : ¬ (4294967296 : Int) ≤ (q : Int) := by omega
              have t2 : (k : Int) < (m : Int) := by omega
              clear hA hB
              obtain ⟨h0q, hG2⟩ := HH.out (HT.out)
              obtain ⟨q', hq'⟩ : ∃ q', q - 1 = q' := ⟨_, rfl⟩
              rw [hq'] at hG2
              have HG2 := Lib.hid hG2
              have e4 : IntKind.u64.wrap ((q : Int) - 1) = (q' : Int) := by rw [IntKind.wrap_u64]; omega
              have HQ := Lib.hid (show q = q' + 1 from by omega)
              have hq2 : q' ≤ 4294967296 := by omega
              clear hG2 hq' h0q hq1
              by_cases hbr : (4294967296 : Int) ≤ (r' : Int)
              · have HF := Lib.hid (Knuth.stop' y0h d0h hu' HG2.out hq2 (by simp only [Knuth.h]; omega))
                clear hq2
                have hdq : (v * 4294967296 + d0) / Y = q' := by rw [HE.out.1]; exact HF.out.symm
                have hq0 : q' < 4294967296 := by rw [← hdq, HE.out.1]; exact Knuth.digit_lt (y1 := y1) (y0 := y0) d0h (by have := HE.out.1; show v < y1 * 4294967296 + y0; omega)
                have bE := Nat.div_add_mod (v * 4294967296 + d0) Y
                have bQ : (v * 4294967296 + d0) / Y = q' := hdq
                rw [bQ] at bE
                have bL := Nat.mod_lt (v * 4294967296 + d0) (show 0 < Y by omega)
                obtain ⟨R, RE⟩ : ∃ z, (v * 4294967296 + d0) % Y = z := ⟨_, rfl⟩
                rw [RE] at bE bL
                obtain ⟨bC, bCE⟩ : ∃ c, q' * Y % 18446744073709551616 = c := ⟨_, rfl⟩
                have b3 : IntKind.u64.wrap ((q' : Int) * (Y : Int)) = (bC : Int) := by rw [← Int.natCast_mul, IntKind.wrap_u64]; omega
                rw [Nat.mul_comm Y] at bE
                obtain ⟨bA, bAE⟩ : ∃ c, v * 4294967296 % 18446744073709551616 = c := ⟨_, rfl⟩
                have b1 : IntKind.u64.wrap ((v : Int) * 4294967296) = (bA : Int) := by rw [IntKind.wrap_u64]; omega
                obtain ⟨bB, bBE⟩ : ∃ c, (bA + d0) % 18446744073709551616 = c := ⟨_, rfl⟩
                have b2 : IntKind.u64.wrap ((bA : Int) + (d0 : Int)) = (bB : Int) := by rw [IntKind.wrap_u64]; omega
                have b4 : IntKind.u64.wrap ((bB : Int) - (bC : Int)) = (R : Int) := by
                  rw [IntKind.wrap_u64]
                  generalize q' * Y = P at *
                  omega
                have HR0' := Lib.hid RE
                clear bE bCE bAE bBE RE
                obtain ⟨Q1, hQ1⟩ : ∃ c : Nat, qa * 4294967296 = c := ⟨_, rfl⟩
                have c1 : IntKind.u64.wrap ((qa : Int) * 4294967296) = (Q1 : Int) := by rw [IntKind.wrap_u64]; omega
                obtain ⟨Q, hQ⟩ : ∃ c : Nat, Q1 + q' = c := ⟨_, rfl⟩
                have c2 : IntKind.u64.wrap ((Q1 : Int) + (q' : Int)) = (Q : Int) := by rw [IntKind.wrap_u64]; omega
                have HR : Hid (Q = d64q hi lo y ∧ R / 2 ^ s = d64r hi lo y) := by
                  show Q = (hi * 18446744073709551616 + lo) / y ∧ R / 2 ^ s = (hi * 18446744073709551616 + lo) % y
                  have e2 := Knuth.two u d1 d0 Y (by omega)
                  have el := HE.out.2
                  have eN : u * 18446744073709551616 + l = u * Knuth.h * Knuth.h + d1 * Knuth.h + d0 := Knuth.join u l d1 d0 el
                  rw [← eN] at e2
                  rw [← hbk.1, ← hbk.2, e2.1, e2.2]
                  have x1 : (u * Knuth.h + d1) / Y = qa := HD1.out
                  have x2 : (u * Knuth.h + d1) % Y = v := Hv.out
                  have x3 : (v * Knuth.h + d0) / Y = q' := hdq
                  have x4 : (v * Knuth.h + d0) % Y = R := HR0'.out
                  rw [x1, x2, x3, x4]
                  refine ⟨?_, rfl⟩
                  show Q = qa * 4294967296 + q'
                  rw [← hQ, ← hQ1]
                clear hQ hQ1 hdq hq0 bQ
                go_wp2_with fail
                exact bodyPost_ret (v := .tuple #[.int .u64 (Q : Nat), .int .u64 ((R : Int) / 2 ^ s)]) (by simp [results, Try.results87]) rfl ⟨by rw [int_shr, HR.out.1, HR.out.2], hB⟩
              · clear hq2
                go_wp2_with fail
                go_roundw
                case rel => exact ⟨by first | trivial | rfl, q', r', rfl, rfl, by omega, HG2⟩
                case measure => have := HQ.out; simp [intOf]; omega
            · have HF := Lib.hid (HS.out (by simp only [Knuth.h]; omega) (by omega))
              have t1 : ¬ (4294967296 : Int) ≤ (q : Int) := by omega
              have t2 : ¬ (k : Int) < (m : Int) := by omega
              clear hA hB hq1
              have hdq : (v * 4294967296 + d0) / Y = q := by rw [HE.out.1]; exact HF.out.symm
              have hq0 : q < 4294967296 := by rw [← hdq, HE.out.1]; exact Knuth.digit_lt (y1 := y1) (y0 := y0) d0h (by have := HE.out.1; show v < y1 * 4294967296 + y0; omega)
              have bE := Nat.div_add_mod (v * 4294967296 + d0) Y
              have bQ : (v * 4294967296 + d0) / Y = q := hdq
              rw [bQ] at bE
              have bL := Nat.mod_lt (v * 4294967296 + d0) (show 0 < Y by omega)
              obtain ⟨R, RE⟩ : ∃ z, (v * 4294967296 + d0) % Y = z := ⟨_, rfl⟩
              rw [RE] at bE bL
              obtain ⟨bC, bCE⟩ : ∃ c, q * Y % 18446744073709551616 = c := ⟨_, rfl⟩
              have b3 : IntKind.u64.wrap ((q : Int) * (Y : Int)) = (bC : Int) := by rw [← Int.natCast_mul, IntKind.wrap_u64]; omega
              rw [Nat.mul_comm Y] at bE
              obtain ⟨bA, bAE⟩ : ∃ c, v * 4294967296 % 18446744073709551616 = c := ⟨_, rfl⟩
              have b1 : IntKind.u64.wrap ((v : Int) * 4294967296) = (bA : Int) := by rw [IntKind.wrap_u64]; omega
              obtain ⟨bB, bBE⟩ : ∃ c, (bA + d0) % 18446744073709551616 = c := ⟨_, rfl⟩
              have b2 : IntKind.u64.wrap ((bA : Int) + (d0 : Int)) = (bB : Int) := by rw [IntKind.wrap_u64]; omega
              have b4 : IntKind.u64.wrap ((bB : Int) - (bC : Int)) = (R : Int) := by
                rw [IntKind.wrap_u64]
                generalize q * Y = P at *
                omega
              have HR0' := Lib.hid RE
              clear bE bCE bAE bBE RE
              obtain ⟨Q1, hQ1⟩ : ∃ c : Nat, qa * 4294967296 = c := ⟨_, rfl⟩
              have c1 : IntKind.u64.wrap ((qa : Int) * 4294967296) = (Q1 : Int) := by rw [IntKind.wrap_u64]; omega
              obtain ⟨Q, hQ⟩ : ∃ c : Nat, Q1 + q = c := ⟨_, rfl⟩
              have c2 : IntKind.u64.wrap ((Q1 : Int) + (q : Int)) = (Q : Int) := by rw [IntKind.wrap_u64]; omega
              have HR : Hid (Q = d64q hi lo y ∧ R / 2 ^ s = d64r hi lo y) := by
                show Q = (hi * 18446744073709551616 + lo) / y ∧ R / 2 ^ s = (hi * 18446744073709551616 + lo) % y
                have e2 := Knuth.two u d1 d0 Y (by omega)
                have el := HE.out.2
                have eN : u * 18446744073709551616 + l = u * Knuth.h * Knuth.h + d1 * Knuth.h + d0 := Knuth.join u l d1 d0 el
                rw [← eN] at e2
                rw [← hbk.1, ← hbk.2, e2.1, e2.2]
                have x1 : (u * Knuth.h + d1) / Y = qa := HD1.out
                have x2 : (u * Knuth.h + d1) % Y = v := Hv.out
                have x3 : (v * Knuth.h + d0) / Y = q := hdq
                have x4 : (v * Knuth.h + d0) % Y = R := HR0'.out
                rw [x1, x2, x3, x4]
                refine ⟨?_, rfl⟩
                show Q = qa * 4294967296 + q
                rw [← hQ, ← hQ1]
              clear hQ hQ1 hdq hq0 bQ
              go_wp2_with fail
              exact bodyPost_ret (v := .tuple #[.int .u64 (Q : Nat), .int .u64 ((R : Int) / 2 ^ s)]) (by simp [results, Try.results87]) rfl ⟨by rw [int_shr, HR.out.1, HR.out.2], hB⟩
      · clear hq2
        go_wp2_with fail
        go_roundw
        case rel => exact ⟨by first | trivial | rfl, q', r', rfl, rfl, by omega, HG2⟩
        case measure => have := HQ.out; simp [intOf]; omega
    · by_cases hB : k < m
      · have HT : Hid (Knuth.h ≤ q ∨ k < m) := .inr hB
        have t1 : ¬ (4294967296 : Int) ≤ (q : Int) := by omega
        have t2 : (k : Int) < (m : Int) := by omega
        clear hA hB
        obtain ⟨h0q, hG2⟩ := HH.out (HT.out)
        obtain ⟨q', hq'⟩ : ∃ q', q - 1 = q' := ⟨_, rfl⟩
        rw [hq'] at hG2
        have HG2 := Lib.hid hG2
        have e4 : IntKind.u64.wrap ((q : Int) - 1) = (q' : Int) := by rw [IntKind.wrap_u64]; omega
        have HQ := Lib.hid (show q = q' + 1 from by omega)
        have hq2 : q' ≤ 4294967296 := by omega
        clear hG2 hq' h0q hq1
        by_cases hbr : (4294967296 : Int) ≤ (r' : Int)
        · have HF := Lib.hid (Knuth.stop' y0h d1h hu' HG2.out hq2 (by simp only [Knuth.h]; omega))
          clear hq2
          have hdq1 : (u * 4294967296 + d1) / Y = q' := by rw [HE.out.1]; exact HF.out.symm
          have hq1h : q' < 4294967296 := by rw [← hdq1, HE.out.1]; exact Knuth.digit_lt (y1 := y1) (y0 := y0) d1h hu'
          have HD1 := Lib.hid hdq1
          have aE := Nat.div_add_mod (u * 4294967296 + d1) Y
          have aQ : (u * 4294967296 + d1) / Y = q' := hdq1
          rw [aQ] at aE
          have aL := Nat.mod_lt (u * 4294967296 + d1) (show 0 < Y by omega)
          obtain ⟨v, vE⟩ : ∃ z, (u * 4294967296 + d1) % Y = z := ⟨_, rfl⟩
          rw [vE] at aE aL
          obtain ⟨aC, aCE⟩ : ∃ c, q' * Y % 18446744073709551616 = c := ⟨_, rfl⟩
          have a3 : IntKind.u64.wrap ((q' : Int) * (Y : Int)) = (aC : Int) := by rw [← Int.natCast_mul, IntKind.wrap_u64]; omega
          rw [Nat.mul_comm Y] at aE
          obtain ⟨aA, aAE⟩ : ∃ c, u * 4294967296 % 18446744073709551616 = c := ⟨_, rfl⟩
          have a1 : IntKind.u64.wrap ((u : Int) * 4294967296) = (aA : Int) := by rw [IntKind.wrap_u64]; omega
          obtain ⟨aB, aBE⟩ : ∃ c, (aA + d1) % 18446744073709551616 = c := ⟨_, rfl⟩
          have a2 : IntKind.u64.wrap ((aA : Int) + (d1 : Int)) = (aB : Int) := by rw [IntKind.wrap_u64]; omega
          have a4 : IntKind.u64.wrap ((aB : Int) - (aC : Int)) = (v : Int) := by
            rw [IntKind.wrap_u64]
            generalize q' * Y = P at *
            omega
          have Hv := Lib.hid vE
          clear aE aCE aAE aBE vE
          have hvY : v < Y := aL
          clear aQ hdq1 aL HF
          obtain ⟨qa, rfl⟩ : ∃ c, c = q' := ⟨_, rfl⟩
          have G := Knuth.first (u := v) (d := d0) y1a y1b y0h d0h (by have := HE.out.1; show v < y1 * 4294967296 + y0; omega)
          have hq1 := G.le
          have hq2 := G.sum
          have hr1 := Nat.mod_lt v (show 0 < y1 by omega)
          have f8 : (v : Int).tdiv y1 = ((v / y1 : Nat) : Int) := rfl
          have f8' : (v : Int) / y1 = ((v / y1 : Nat) : Int) := rfl
          generalize v / y1 = q0 at *
          generalize v % y1 = r0 at *
          have hqy : ((q0 * y1 : Nat) : Int) = (q0 : Int) * (y1 : Int) := Int.natCast_mul _ _
          have f9 : IntKind.u64.wrap ((q0 : Int) * (y1 : Int)) = ((q0 * y1 : Nat) : Int) := by rw [IntKind.wrap_u64, ← hqy]; omega
          have f10 : IntKind.u64.wrap ((v : Int) - ((q0 * y1 : Nat) : Int)) = (r0 : Int) := by rw [IntKind.wrap_u64]; omega
          have f11 : IntKind.u64.wrap (q0 : Int) = (q0 : Int) := by rw [IntKind.wrap_u64]; simp only [Knuth.h] at hq1; omega
          generalize hqq : q0 * y1 = qy at *
          clear hqy hqq hq2
          go_wp2_with fail
          clear f8 f8' f9 f10 f11 a1 a2 a3 a4 e1 e2 e3 e5
          have hr2' : r0 < 4294967296 := by omega
          have HG' := Lib.hid G
          clear G hq1 hr1 HG hr2 HH HS
          have hr2 := hr2'
          have HG := HG'
          clear hr2' HG'
          go_loopw [16, 18] (fun a b wr => wr = w ∧ ∃ q r : Nat, b = .int .u64 q ∧ a = .int .u64 r ∧ r < 4294967296 ∧ Hid (Knuth.Guess y1 y0 v d0 q r)) (fun a b _ => (intOf b).toNat)
          case atStart => exact ⟨rfl, _, _, rfl, rfl, hr2, HG⟩
          case round =>
            clear HG hr2
            obtain ⟨e0, q, r, rfl, rfl, hr2, HG⟩ := hrel
            have e0' := e0.symm
            clear e0
            subst e0'
            have hu' : v < y1 * Knuth.h + y0 := by have := HE.out.1; show v < y1 * 4294967296 + y0; omega
            have hq1 : q ≤ 4294967297 := HG.out.le
            obtain ⟨m, hm⟩ : ∃ m : Nat, q * y0 = m := ⟨_, rfl⟩
            have hm1 : m ≤ 4294967297 * 4294967295 := by rw [← hm]; exact Nat.mul_le_mul hq1 (by omega)
            have e1 : IntKind.u64.wrap ((q : Int) * (y0 : Int)) = (m : Int) := by
              rw [← Int.natCast_mul, hm, IntKind.wrap_u64]; omega
            obtain ⟨k0, hk0⟩ : ∃ k : Nat, 4294967296 * r = k := ⟨_, rfl⟩
            have e2 : IntKind.u64.wrap (4294967296 * (r : Int)) = (k0 : Int) := by rw [IntKind.wrap_u64]; omega
            obtain ⟨k, hk⟩ : ∃ k : Nat, k0 + d0 = k := ⟨_, rfl⟩
            have e3 : IntKind.u64.wrap ((k0 : Int) + (d0 : Int)) = (k : Int) := by rw [IntKind.wrap_u64]; omega
            have hkk : Knuth.h * r + d0 = k := by simp only [Knuth.h]; omega
            have hdn : Knuth.h ≤ q ∨ k < m → 0 < q ∧ Knuth.Guess y1 y0 v d0 (q - 1) (r + y1) := fun ht => Knuth.down d0h hu' HG.out (by rw [hkk, hm]; exact ht)
            have hst : q < Knuth.h → m ≤ k → q = (v * Knuth.h + d0) / (y1 * Knuth.h + y0) := fun h1 h2 => Knuth.stop d0h hu' HG.out h1 (by rw [hkk, hm]; exact h2)
            obtain ⟨r', hr'⟩ : ∃ r', r + y1 = r' := ⟨_, rfl⟩
            have e5 : IntKind.u64.wrap ((r : Int) + (y1 : Int)) = (r' : Int) := by rw [IntKind.wrap_u64]; omega
            have hr3 : r' < 18446744073709551616 := by omega
            rw [hr'] at hdn
            have HH := Lib.hid hdn
            have HS := Lib.hid hst
            have hq64 : (q : Int) < 18446744073709551616 := by omega
            clear hm hk0 hk hkk hdn hst hm1 hr'
            by_cases hA : 4294967296 ≤ q
            · have HT : Hid (Knuth.h ≤ q ∨ k < m) := .inl hA
              have t1 : decide ((q : Int) ≥ 4294967296) = true := decide_eq_true (by omega)
              have t1' : (4294967296 : Int) ≤ (q : Int) := by omega
              clear hA
              obtain ⟨h0q, hG2⟩ := HH.out (HT.out)
              obtain ⟨q', hq'⟩ : ∃ q', q - 1 = q' := ⟨_, rfl⟩
              rw [hq'] at hG2
              have HG2 := Lib.hid hG2
              have e4 : IntKind.u64.wrap ((q : Int) - 1) = (q' : Int) := by rw [IntKind.wrap_u64]; omega
              have HQ := Lib.hid (show q = q' + 1 from by omega)
              have hq2 : q' ≤ 4294967296 := by omega
              clear hG2 hq' h0q hq1
              by_cases hbr : (4294967296 : Int) ≤ (r' : Int)
              · have HF := Lib.hid (Knuth.stop' y0h d0h hu' HG2.out hq2 (by simp only [Knuth.h]; omega))
                clear hq2
                have hdq : (v * 4294967296 + d0) / Y = q' := by rw [HE.out.1]; exact HF.out.symm
                have hq0 : q' < 4294967296 := by rw [← hdq, HE.out.1]; exact Knuth.digit_lt (y1 := y1) (y0 := y0) d0h (by have := HE.out.1; show v < y1 * 4294967296 + y0; omega)
                have bE := Nat.div_add_mod (v * 4294967296 + d0) Y
                have bQ : (v * 4294967296 + d0) / Y = q' := hdq
                rw [bQ] at bE
                have bL := Nat.mod_lt (v * 4294967296 + d0) (show 0 < Y by omega)
                obtain ⟨R, RE⟩ : ∃ z, (v * 4294967296 + d0) % Y = z := ⟨_, rfl⟩
                rw [RE] at bE bL
                obtain ⟨bC, bCE⟩ : ∃ c, q' * Y % 18446744073709551616 = c := ⟨_, rfl⟩
                have b3 : IntKind.u64.wrap ((q' : Int) * (Y : Int)) = (bC : Int) := by rw [← Int.natCast_mul, IntKind.wrap_u64]; omega
                rw [Nat.mul_comm Y] at bE
                obtain ⟨bA, bAE⟩ : ∃ c, v * 4294967296 % 18446744073709551616 = c := ⟨_, rfl⟩
                have b1 : IntKind.u64.wrap ((v : Int) * 4294967296) = (bA : Int) := by rw [IntKind.wrap_u64]; omega
                obtain ⟨bB, bBE⟩ : ∃ c, (bA + d0) % 18446744073709551616 = c := ⟨_, rfl⟩
                have b2 : IntKind.u64.wrap ((bA : Int) + (d0 : Int)) = (bB : Int) := by rw [IntKind.wrap_u64]; omega
                have b4 : IntKind.u64.wrap ((bB : Int) - (bC : Int)) = (R : Int) := by
                  rw [IntKind.wrap_u64]
                  generalize q' * Y = P at *
                  omega
                have HR0' := Lib.hid RE
                clear bE bCE bAE bBE RE
                obtain ⟨Q1, hQ1⟩ : ∃ c : Nat, qa * 4294967296 = c := ⟨_, rfl⟩
                have c1 : IntKind.u64.wrap ((qa : Int) * 4294967296) = (Q1 : Int) := by rw [IntKind.wrap_u64]; omega
                obtain ⟨Q, hQ⟩ : ∃ c : Nat, Q1 + q' = c := ⟨_, rfl⟩
                have c2 : IntKind.u64.wrap ((Q1 : Int) + (q' : Int)) = (Q : Int) := by rw [IntKind.wrap_u64]; omega
                have HR : Hid (Q = d64q hi lo y ∧ R / 2 ^ s = d64r hi lo y) := by
                  show Q = (hi * 18446744073709551616 + lo) / y ∧ R / 2 ^ s = (hi * 18446744073709551616 + lo) % y
                  have e2 := Knuth.two u d1 d0 Y (by omega)
                  have el := HE.out.2
                  have eN : u * 18446744073709551616 + l = u * Knuth.h * Knuth.h + d1 * Knuth.h + d0 := Knuth.join u l d1 d0 el
                  rw [← eN] at e2
                  rw [← hbk.1, ← hbk.2, e2.1, e2.2]
                  have x1 : (u * Knuth.h + d1) / Y = qa := HD1.out
                  have x2 : (u * Knuth.h + d1) % Y = v := Hv.out
                  have x3 : (v * Knuth.h + d0) / Y = q' := hdq
                  have x4 : (v * Knuth.h + d0) % Y = R := HR0'.out
                  rw [x1, x2, x3, x4]
                  refine ⟨?_, rfl⟩
                  show Q = qa * 4294967296 + q'
                  rw [← hQ, ← hQ1]
                clear hQ hQ1 hdq hq0 bQ
                go_wp2_with fail
                exact bodyPost_ret (v := .tuple #[.int .u64 (Q : Nat), .int .u64 ((R : Int) / 2 ^ s)]) (by simp [results, Try.results87]) rfl ⟨by rw [int_shr, HR.out.1, HR.out.2], hB⟩
              · clear hq2
                go_wp2_with fail
                go_roundw
                case rel => exact ⟨by first | trivial | rfl, q', r', rfl, rfl, by omega, HG2⟩
                case measure => have := HQ.out; simp [intOf]; omega
            · by_cases hB : k < m
              · have HT : Hid (Knuth.h ≤ q ∨ k < m) := .inr hB
                have t1 : ¬ (4294967296 : Int) ≤ (q : Int) := by omega
                have t2 : (k : Int) < (m : Int) := by omega
                clear hA hB
                obtain ⟨h0q, hG2⟩ := HH.out (HT.out)
                obtain ⟨q', hq'⟩ : ∃ q', q - 1 = q' := ⟨_, rfl⟩
                rw [hq'] at hG2
                have HG2 := Lib.hid hG2
                have e4 : IntKind.u64.wrap ((q : Int) - 1) = (q' : Int) := by rw [IntKind.wrap_u64]; omega
                have HQ := Lib.hid (show q = q' + 1 from by omega)
                have hq2 : q' ≤ 4294967296 := by omega
                clear hG2 hq' h0q hq1
                by_cases hbr : (4294967296 : Int) ≤ (r' : Int)
                · have HF := Lib.hid (Knuth.stop' y0h d0h hu' HG2.out hq2 (by simp only [Knuth.h]; omega))
                  clear hq2
                  have hdq : (v * 4294967296 + d0) / Y = q' := by rw [HE.out.1]; exact HF.out.symm
                  have hq0 : q' < 4294967296 := by rw [← hdq, HE.out.1]; exact Knuth.digit_lt (y1 := y1) (y0 := y0) d0h (by have := HE.out.1; show v < y1 * 4294967296 + y0; omega)
                  have bE := Nat.div_add_mod (v * 4294967296 + d0) Y
                  have bQ : (v * 4294967296 + d0) / Y = q' := hdq
                  rw [bQ] at bE
                  have bL := Nat.mod_lt (v * 4294967296 + d0) (show 0 < Y by omega)
                  obtain ⟨R, RE⟩ : ∃ z, (v * 4294967296 + d0) % Y = z := ⟨_, rfl⟩
                  rw [RE] at bE bL
                  obtain ⟨bC, bCE⟩ : ∃ c, q' * Y % 18446744073709551616 = c := ⟨_, rfl⟩
                  have b3 : IntKind.u64.wrap ((q' : Int) * (Y : Int)) = (bC : Int) := by rw [← Int.natCast_mul, IntKind.wrap_u64]; omega
                  rw [Nat.mul_comm Y] at bE
                  obtain ⟨bA, bAE⟩ : ∃ c, v * 4294967296 % 18446744073709551616 = c := ⟨_, rfl⟩
                  have b1 : IntKind.u64.wrap ((v : Int) * 4294967296) = (bA : Int) := by rw [IntKind.wrap_u64]; omega
                  obtain ⟨bB, bBE⟩ : ∃ c, (bA + d0) % 18446744073709551616 = c := ⟨_, rfl⟩
                  have b2 : IntKind.u64.wrap ((bA : Int) + (d0 : Int)) = (bB : Int) := by rw [IntKind.wrap_u64]; omega
                  have b4 : IntKind.u64.wrap ((bB : Int) - (bC : Int)) = (R : Int) := by
                    rw [IntKind.wrap_u64]
                    generalize q' * Y = P at *
                    omega
                  have HR0' := Lib.hid RE
                  clear bE bCE bAE bBE RE
                  obtain ⟨Q1, hQ1⟩ : ∃ c : Nat, qa * 4294967296 = c := ⟨_, rfl⟩
                  have c1 : IntKind.u64.wrap ((qa : Int) * 4294967296) = (Q1 : Int) := by rw [IntKind.wrap_u64]; omega
                  obtain ⟨Q, hQ⟩ : ∃ c : Nat, Q1 + q' = c := ⟨_, rfl⟩
                  have c2 : IntKind.u64.wrap ((Q1 : Int) + (q' : Int)) = (Q : Int) := by rw [IntKind.wrap_u64]; omega
                  have HR : Hid (Q = d64q hi lo y ∧ R / 2 ^ s = d64r hi lo y) := by
                    show Q = (hi * 18446744073709551616 + lo) / y ∧ R / 2 ^ s = (hi * 18446744073709551616 + lo) % y
                    have e2 := Knuth.two u d1 d0 Y (by omega)
                    have el := HE.out.2
                    have eN : u * 18446744073709551616 + l = u * Knuth.h * Knuth.h + d1 * Knuth.h + d0 := Knuth.join u l d1 d0 el
                    rw [← eN] at e2
                    rw [← hbk.1, ← hbk.2, e2.1, e2.2]
                    have x1 : (u * Knuth.h + d1) / Y = qa := HD1.out
                    have x2 : (u * Knuth.h + d1) % Y = v := Hv.out
                    have x3 : (v * Knuth.h + d0) / Y = q' := hdq
                    have x4 : (v * Knuth.h + d0) % Y = R := HR0'.out
                    rw [x1, x2, x3, x4]
                    refine ⟨?_, rfl⟩
                    show Q = qa * 4294967296 + q'
                    rw [← hQ, ← hQ1]
                  clear hQ hQ1 hdq hq0 bQ
                  go_wp2_with fail
                  exact bodyPost_ret (v := .tuple #[.int .u64 (Q : Nat), .int .u64 ((R : Int) / 2 ^ s)]) (by simp [results, Try.results87]) rfl ⟨by rw [int_shr, HR.out.1, HR.out.2], hB⟩
                · clear hq2
                  go_wp2_with fail
                  go_roundw
                  case rel => exact ⟨by first | trivial | rfl, q', r', rfl, rfl, by omega, HG2⟩
                  case measure => have := HQ.out; simp [intOf]; omega
              · have HF := Lib.hid (HS.out (by simp only [Knuth.h]; omega) (by omega))
                have t1 : ¬ (4294967296 : Int) ≤ (q : Int) := by omega
                have t2 : ¬ (k : Int) < (m : Int) := by omega
                clear hA hB hq1
                have hdq : (v * 4294967296 + d0) / Y = q := by rw [HE.out.1]; exact HF.out.symm
                have hq0 : q < 4294967296 := by rw [← hdq, HE.out.1]; exact Knuth.digit_lt (y1 := y1) (y0 := y0) d0h (by have := HE.out.1; show v < y1 * 4294967296 + y0; omega)
                have bE := Nat.div_add_mod (v * 4294967296 + d0) Y
                have bQ : (v * 4294967296 + d0) / Y = q := hdq
                rw [bQ] at bE
                have bL := Nat.mod_lt (v * 4294967296 + d0) (show 0 < Y by omega)
                obtain ⟨R, RE⟩ : ∃ z, (v * 4294967296 + d0) % Y = z := ⟨_, rfl⟩
                rw [RE] at bE bL
                obtain ⟨bC, bCE⟩ : ∃ c, q * Y % 18446744073709551616 = c := ⟨_, rfl⟩
                have b3 : IntKind.u64.wrap ((q : Int) * (Y : Int)) = (bC : Int) := by rw [← Int.natCast_mul, IntKind.wrap_u64]; omega
                rw [Nat.mul_comm Y] at bE
                obtain ⟨bA, bAE⟩ : ∃ c, v * 4294967296 % 18446744073709551616 = c := ⟨_, rfl⟩
                have b1 : IntKind.u64.wrap ((v : Int) * 4294967296) = (bA : Int) := by rw [IntKind.wrap_u64]; omega
                obtain ⟨bB, bBE⟩ : ∃ c, (bA + d0) % 18446744073709551616 = c := ⟨_, rfl⟩
                have b2 : IntKind.u64.wrap ((bA : Int) + (d0 : Int)) = (bB : Int) := by rw [IntKind.wrap_u64]; omega
                have b4 : IntKind.u64.wrap ((bB : Int) - (bC : Int)) = (R : Int) := by
                  rw [IntKind.wrap_u64]
                  generalize q * Y = P at *
                  omega
                have HR0' := Lib.hid RE
                clear bE bCE bAE bBE RE
                obtain ⟨Q1, hQ1⟩ : ∃ c : Nat, qa * 4294967296 = c := ⟨_, rfl⟩
                have c1 : IntKind.u64.wrap ((qa : Int) * 4294967296) = (Q1 : Int) := by rw [IntKind.wrap_u64]; omega
                obtain ⟨Q, hQ⟩ : ∃ c : Nat, Q1 + q = c := ⟨_, rfl⟩
                have c2 : IntKind.u64.wrap ((Q1 : Int) + (q : Int)) = (Q : Int) := by rw [IntKind.wrap_u64]; omega
                have HR : Hid (Q = d64q hi lo y ∧ R / 2 ^ s = d64r hi lo y) := by
                  show Q = (hi * 18446744073709551616 + lo) / y ∧ R / 2 ^ s = (hi * 18446744073709551616 + lo) % y
                  have e2 := Knuth.two u d1 d0 Y (by omega)
                  have el := HE.out.2
                  have eN : u * 18446744073709551616 + l = u * Knuth.h * Knuth.h + d1 * Knuth.h + d0 := Knuth.join u l d1 d0 el
                  rw [← eN] at e2
                  rw [← hbk.1, ← hbk.2, e2.1, e2.2]
                  have x1 : (u * Knuth.h + d1) / Y = qa := HD1.out
                  have x2 : (u * Knuth.h + d1) % Y = v := Hv.out
                  have x3 : (v * Knuth.h + d0) / Y = q := hdq
                  have x4 : (v * Knuth.h + d0) % Y = R := HR0'.out
                  rw [x1, x2, x3, x4]
                  refine ⟨?_, rfl⟩
                  show Q = qa * 4294967296 + q
                  rw [← hQ, ← hQ1]
                clear hQ hQ1 hdq hq0 bQ
                go_wp2_with fail
                exact bodyPost_ret (v := .tuple #[.int .u64 (Q : Nat), .int .u64 ((R : Int) / 2 ^ s)]) (by simp [results, Try.results87]) rfl ⟨by rw [int_shr, HR.out.1, HR.out.2], hB⟩
        · clear hq2
          go_wp2_with fail
          go_roundw
          case rel => exact ⟨by first | trivial | rfl, q', r', rfl, rfl, by omega, HG2⟩
          case measure => have := HQ.out; simp [intOf]; omega
      · have HF := Lib.hid (HS.out (by simp only [Knuth.h]; omega) (by omega))
        have t1 : ¬ (4294967296 : Int) ≤ (q : Int) := by omega
        have t2 : ¬ (k : Int) < (m : Int) := by omega
        clear hA hB hq1
        have hdq1 : (u * 4294967296 + d1) / Y = q := by rw [HE.out.1]; exact HF.out.symm
        have hq1h : q < 4294967296 := by rw [← hdq1, HE.out.1]; exact Knuth.digit_lt (y1 := y1) (y0 := y0) d1h hu'
        have HD1 := Lib.hid hdq1
        have aE := Nat.div_add_mod (u * 4294967296 + d1) Y
        have aQ : (u * 4294967296 + d1) / Y = q := hdq1
        rw [aQ] at aE
        have aL := Nat.mod_lt (u * 4294967296 + d1) (show 0 < Y by omega)
        obtain ⟨v, vE⟩ : ∃ z, (u * 4294967296 + d1) % Y = z := ⟨_, rfl⟩
        rw [vE] at aE aL
        obtain ⟨aC, aCE⟩ : ∃ c, q * Y % 18446744073709551616 = c := ⟨_, rfl⟩
        have a3 : IntKind.u64.wrap ((q : Int) * (Y : Int)) = (aC : Int) := by rw [← Int.natCast_mul, IntKind.wrap_u64]; omega
        rw [Nat.mul_comm Y] at aE
        obtain ⟨aA, aAE⟩ : ∃ c, u * 4294967296 % 18446744073709551616 = c := ⟨_, rfl⟩
        have a1 : IntKind.u64.wrap ((u : Int) * 4294967296) = (aA : Int) := by rw [IntKind.wrap_u64]; omega
        obtain ⟨aB, aBE⟩ : ∃ c, (aA + d1) % 18446744073709551616 = c := ⟨_, rfl⟩
        have a2 : IntKind.u64.wrap ((aA : Int) + (d1 : Int)) = (aB : Int) := by rw [IntKind.wrap_u64]; omega
        have a4 : IntKind.u64.wrap ((aB : Int) - (aC : Int)) = (v : Int) := by
          rw [IntKind.wrap_u64]
          generalize q * Y = P at *
          omega
        have Hv := Lib.hid vE
        clear aE aCE aAE aBE vE
        have hvY : v < Y := aL
        clear aQ hdq1 aL HF
        obtain ⟨qa, rfl⟩ : ∃ c, c = q := ⟨_, rfl⟩
        have G := Knuth.first (u := v) (d := d0) y1a y1b y0h d0h (by have := HE.out.1; show v < y1 * 4294967296 + y0; omega)
        have hq1 := G.le
        have hq2 := G.sum
        have hr1 := Nat.mod_lt v (show 0 < y1 by omega)
        have f8 : (v : Int).tdiv y1 = ((v / y1 : Nat) : Int) := rfl
        have f8' : (v : Int) / y1 = ((v / y1 : Nat) : Int) := rfl
        generalize v / y1 = q0 at *
        generalize v % y1 = r0 at *
        have hqy : ((q0 * y1 : Nat) : Int) = (q0 : Int) * (y1 : Int) := Int.natCast_mul _ _
        have f9 : IntKind.u64.wrap ((q0 : Int) * (y1 : Int)) = ((q0 * y1 : Nat) : Int) := by rw [IntKind.wrap_u64, ← hqy]; omega
        have f10 : IntKind.u64.wrap ((v : Int) - ((q0 * y1 : Nat) : Int)) = (r0 : Int) := by rw [IntKind.wrap_u64]; omega
        have f11 : IntKind.u64.wrap (q0 : Int) = (q0 : Int) := by rw [IntKind.wrap_u64]; simp only [Knuth.h] at hq1; omega
        generalize hqq : q0 * y1 = qy at *
        clear hqy hqq hq2
        go_wp2_with fail
        clear f8 f8' f9 f10 f11 a1 a2 a3 a4 e1 e2 e3 e5
        have hr2' : r0 < 4294967296 := by omega
        have HG' := Lib.hid G
        clear G hq1 hr1 HG hr2 HH HS
        have hr2 := hr2'
        have HG := HG'
        clear hr2' HG'
        go_loopw [16, 18] (fun a b wr => wr = w ∧ ∃ q r : Nat, b = .int .u64 q ∧ a = .int .u64 r ∧ r < 4294967296 ∧ Hid (Knuth.Guess y1 y0 v d0 q r)) (fun a b _ => (intOf b).toNat)
        case atStart => exact ⟨rfl, _, _, rfl, rfl, hr2, HG⟩
        case round =>
          clear HG hr2
          obtain ⟨e0, q, r, rfl, rfl, hr2, HG⟩ := hrel
          have e0' := e0.symm
          clear e0
          subst e0'
          have hu' : v < y1 * Knuth.h + y0 := by have := HE.out.1; show v < y1 * 4294967296 + y0; omega
          have hq1 : q ≤ 4294967297 := HG.out.le
          obtain ⟨m, hm⟩ : ∃ m : Nat, q * y0 = m := ⟨_, rfl⟩
          have hm1 : m ≤ 4294967297 * 4294967295 := by rw [← hm]; exact Nat.mul_le_mul hq1 (by omega)
          have e1 : IntKind.u64.wrap ((q : Int) * (y0 : Int)) = (m : Int) := by
            rw [← Int.natCast_mul, hm, IntKind.wrap_u64]; omega
          obtain ⟨k0, hk0⟩ : ∃ k : Nat, 4294967296 * r = k := ⟨_, rfl⟩
          have e2 : IntKind.u64.wrap (4294967296 * (r : Int)) = (k0 : Int) := by rw [IntKind.wrap_u64]; omega
          obtain ⟨k, hk⟩ : ∃ k : Nat, k0 + d0 = k := ⟨_, rfl⟩
          have e3 : IntKind.u64.wrap ((k0 : Int) + (d0 : Int)) = (k : Int) := by rw [IntKind.wrap_u64]; omega
          have hkk : Knuth.h * r + d0 = k := by simp only [Knuth.h]; omega
          have hdn : Knuth.h ≤ q ∨ k < m → 0 < q ∧ Knuth.Guess y1 y0 v d0 (q - 1) (r + y1) := fun ht => Knuth.down d0h hu' HG.out (by rw [hkk, hm]; exact ht)
          have hst : q < Knuth.h → m ≤ k → q = (v * Knuth.h + d0) / (y1 * Knuth.h + y0) := fun h1 h2 => Knuth.stop d0h hu' HG.out h1 (by rw [hkk, hm]; exact h2)
          obtain ⟨r', hr'⟩ : ∃ r', r + y1 = r' := ⟨_, rfl⟩
          have e5 : IntKind.u64.wrap ((r : Int) + (y1 : Int)) = (r' : Int) := by rw [IntKind.wrap_u64]; omega
          have hr3 : r' < 18446744073709551616 := by omega
          rw [hr'] at hdn
          have HH := Lib.hid hdn
          have HS := Lib.hid hst
          have hq64 : (q : Int) < 18446744073709551616 := by omega
          clear hm hk0 hk hkk hdn hst hm1 hr'
          by_cases hA : 4294967296 ≤ q
          · have HT : Hid (Knuth.h ≤ q ∨ k < m) := .inl hA
            have t1 : decide ((q : Int) ≥ 4294967296) = true := decide_eq_true (by omega)
            have t1' : (4294967296 : Int) ≤ (q : Int) := by omega
            clear hA
            obtain ⟨h0q, hG2⟩ := HH.out (HT.out)
            obtain ⟨q', hq'⟩ : ∃ q', q - 1 = q' := ⟨_, rfl⟩
            rw [hq'] at hG2
            have HG2 := Lib.hid hG2
            have e4 : IntKind.u64.wrap ((q : Int) - 1) = (q' : Int) := by rw [IntKind.wrap_u64]; omega
            have HQ := Lib.hid (show q = q' + 1 from by omega)
            have hq2 : q' ≤ 4294967296 := by omega
            clear hG2 hq' h0q hq1
            by_cases hbr : (4294967296 : Int) ≤ (r' : Int)
            · have HF := Lib.hid (Knuth.stop' y0h d0h hu' HG2.out hq2 (by simp only [Knuth.h]; omega))
              clear hq2
              have hdq : (v * 4294967296 + d0) / Y = q' := by rw [HE.out.1]; exact HF.out.symm
              have hq0 : q' < 4294967296 := by rw [← hdq, HE.out.1]; exact Knuth.digit_lt (y1 := y1) (y0 := y0) d0h (by have := HE.out.1; show v < y1 * 4294967296 + y0; omega)
              have bE := Nat.div_add_mod (v * 4294967296 + d0) Y
              have bQ : (v * 4294967296 + d0) / Y = q' := hdq
              rw [bQ] at bE
              have bL := Nat.mod_lt (v * 4294967296 + d0) (show 0 < Y by omega)
              obtain ⟨R, RE⟩ : ∃ z, (v * 4294967296 + d0) % Y = z := ⟨_, rfl⟩
              rw [RE] at bE bL
              obtain ⟨bC, bCE⟩ : ∃ c, q' * Y % 18446744073709551616 = c := ⟨_, rfl⟩
              have b3 : IntKind.u64.wrap ((q' : Int) * (Y : Int)) = (bC : Int) := by rw [← Int.natCast_mul, IntKind.wrap_u64]; omega
              rw [Nat.mul_comm Y] at bE
              obtain ⟨bA, bAE⟩ : ∃ c, v * 4294967296 % 18446744073709551616 = c := ⟨_, rfl⟩
              have b1 : IntKind.u64.wrap ((v : Int) * 4294967296) = (bA : Int) := by rw [IntKind.wrap_u64]; omega
              obtain ⟨bB, bBE⟩ : ∃ c, (bA + d0) % 18446744073709551616 = c := ⟨_, rfl⟩
              have b2 : IntKind.u64.wrap ((bA : Int) + (d0 : Int)) = (bB : Int) := by rw [IntKind.wrap_u64]; omega
              have b4 : IntKind.u64.wrap ((bB : Int) - (bC : Int)) = (R : Int) := by
                rw [IntKind.wrap_u64]
                generalize q' * Y = P at *
                omega
              have HR0' := Lib.hid RE
              clear bE bCE bAE bBE RE
              obtain ⟨Q1, hQ1⟩ : ∃ c : Nat, qa * 4294967296 = c := ⟨_, rfl⟩
              have c1 : IntKind.u64.wrap ((qa : Int) * 4294967296) = (Q1 : Int) := by rw [IntKind.wrap_u64]; omega
              obtain ⟨Q, hQ⟩ : ∃ c : Nat, Q1 + q' = c := ⟨_, rfl⟩
              have c2 : IntKind.u64.wrap ((Q1 : Int) + (q' : Int)) = (Q : Int) := by rw [IntKind.wrap_u64]; omega
              have HR : Hid (Q = d64q hi lo y ∧ R / 2 ^ s = d64r hi lo y) := by
                show Q = (hi * 18446744073709551616 + lo) / y ∧ R / 2 ^ s = (hi * 18446744073709551616 + lo) % y
                have e2 := Knuth.two u d1 d0 Y (by omega)
                have el := HE.out.2
                have eN : u * 18446744073709551616 + l = u * Knuth.h * Knuth.h + d1 * Knuth.h + d0 := Knuth.join u l d1 d0 el
                rw [← eN] at e2
                rw [← hbk.1, ← hbk.2, e2.1, e2.2]
                have x1 : (u * Knuth.h + d1) / Y = qa := HD1.out
                have x2 : (u * Knuth.h + d1) % Y = v := Hv.out
                have x3 : (v * Knuth.h + d0) / Y = q' := hdq
                have x4 : (v * Knuth.h + d0) % Y = R := HR0'.out
                rw [x1, x2, x3, x4]
                refine ⟨?_, rfl⟩
                show Q = qa * 4294967296 + q'
                rw [← hQ, ← hQ1]
              clear hQ hQ1 hdq hq0 bQ
              go_wp2_with fail
              exact bodyPost_ret (v := .tuple #[.int .u64 (Q : Nat), .int .u64 ((R : Int) / 2 ^ s)]) (by simp [results, Try.results87]) rfl ⟨by rw [int_shr, HR.out.1, HR.out.2], hB⟩
            · clear hq2
              go_wp2_with fail
              go_roundw
              case rel => exact ⟨by first | trivial | rfl, q', r', rfl, rfl, by omega, HG2⟩
              case measure => have := HQ.out; simp [intOf]; omega
          · by_cases hB : k < m
            · have HT : Hid (Knuth.h ≤ q ∨ k < m) := .inr hB
              have t1 : ¬ (4294967296 : Int) ≤ (q : Int) := by omega
              have t2 : (k : Int) < (m : Int) := by omega
              clear hA hB
              obtain ⟨h0q, hG2⟩ := HH.out (HT.out)
              obtain ⟨q', hq'⟩ : ∃ q', q - 1 = q' := ⟨_, rfl⟩
              rw [hq'] at hG2
              have HG2 := Lib.hid hG2
              have e4 : IntKind.u64.wrap ((q : Int) - 1) = (q' : Int) := by rw [IntKind.wrap_u64]; omega
              have HQ := Lib.hid (show q = q' + 1 from by omega)
              have hq2 : q' ≤ 4294967296 := by omega
              clear hG2 hq' h0q hq1
              by_cases hbr : (4294967296 : Int) ≤ (r' : Int)
              · have HF := Lib.hid (Knuth.stop' y0h d0h hu' HG2.out hq2 (by simp only [Knuth.h]; omega))
                clear hq2
                have hdq : (v * 4294967296 + d0) / Y = q' := by rw [HE.out.1]; exact HF.out.symm
                have hq0 : q' < 4294967296 := by rw [← hdq, HE.out.1]; exact Knuth.digit_lt (y1 := y1) (y0 := y0) d0h (by have := HE.out.1; show v < y1 * 4294967296 + y0; omega)
                have bE := Nat.div_add_mod (v * 4294967296 + d0) Y
                have bQ : (v * 4294967296 + d0) / Y = q' := hdq
                rw [bQ] at bE
                have bL := Nat.mod_lt (v * 4294967296 + d0) (show 0 < Y by omega)
                obtain ⟨R, RE⟩ : ∃ z, (v * 4294967296 + d0) % Y = z := ⟨_, rfl⟩
                rw [RE] at bE bL
                obtain ⟨bC, bCE⟩ : ∃ c, q' * Y % 18446744073709551616 = c := ⟨_, rfl⟩
                have b3 : IntKind.u64.wrap ((q' : Int) * (Y : Int)) = (bC : Int) := by rw [← Int.natCast_mul, IntKind.wrap_u64]; omega
                rw [Nat.mul_comm Y] at bE
                obtain ⟨bA, bAE⟩ : ∃ c, v * 4294967296 % 18446744073709551616 = c := ⟨_, rfl⟩
                have b1 : IntKind.u64.wrap ((v : Int) * 4294967296) = (bA : Int) := by rw [IntKind.wrap_u64]; omega
                obtain ⟨bB, bBE⟩ : ∃ c, (bA + d0) % 18446744073709551616 = c := ⟨_, rfl⟩
                have b2 : IntKind.u64.wrap ((bA : Int) + (d0 : Int)) = (bB : Int) := by rw [IntKind.wrap_u64]; omega
                have b4 : IntKind.u64.wrap ((bB : Int) - (bC : Int)) = (R : Int) := by
                  rw [IntKind.wrap_u64]
                  generalize q' * Y = P at *
                  omega
                have HR0' := Lib.hid RE
                clear bE bCE bAE bBE RE
                obtain ⟨Q1, hQ1⟩ : ∃ c : Nat, qa * 4294967296 = c := ⟨_, rfl⟩
                have c1 : IntKind.u64.wrap ((qa : Int) * 4294967296) = (Q1 : Int) := by rw [IntKind.wrap_u64]; omega
                obtain ⟨Q, hQ⟩ : ∃ c : Nat, Q1 + q' = c := ⟨_, rfl⟩
                have c2 : IntKind.u64.wrap ((Q1 : Int) + (q' : Int)) = (Q : Int) := by rw [IntKind.wrap_u64]; omega
                have HR : Hid (Q = d64q hi lo y ∧ R / 2 ^ s = d64r hi lo y) := by
                  show Q = (hi * 18446744073709551616 + lo) / y ∧ R / 2 ^ s = (hi * 18446744073709551616 + lo) % y
                  have e2 := Knuth.two u d1 d0 Y (by omega)
                  have el := HE.out.2
                  have eN : u * 18446744073709551616 + l = u * Knuth.h * Knuth.h + d1 * Knuth.h + d0 := Knuth.join u l d1 d0 el
                  rw [← eN] at e2
                  rw [← hbk.1, ← hbk.2, e2.1, e2.2]
                  have x1 : (u * Knuth.h + d1) / Y = qa := HD1.out
                  have x2 : (u * Knuth.h + d1) % Y = v := Hv.out
                  have x3 : (v * Knuth.h + d0) / Y = q' := hdq
                  have x4 : (v * Knuth.h + d0) % Y = R := HR0'.out
                  rw [x1, x2, x3, x4]
                  refine ⟨?_, rfl⟩
                  show Q = qa * 4294967296 + q'
                  rw [← hQ, ← hQ1]
                clear hQ hQ1 hdq hq0 bQ
                go_wp2_with fail
                exact bodyPost_ret (v := .tuple #[.int .u64 (Q : Nat), .int .u64 ((R : Int) / 2 ^ s)]) (by simp [results, Try.results87]) rfl ⟨by rw [int_shr, HR.out.1, HR.out.2], hB⟩
              · clear hq2
                go_wp2_with fail
                go_roundw
                case rel => exact ⟨by first | trivial | rfl, q', r', rfl, rfl, by omega, HG2⟩
                case measure => have := HQ.out; simp [intOf]; omega
            · have HF := Lib.hid (HS.out (by simp only [Knuth.h]; omega) (by omega))
              have t1 : ¬ (4294967296 : Int) ≤ (q : Int) := by omega
              have t2 : ¬ (k : Int) < (m : Int) := by omega
              clear hA hB hq1
              have hdq : (v * 4294967296 + d0) / Y = q := by rw [HE.out.1]; exact HF.out.symm
              have hq0 : q < 4294967296 := by rw [← hdq, HE.out.1]; exact Knuth.digit_lt (y1 := y1) (y0 := y0) d0h (by have := HE.out.1; show v < y1 * 4294967296 + y0; omega)
              have bE := Nat.div_add_mod (v * 4294967296 + d0) Y
              have bQ : (v * 4294967296 + d0) / Y = q := hdq
              rw [bQ] at bE
              have bL := Nat.mod_lt (v * 4294967296 + d0) (show 0 < Y by omega)
              obtain ⟨R, RE⟩ : ∃ z, (v * 4294967296 + d0) % Y = z := ⟨_, rfl⟩
              rw [RE] at bE bL
              obtain ⟨bC, bCE⟩ : ∃ c, q * Y % 18446744073709551616 = c := ⟨_, rfl⟩
              have b3 : IntKind.u64.wrap ((q : Int) * (Y : Int)) = (bC : Int) := by rw [← Int.natCast_mul, IntKind.wrap_u64]; omega
              rw [Nat.mul_comm Y] at bE
              obtain ⟨bA, bAE⟩ : ∃ c, v * 4294967296 % 18446744073709551616 = c := ⟨_, rfl⟩
              have b1 : IntKind.u64.wrap ((v : Int) * 4294967296) = (bA : Int) := by rw [IntKind.wrap_u64]; omega
              obtain ⟨bB, bBE⟩ : ∃ c, (bA + d0) % 18446744073709551616 = c := ⟨_, rfl⟩
              have b2 : IntKind.u64.wrap ((bA : Int) + (d0 : Int)) = (bB : Int) := by rw [IntKind.wrap_u64]; omega
              have b4 : IntKind.u64.wrap ((bB : Int) - (bC : Int)) = (R : Int) := by
                rw [IntKind.wrap_u64]
                generalize q * Y = P at *
                omega
              have HR0' := Lib.hid RE
              clear bE bCE bAE bBE RE
              obtain ⟨Q1, hQ1⟩ : ∃ c : Nat, qa * 4294967296 = c := ⟨_, rfl⟩
              have c1 : IntKind.u64.wrap ((qa : Int) * 4294967296) = (Q1 : Int) := by rw [IntKind.wrap_u64]; omega
              obtain ⟨Q, hQ⟩ : ∃ c : Nat, Q1 + q = c := ⟨_, rfl⟩
              have c2 : IntKind.u64.wrap ((Q1 : Int) + (q : Int)) = (Q : Int) := by rw [IntKind.wrap_u64]; omega
              have HR : Hid (Q = d64q hi lo y ∧ R / 2 ^ s = d64r hi lo y) := by
                show Q = (hi * 18446744073709551616 + lo) / y ∧ R / 2 ^ s = (hi * 18446744073709551616 + lo) % y
                have e2 := Knuth.two u d1 d0 Y (by omega)
                have el := HE.out.2
                have eN : u * 18446744073709551616 + l = u * Knuth.h * Knuth.h + d1 * Knuth.h + d0 := Knuth.join u l d1 d0 el
                rw [← eN] at e2
                rw [← hbk.1, ← hbk.2, e2.1, e2.2]
                have x1 : (u * Knuth.h + d1) / Y = qa := HD1.out
                have x2 : (u * Knuth.h + d1) % Y = v := Hv.out
                have x3 : (v * Knuth.h + d0) / Y = q := hdq
                have x4 : (v * Knuth.h + d0) % Y = R := HR0'.out
                rw [x1, x2, x3, x4]
                refine ⟨?_, rfl⟩
                show Q = qa * 4294967296 + q
                rw [← hQ, ← hQ1]
              clear hQ hQ1 hdq hq0 bQ
              go_wp2_with fail
              exact bodyPost_ret (v := .tuple #[.int .u64 (Q : Nat), .int .u64 ((R : Int) / 2 ^ s)]) (by simp [results, Try.results87]) rfl ⟨by rw [int_shr, HR.out.1, HR.out.2], hB⟩
end Go.Proofs.Ytchfbblpflcniaa


/-
  The contracts of wide that were walked before, as the evaluator takes them.
-/
set_option linter.unusedVariables false
set_option linter.unusedSimpArgs false
namespace Go.Proofs.Ytchfbblpflcniaa
open Go Go.RowKit Sx

theorem plain3_wi (neg over : Bool) (v : Nat) : plain3 (.agg ⟨wiL neg over v⟩) = true := plain_wi neg over v
theorem cMade (neg : Bool) (v : Nat) (h : List (Option Chunk)) (hv : v < Top) : CallOK Try.prog 67 [.bool neg, .agg ⟨limL 16 (dg v)⟩] h (.agg ⟨wiL (neg && decide (v ≠ 0)) false v⟩) [] [] :=
  call_pure (by simp [plain_lim]; rfl) (plain3_wi _ _ _) (Try.call67 _) fun w => by
    have := made_any neg v hv w
    rw [wi_is] at this
    exact this
theorem cOf (n : Int) (h : List (Option Chunk)) (h0 : -9223372036854775808 ≤ n) (h1 : n < 9223372036854775808) : CallOK Try.prog 40 [.int .i64 n] h (.agg ⟨wiL (decide (n < 0)) false n.natAbs⟩) [] [] :=
  call_pure rfl (plain3_wi _ _ _) (Try.call40 _) fun w => by
    have := wof_any n h0 h1 w
    unfold zi at this
    rw [wi_is] at this
    exact this
theorem reads_lims {o : Bool} {n m p : Nat} {f : Nat → Nat} (hp : p + m ≤ n) : Reads ⟨o, n, [(0, n, .agg ⟨limL n f⟩)]⟩ p true m (.agg ⟨limL m (fun k => f (p + k))⟩) := by
  refine ⟨hp, _, rfl, limL_len _ _, fun k hk => ?_⟩
  show cellOf _ _ = _
  rw [cellOf_cons, if_pos (by omega)]
  simp only [cellIn]
  rw [limL_get hk, show p + k - 0 = p + k from rfl, limL_get (by omega)]
theorem writes_all {n : Nat} {ps : List (Nat × Nat × Value)} {v : Value} : Writes ⟨true, n, ps⟩ 0 n v ⟨true, n, [(0, n, v)]⟩ := by
  refine ⟨rfl, by show 0 + n ≤ n; omega, rfl, fun k hk => ?_⟩
  have hk : k < n := hk
  show cellOf _ _ = _
  rw [cellOf_cons, if_pos (by omega), if_pos (by omega)]
end Go.Proofs.Ytchfbblpflcniaa


/-
  Long multiplication by digits, plain.
-/
set_option linter.unusedVariables false
namespace Go.Proofs.Ytchfbblpflcniaa

def mT (v u i : Nat) : Nat := v % Bs ^ i * u
def mX (v u i j : Nat) : Nat := mT v u i + Bs ^ i * dg v i * (u % Bs ^ j)
def mC (v u i j : Nat) : Nat := mX v u i j / Bs ^ (i + j) - mT v u i / Bs ^ (i + j)
def mA (v u i j k : Nat) : Nat := if k < i + j then dg (mX v u i j) k else dg (mT v u i) k

theorem mX_zero (v u i : Nat) : mX v u i 0 = mT v u i := by simp [mX, Nat.mod_one]
theorem mC_zero (v u i : Nat) : mC v u i 0 = 0 := by simp [mC, mX_zero]
theorem mA_zero (v u i k : Nat) : mA v u i 0 k = dg (mT v u i) k := by unfold mA; rw [mX_zero]; split <;> rfl
theorem mT_zero (v u : Nat) : mT v u 0 = 0 := by simp [mT, Nat.mod_one]
theorem mX_succ (v u i j : Nat) : mX v u i (j + 1) = mX v u i j + Bs ^ (i + j) * (dg v i * dg u j) := by
  unfold mX
  rw [mod_step, Nat.mul_add, ← Nat.add_assoc, Nat.pow_add]
  congr 1
  simp only [Nat.mul_assoc, Nat.mul_left_comm]
theorem mX_ge (v u i j : Nat) : mT v u i ≤ mX v u i j := Nat.le_add_right _ _
theorem mX_div (v u i j : Nat) : mX v u i j / Bs ^ (i + j) = mT v u i / Bs ^ (i + j) + mC v u i j := by
  unfold mC
  have := Nat.div_le_div_right (c := Bs ^ (i + j)) (mX_ge v u i j)
  omega
theorem mX_next (v u i j : Nat) : mX v u i (j + 1) / Bs ^ (i + j) = mT v u i / Bs ^ (i + j) + mC v u i j + dg v i * dg u j := by
  rw [mX_succ, Nat.add_mul_div_left _ _ (bsp_pos _), mX_div]
theorem mC_step (v u i j : Nat) : mC v u i (j + 1) = (dg v i * dg u j + dg (mT v u i) (i + j) + mC v u i j) / 18446744073709551616 := by
  have h := mX_next v u i j
  have hs := dg_step (mT v u i) (i + j)
  have h2 : mX v u i (j + 1) / Bs ^ (i + (j + 1)) = mX v u i (j + 1) / Bs ^ (i + j) / Bs := by
    rw [Nat.div_div_eq_div_mul, show i + (j + 1) = (i + j) + 1 from rfl, Nat.pow_succ]
  generalize hc : mC v u i j = c at *
  show mX v u i (j + 1) / Bs ^ (i + (j + 1)) - mT v u i / Bs ^ (i + (j + 1)) = _
  rw [h2, h, hs, show i + (j + 1) = (i + j) + 1 from rfl]
  rw [show mT v u i / Bs ^ (i + j + 1) * Bs + dg (mT v u i) (i + j) + c + dg v i * dg u j = Bs * (mT v u i / Bs ^ (i + j + 1)) + (dg v i * dg u j + dg (mT v u i) (i + j) + c) from by rw [Nat.mul_comm]; omega]
  rw [Nat.mul_add_div bs_pos, Nat.add_sub_cancel_left]
theorem mA_dig (v u i j : Nat) : dg (mX v u i (j + 1)) (i + j) = (dg v i * dg u j + dg (mT v u i) (i + j) + mC v u i j) % 18446744073709551616 := by
  have h := mX_next v u i j
  have hs := dg_step (mT v u i) (i + j)
  show mX v u i (j + 1) / Bs ^ (i + j) % Bs = _
  rw [h, hs]
  rw [show mT v u i / Bs ^ (i + j + 1) * Bs + dg (mT v u i) (i + j) + mC v u i j + dg v i * dg u j = Bs * (mT v u i / Bs ^ (i + j + 1)) + (dg v i * dg u j + dg (mT v u i) (i + j) + mC v u i j) from by rw [Nat.mul_comm]; omega]
  rw [Nat.mul_add_mod]
theorem total_lt {a b t c : Nat} (ha : a < 18446744073709551616) (hb : b < 18446744073709551616) (ht : t < 18446744073709551616) (hc : c < 18446744073709551616) : (a * b + t + c) / 18446744073709551616 < 18446744073709551616 := by
  have : a * b ≤ 18446744073709551615 * 18446744073709551615 := Nat.mul_le_mul (by omega) (by omega)
  omega
theorem mC_lt (v u i : Nat) : ∀ j, mC v u i j < 18446744073709551616
  | 0 => by rw [mC_zero]; decide
  | j + 1 => by rw [mC_step]; exact total_lt (dg_lt _ _) (dg_lt _ _) (dg_lt _ _) (mC_lt v u i j)
theorem dg_add (x y p k : Nat) (h : k < p) : dg (x + Bs ^ p * y) k = dg x k := by
  rw [← dg_mod (x + Bs ^ p * y) p k h, Nat.add_mul_mod_self_left, dg_mod x p k h]
theorem mA_step (v u i j k : Nat) (h : k ≠ i + j) : mA v u i (j + 1) k = mA v u i j k := by
  unfold mA
  by_cases hk : k < i + j
  · rw [if_pos hk, if_pos (by omega), mX_succ, dg_add _ _ _ _ hk]
  · rw [if_neg hk, if_neg (by omega)]
theorem mA_at (v u i j : Nat) : mA v u i (j + 1) (i + j) = (dg v i * dg u j + dg (mT v u i) (i + j) + mC v u i j) % 18446744073709551616 := by
  unfold mA; rw [if_pos (by omega), mA_dig]
theorem mA_old (v u i j : Nat) : mA v u i j (i + j) = dg (mT v u i) (i + j) := by unfold mA; rw [if_neg (by omega)]
theorem mX_end (v u i n : Nat) (hu : u < Bs ^ n) : mX v u i n = mT v u (i + 1) := by
  unfold mX mT
  rw [Nat.mod_eq_of_lt hu, mod_step, Nat.add_mul]
theorem mT_lt (v u i n : Nat) (hu : u < Bs ^ n) : mT v u i < Bs ^ (i + n) := by
  unfold mT
  rw [Nat.pow_add]
  have h1 := Nat.mod_lt v (bsp_pos i)
  exact Nat.mul_lt_mul'' h1 hu
theorem mul_end (v u i n k : Nat) (hu : u < Bs ^ n) : dg (mT v u (i + 1)) k = if k < i + n then mA v u i n k else if k = i + n then mC v u i n else dg (mT v u i) k := by
  have hx := mX_end v u i n hu
  have h0 : mT v u i / Bs ^ (i + n) = 0 := Nat.div_eq_of_lt (mT_lt v u i n hu)
  by_cases h1 : k < i + n
  · rw [if_pos h1]; unfold mA; rw [if_pos h1, hx]
  · rw [if_neg h1]
    by_cases h2 : k = i + n
    · rw [if_pos h2]
      subst h2
      have h3 := mX_div v u i n
      rw [h0, Nat.zero_add, hx] at h3
      show mT v u (i + 1) / Bs ^ (i + n) % Bs = _
      rw [h3, Nat.mod_eq_of_lt (mC_lt v u i n)]
    · rw [if_neg h2]
      have h4 : i + n ≤ k := by omega
      have h5 : Bs ^ (i + n) ≤ Bs ^ k := Nat.pow_le_pow_right bs_pos h4
      have h6 : Bs ^ (i + 1 + n) ≤ Bs ^ k := Nat.pow_le_pow_right bs_pos (by omega)
      rw [dg_big _ _ (Nat.lt_of_lt_of_le (mT_lt v u i n hu) h5), dg_big _ _ (Nat.lt_of_lt_of_le (mT_lt v u (i + 1) n hu) h6)]
theorem mA_high (v u i n k : Nat) (h : i + n ≤ k) : mA v u i n k = dg (mT v u i) k := by unfold mA; rw [if_neg (by omega)]
theorem mT_end (v u m : Nat) (hv : v < Bs ^ m) : mT v u m = v * u := by unfold mT; rw [Nat.mod_eq_of_lt hv]
end Go.Proofs.Ytchfbblpflcniaa


/-
  The walk of wide.Mul.
-/
set_option linter.unusedVariables false
set_option linter.unusedSimpArgs false
namespace Go.Proofs.Ytchfbblpflcniaa
open Go Go.RowKit Sx

theorem mul_low (ab t c : Nat) : (((((ab % 18446744073709551616 : Nat) : Int) + (t : Int) + 0) % 18446744073709551616) + (c : Int) + 0) % 18446744073709551616 = (((ab + t + c) % 18446744073709551616 : Nat) : Int) := by omega
theorem mul_high (ab t c : Nat) (h : (ab + t + c) / 18446744073709551616 < 18446744073709551616) : IntKind.u64.wrap (IntKind.u64.wrap (((ab / 18446744073709551616 : Nat) : Int) + (((ab % 18446744073709551616 : Nat) : Int) + (t : Int) + 0) / 18446744073709551616) + ((((ab % 18446744073709551616 : Nat) : Int) + (t : Int) + 0) % 18446744073709551616 + (c : Int) + 0) / 18446744073709551616) = (((ab + t + c) / 18446744073709551616 : Nat) : Int) := by
  rw [IntKind.wrap_u64, IntKind.wrap_u64]; omega
theorem int_u64 {a b : Int} (h : a = b) : Value.int .u64 a = .int .u64 b := by rw [h]
theorem int_i64 {a b : Int} (h : a = b) : Value.int .i64 a = .int .i64 b := by rw [h]

set_option maxRecDepth 100000 in
set_option maxHeartbeats 1000000 in
theorem mul_x (n1 n2 : Bool) (v u : Nat) (hv : v < Bs ^ 16) (hu : u < Bs ^ 16) (hvu : v * u < Top) (w : World) :
    Calls Try.prog 44 #[.agg ⟨wiL n1 false v⟩, .agg ⟨wiL n2 false u⟩] w fun e w' => e = .returned (.agg ⟨wiL ((n1 != n2) && decide (v * u ≠ 0)) false (v * u)⟩) ∧ Below w.heap.size w w' := by
  have hn1 := nd_le v
  have hn2 := nd_le u
  have hvm : v < Bs ^ nd v := ndTo_lt v 16 hv
  have hun : u < Bs ^ nd u := ndTo_lt u 16 hu
  refine calls_pure (G := tys) w tysOK mixed Try.func44 (by rfl) (by simp [plain_wi]) (by exact plain_wi _ _ _) ?_
  repeat (refine N.go ?_; first | with_reducible (first | refine N.obl (flat_wi _ _ _) ?_ | refine N.obl (flat_lim _ _) ?_ | refine N.eq ?_ | refine N.obl rfl ?_ | refine N.obl ⟨by kernel_rfl, by kernel_rfl⟩ ?_ | refine N.alt ?_ | refine N.forkT ?_ | refine N.forkF ?_) | refine N.call (cParts _ _ _ _ (has_wi (by rfl))) ?_)
  refine N.go ?_
  refine N.loop (α := Nat) (fun i => i ≤ nd v) (fun i => nd v - i) (fun i => [(29, .int .i64 (i : Int))]) (fun i => [(3, ⟨true, 32, [(0, 32, .agg ⟨limL 32 (dg (mT v u i))⟩)]⟩)]) 0 (Nat.zero_le _) ?_ ?_
  · repeat (refine N.go ?_; first | exact N.true | with_reducible (first | refine N.obl rfl ?_ | refine N.obl (ChunkLe.refl _) ?_) | refine N.obl (ChunkLe.of (by rw [mT_zero, limL_same (g := fun _ => 0) (fun j _ => dg_zero j)]; rfl)) ?_)
  · intro i hi
    by_cases hlt : i < nd v
    · refine N.go ?_
      refine N.forkYes (by simpa using hlt) ?_
      refine N.go ?_
      refine N.loop (α := Nat) (fun j => j ≤ nd u) (fun j => nd u - j) (fun j => [(33, .int .i64 (j : Int)), (9, .int .u64 ((mC v u i j : Nat) : Int))]) (fun j => [(3, ⟨true, 32, [(0, 32, .agg ⟨limL 32 (mA v u i j)⟩)]⟩)]) 0 (Nat.zero_le _) ?_ ?_
      · repeat (refine N.go ?_; first | exact N.true | with_reducible (first | refine N.obl rfl ?_ | refine N.obl (ChunkLe.refl _) ?_) | refine N.obl (ChunkLe.of (by rw [limL_same (f := mA v u i 0) (g := dg (mT v u i)) (fun k _ => mA_zero v u i k)])) ?_ | refine N.obl (by rw [mC_zero]; rfl) ?_)
      · intro j hj
        have da := dg_lt v i
        have db := dg_lt u j
        have dt := dg_lt (mT v u i) (i + j)
        have dc := mC_lt v u i j
        by_cases hlt2 : j < nd u
        · have hab : dg v i * dg u j ≤ 18446744073709551615 * 18446744073709551615 := Nat.mul_le_mul (by omega) (by omega)
          refine N.go ?_
          refine N.forkYes (by simpa using hlt2) ?_
          refine N.go ?_
          refine N.alt ?_
          refine N.go ?_
          refine N.idx i 1 rfl (by omega) ?_
          refine N.go ?_
          refine N.load _ (reads_wi (p := i) (by omega) rfl) ?_
          refine N.go ?_
          refine N.idx j 1 rfl (by omega) ?_
          refine N.go ?_
          refine N.load _ (reads_wi (p := j) (by omega) rfl) ?_
          refine N.go ?_
          refine N.call (cMul64 (dg v i) (dg u j) _ da db) ?_
          refine N.go ?_
          refine N.obl ⟨by kernel_rfl, by kernel_rfl⟩ ?_
          refine N.go ?_
          refine N.idx (i + j) 1 (by rw [IntWalk.i64_in _ (by omega)]; omega) (by omega) ?_
          refine N.go ?_
          refine N.load _ (reads_lim (p := i + j) (by omega) rfl) ?_
          rw [mA_old]
          refine N.go ?_
          refine N.call (cAdd64 _ _ _ _ (by omega) (by omega) (by omega) (by omega) (by omega) (by omega)) ?_
          refine N.go ?_
          refine N.call (cAdd64 _ _ _ _ (by omega) (by omega) (by omega) (by omega) (by omega) (by omega)) ?_
          refine N.go ?_
          refine N.idx (i + j) 1 (by rw [IntWalk.i64_in _ (by omega)]; omega) (by omega) ?_
          refine N.go ?_
          refine N.store ⟨true, 32, [(0, 32, .agg ⟨limL 32 (mA v u i (j + 1))⟩)]⟩ (writes_lim (p := i + j) (by omega) rfl (by rw [mA_at]; exact mul_low _ _ _) (fun k _ hk => mA_step v u i j k hk)) ?_
          refine N.go ?_
          refine N.next (j + 1) ⟨by omega, by omega⟩ ?_
          repeat (refine N.go ?_; first | exact N.true | with_reducible (first | refine N.obl rfl ?_ | refine N.obl (ChunkLe.refl _) ?_) | refine N.obl (int_i64 (by rw [IntWalk.i64_in _ (by omega)]; rfl)) ?_ | refine N.obl (int_u64 (by rw [mC_step]; exact mul_high _ _ _ (total_lt da db dt dc))) ?_)
        · refine N.go ?_
          refine N.forkNo (by simpa using hlt2) ?_
          obtain rfl : j = nd u := by omega
          refine N.go ?_
          refine N.idx (i + nd u) 1 (by rw [IntWalk.i64_in _ (by omega)]; omega) (by omega) ?_
          refine N.go ?_
          refine N.store ⟨true, 32, [(0, 32, .agg ⟨limL 32 (dg (mT v u (i + 1)))⟩)]⟩ (writes_lim (p := i + nd u) (by omega) rfl (by rw [mul_end v u i (nd u) _ hun, if_neg (by omega), if_pos rfl]) (fun k _ hk => by
            rw [mul_end v u i (nd u) k hun]
            by_cases h : k < i + nd u
            · rw [if_pos h]
            · rw [if_neg h, if_neg hk, mA_high _ _ _ _ _ (by omega)])) ?_
          refine N.go ?_
          refine N.next (i + 1) ⟨by omega, by omega⟩ ?_
          repeat (refine N.go ?_; first | exact N.true | with_reducible (first | refine N.obl rfl ?_ | refine N.obl (ChunkLe.refl _) ?_) | refine N.obl (int_i64 (by rw [IntWalk.i64_in _ (by omega)]; rfl)) ?_)
    · have hm : i = nd v := by omega
      subst hm
      refine N.go ?_
      refine N.forkNo (by simp) ?_
      refine N.go ?_
      rw [mT_end v u _ hvm]
      refine N.mk ⟨0, 16, 0, rfl, rfl, ?_⟩
      refine N.go ?_
      refine N.mk ⟨0, 16, 0, ⟨rfl, by decide⟩, rfl, ?_⟩
      refine N.go ?_
      refine N.mk ⟨16, .agg ⟨limL 16 (dg (v * u))⟩, ⟨true, 16, [(0, 16, .agg ⟨limL 16 (dg (v * u))⟩)]⟩, rfl, ?_, flat_lim _ _, writes_all, ?_⟩
      · have := reads_lims (o := true) (n := 32) (m := 16) (p := 0) (f := dg (v * u)) (by omega)
        simp only [Nat.zero_add] at this
        exact this
      refine N.go ?_
      refine N.obl ⟨by kernel_rfl, by kernel_rfl⟩ ?_
      refine N.go ?_
      refine N.mk ⟨16, 32, 1, rfl, ⟨rfl, by decide⟩, ?_⟩
      refine N.go ?_
      refine N.loop (α := Nat) (fun j => j ≤ 16) (fun j => 16 - j) (fun j => [(86, .int .i64 (j : Int))]) (fun _ => []) 0 (by omega) ?_ ?_
      · repeat (refine N.go ?_; first | exact N.true | with_reducible refine N.obl rfl ?_ | with_reducible refine N.obl (ChunkLe.refl _) ?_ )
      · intro j hj
        by_cases hlt3 : j < 16
        · refine N.go ?_
          refine N.forkYes (by simp; omega) ?_
          refine N.go ?_
          refine N.idx j 1 rfl hlt3 ?_
          refine N.go ?_
          refine N.load _ (reads_lim (p := 16 + j) (by omega) rfl) ?_
          refine N.go ?_
          have hz : dg (v * u) (16 + j) = 0 := dg_big _ _ (Nat.lt_of_lt_of_le (Nat.lt_trans hvu top_lt) (Nat.pow_le_pow_right bs_pos (by omega)))
          rw [hz]
          refine N.forkNo rfl ?_
          refine N.go ?_
          refine N.next (j + 1) ⟨by omega, by omega⟩ ?_
          repeat (refine N.go ?_; first | exact N.true | with_reducible (first | refine N.obl rfl ?_ | refine N.obl (ChunkLe.refl _) ?_) | refine N.obl (int_i64 (by rw [IntWalk.i64_in _ (by omega)]; rfl)) ?_)
        · refine N.go ?_
          refine N.forkNo (by simp; omega) ?_
          repeat (refine N.go ?_; first | with_reducible (first | refine N.obl (flat_wi _ _ _) ?_ | refine N.obl (flat_lim _ _) ?_ | refine N.eq ?_ | refine N.obl rfl ?_ | refine N.obl ⟨by kernel_rfl, by kernel_rfl⟩ ?_ | refine N.alt ?_ | refine N.forkT ?_ | refine N.forkF ?_) | refine N.call (cMade _ _ _ hvu) ?_)
          rfl
end Go.Proofs.Ytchfbblpflcniaa


/-
  The walks of wide.Div by one digit, of Neg, Int64, narrow, above, MulDiv, MulDivUp.
-/
set_option linter.unusedVariables false
set_option linter.unusedSimpArgs false
namespace Go.Proofs.Ytchfbblpflcniaa
open Go Go.RowKit Sx

/-- A whole number as a wide one. -/
abbrev wz (z : Int) : Value := .agg ⟨wiL (decide (z < 0)) false z.natAbs⟩
theorem plain_wz (z : Int) : plain2 (wz z) = true := plain_wi _ _ _
theorem plain3_wz (z : Int) : plain3 (wz z) = true := plain_wi _ _ _
theorem cNegBool (a b : Int) : ((decide (a < 0) != decide (b < 0)) && decide (a.natAbs * b.natAbs ≠ 0)) = decide (a * b < 0) := by
  by_cases h0 : a = 0
  · subst h0; simp
  by_cases h1 : b = 0
  · subst h1; simp
  have hne : a.natAbs * b.natAbs ≠ 0 := Nat.mul_ne_zero (by omega) (by omega)
  rw [decide_eq_true hne, Bool.and_true]
  rcases Int.lt_or_gt_of_ne h0 with ha | ha <;> rcases Int.lt_or_gt_of_ne h1 with hb | hb
  · have := Int.mul_pos_of_neg_of_neg ha hb
    rw [decide_eq_true ha, decide_eq_true hb, decide_eq_false (by omega)]; rfl
  · have := Int.mul_neg_of_neg_of_pos ha hb
    rw [decide_eq_true ha, decide_eq_false (by omega : ¬ b < 0), decide_eq_true this]; rfl
  · have := Int.mul_neg_of_pos_of_neg ha hb
    rw [decide_eq_false (by omega : ¬ a < 0), decide_eq_true hb, decide_eq_true this]; rfl
  · have := Int.mul_pos ha hb
    rw [decide_eq_false (by omega : ¬ a < 0), decide_eq_false (by omega : ¬ b < 0), decide_eq_false (by omega)]; rfl
theorem cMulz (a b : Int) (h : List (Option Chunk)) (ha : a.natAbs < Bs ^ 16) (hb : b.natAbs < Bs ^ 16) (hab : (a * b).natAbs < Top) : CallOK Try.prog 44 [wz a, wz b] h (wz (a * b)) [] [] :=
  call_pure (by simp [plain_wz]) (plain3_wz _) (Try.call44 _) fun w => by
    have := mul_x (decide (a < 0)) (decide (b < 0)) a.natAbs b.natAbs ha hb (by rwa [← Int.natAbs_mul]) w
    rw [cNegBool, ← Int.natAbs_mul] at this
    exact this
theorem cOfz (n : Int) (h : List (Option Chunk)) (h0 : -9223372036854775808 ≤ n) (h1 : n < 9223372036854775808) : CallOK Try.prog 40 [.int .i64 n] h (wz n) [] [] := cOf n h h0 h1

theorem cDivide (a b : Nat) (h : List (Option Chunk)) (ha : a < Bs ^ 16) (hb0 : 0 < b) (hb : b < 18446744073709551616) : CallOK Try.prog 63 [.agg ⟨limL 16 (dg a)⟩, .agg ⟨limL 16 (dg b)⟩] h (.tuple #[.agg ⟨limL 16 (dg (a / b))⟩, .agg ⟨limL 16 (dg (a % b))⟩]) [] [] :=
  call_pure (by simp [plain_lim]) (by simp [plain3, plain_lim]) (Try.call63 _) fun w => divide_one a b ha hb0 hb (fun i w hi => by
    have hs := div_step a b i hb0
    have hr : rm a b (i + 1) < b := Nat.mod_lt _ hb0
    have hd := dg_lt a i
    have e1 : rm a b (i + 1) * 18446744073709551616 + dg a i = a / Bs ^ (i + 1) % b * 18446744073709551616 + dg a i := rfl
    rcases Nat.eq_zero_or_pos (rm a b (i + 1)) with h0 | h0
    · have := div64_lo (dg a i) b hd hb0 hb w
      rw [h0, Nat.zero_mul, Nat.zero_add] at e1
      rw [← e1] at hs
      rw [hs.1, hs.2] at this
      rw [h0]
      exact this
    · have := div64_hi (rm a b (i + 1)) (dg a i) b h0 hr hd hb w
      unfold d64q d64r at this
      rw [e1, hs.1, hs.2] at this
      exact this) w

theorem has_lim {h : List (Option Chunk)} {i v : Nat} {o : Bool} (hi : h[i]? = some (some ⟨o, 16, [(0, 16, .agg ⟨limL 16 (dg v)⟩)]⟩)) : Has h i 0 v :=
  ⟨_, hi, Nat.le_refl _, fun j hj => by
    show cellOf _ _ = _
    rw [cellOf_cons, if_pos (by omega)]
    simp only [cellIn]
    rw [show 0 + j - 0 = j from by omega]
    exact limL_get hj⟩
theorem lim_one1 : limL 16 (dg 1) = [.int .u64 1, .int .u64 0, .int .u64 0, .int .u64 0, .int .u64 0, .int .u64 0, .int .u64 0, .int .u64 0, .int .u64 0, .int .u64 0, .int .u64 0, .int .u64 0, .int .u64 0, .int .u64 0, .int .u64 0, .int .u64 0] := by
  rw [limL_same (g := fun j => if j = 0 then 1 else 0) (fun j _ => dg_small 1 (by decide) j)]; rfl
theorem has_one {h : List (Option Chunk)} {i : Nat} {o : Bool} (hi : h[i]? = some (some ⟨o, 16, [(0, 16, .agg ⟨[.int .u64 1, .int .u64 0, .int .u64 0, .int .u64 0, .int .u64 0, .int .u64 0, .int .u64 0, .int .u64 0, .int .u64 0, .int .u64 0, .int .u64 0, .int .u64 0, .int .u64 0, .int .u64 0, .int .u64 0, .int .u64 0]⟩)]⟩)) : Has h i 0 1 := by
  rw [← lim_one1] at hi; exact has_lim hi
theorem cAdd (i f v j g u : Nat) (h : List (Option Chunk)) (h1 : Has h i f v) (h2 : Has h j g u) : CallOK Try.prog 64 [.pointer (some ⟨i, f, some 0⟩), .pointer (some ⟨j, g, some 0⟩)] h (.tuple #[.agg ⟨limL 16 (dg (v + u))⟩, .int .u64 (cry v u 16)]) [] [i, j] :=
  call_heap [i, j] (by simp [plain3, plain_lim]; rfl) (Try.call64) fun ρ w hc => add_any (ρ i).1 ((ρ i).2 + f) v (ρ j).1 ((ρ j).2 + g) u w (h1.digs (by simp) hc) (h2.digs (by simp) hc)
theorem cBits (i f v : Nat) (h : List (Option Chunk)) (h1 : Has h i f v) : CallOK Try.prog 62 [.pointer (some ⟨i, f, some 0⟩)] h (.int .i64 (bl v)) [] [i] :=
  call_heap [i] rfl (Try.call62) fun ρ w hc => (bits_any (ρ i).1 ((ρ i).2 + f) v w (h1.digs (by simp) hc)).mono (by rintro e w' ⟨he, rfl⟩; exact ⟨he, Below.refl _ _⟩)
theorem guard_size : Try.prog.eqGuardType Try.prog.depth 50 = false := by kernel_rfl
theorem eq_size0 (op : BinOp) (x y : Operand) (u : Nat) (hu : u < Bs ^ 16) (neg : Bool) (hop : op = if neg then .neq else .eql) : BinIs Try.prog op 50 x y (.agg ⟨limL 16 (dg u)⟩) (.agg #[.int .u64 0, .int .u64 0, .int .u64 0, .int .u64 0, .int .u64 0, .int .u64 0, .int .u64 0, .int .u64 0, .int .u64 0, .int .u64 0, .int .u64 0, .int .u64 0, .int .u64 0, .int .u64 0, .int .u64 0, .int .u64 0]) (.bool (if neg then !decide (u = 0) else decide (u = 0))) := by
  have he := equal_zero u hu
  refine ⟨plain_lim _ _, rfl, by cases neg <;> rfl, fun w => ?_⟩
  have hg : ∀ op, (eqGuard op 50 x y (.agg ⟨limL 16 (dg u)⟩) (.agg #[.int .u64 0, .int .u64 0, .int .u64 0, .int .u64 0, .int .u64 0, .int .u64 0, .int .u64 0, .int .u64 0, .int .u64 0, .int .u64 0, .int .u64 0, .int .u64 0, .int .u64 0, .int .u64 0, .int .u64 0, .int .u64 0])).run Try.prog w = .ok () w := fun op => by
    cases op <;> simp [eqGuard, Sem.run_bind, run_program, guard_size]
  subst hop
  cases neg
  · simp only [Sem.run_bind, hg, Result.andThen_ok, if_false, Bool.false_eq_true]
    show (do pure (.bool (← Op.equal 50 (.agg ⟨limL 16 (dg u)⟩) (.agg #[.int .u64 0, .int .u64 0, .int .u64 0, .int .u64 0, .int .u64 0, .int .u64 0, .int .u64 0, .int .u64 0, .int .u64 0, .int .u64 0, .int .u64 0, .int .u64 0, .int .u64 0, .int .u64 0, .int .u64 0, .int .u64 0]))) : Sem Value).run Try.prog w = _
    simp only [Sem.run_bind]
    rw [show (Op.equal 50 (.agg ⟨limL 16 (dg u)⟩) (.agg #[.int .u64 0, .int .u64 0, .int .u64 0, .int .u64 0, .int .u64 0, .int .u64 0, .int .u64 0, .int .u64 0, .int .u64 0, .int .u64 0, .int .u64 0, .int .u64 0, .int .u64 0, .int .u64 0, .int .u64 0, .int .u64 0])).run Try.prog w = .ok (decide (u = 0)) w from he w]
    rfl
  · simp only [Sem.run_bind, hg, Result.andThen_ok, if_true]
    show (do pure (.bool (!(← Op.equal 50 (.agg ⟨limL 16 (dg u)⟩) (.agg #[.int .u64 0, .int .u64 0, .int .u64 0, .int .u64 0, .int .u64 0, .int .u64 0, .int .u64 0, .int .u64 0, .int .u64 0, .int .u64 0, .int .u64 0, .int .u64 0, .int .u64 0, .int .u64 0, .int .u64 0, .int .u64 0])))) : Sem Value).run Try.prog w = _
    simp only [Sem.run_bind]
    rw [show (Op.equal 50 (.agg ⟨limL 16 (dg u)⟩) (.agg #[.int .u64 0, .int .u64 0, .int .u64 0, .int .u64 0, .int .u64 0, .int .u64 0, .int .u64 0, .int .u64 0, .int .u64 0, .int .u64 0, .int .u64 0, .int .u64 0, .int .u64 0, .int .u64 0, .int .u64 0, .int .u64 0])).run Try.prog w = .ok (decide (u = 0)) w from he w]
    rfl
end Go.Proofs.Ytchfbblpflcniaa


/-
  The walks of wide.Div by one digit, of Neg, Int64, narrow, above, MulDiv, MulDivUp (second part).
-/
set_option linter.unusedVariables false
set_option linter.unusedSimpArgs false
namespace Go.Proofs.Ytchfbblpflcniaa
open Go Go.RowKit Sx

set_option maxRecDepth 100000 in
theorem neg_x (z : Int) (hz : z.natAbs < Top) (w : World) : Calls Try.prog 84 #[wz z] w fun e w' => e = .returned (wz (-z)) ∧ Below w.heap.size w w' := by
  refine calls_pure (G := tys) w tysOK mixed Try.func84 (by rfl) (by first | rfl | (simp only [List.all_cons, List.all_nil, plain_wz, plain_lim, plain_wi]; rfl)) (by first | exact plain3_wz _ | exact plain3_wi _ _ _ | rfl | (simp only [plain3, List.all_cons, List.all_nil, plain_wz, plain_lim, plain_wi]; rfl)) ?_
  repeat' (refine N.go ?_; first | with_reducible (first | refine N.obl (flat_wi _ _ _) ?_ | refine N.obl (flat_lim _ _) ?_ | refine N.eq ?_ | refine N.obl rfl ?_ | refine N.obl ⟨by kernel_rfl, by kernel_rfl⟩ ?_ | refine N.alt ?_ | refine N.forkT ?_ | refine N.forkF ?_) | with_reducible refine N.call (cMade _ _ _ hz) ?_)
  all_goals
    simp only [wz, Value.agg.injEq, Array.mk.injEq, Int.natAbs_neg]
    congr 1
    by_cases h : z < 0
    · rw [decide_eq_true h, decide_eq_false (by omega : ¬ -z < 0)]; rfl
    · by_cases h0 : z = 0
      · subst h0; rfl
      · rw [decide_eq_false h, decide_eq_true (by omega : -z < 0), decide_eq_true (by omega : z.natAbs ≠ 0)]; rfl
theorem cNeg (z : Int) (h : List (Option Chunk)) (hz : z.natAbs < Top) : CallOK Try.prog 84 [wz z] h (wz (-z)) [] [] :=
  call_pure (by simp [plain_wz]) (plain3_wz _) (Try.call84 _) (neg_x z hz)

end Go.Proofs.Ytchfbblpflcniaa


/-
  The walks of wide's sub, cmp, Add, Sub, Sign, Cmp.
-/
set_option linter.unusedVariables false
set_option linter.unusedSimpArgs false
namespace Go.Proofs.Ytchfbblpflcniaa
open Go Go.RowKit Sx

theorem wiL_len (n o : Bool) (v : Nat) : (wiL n o v).length = 18 := by simp [wiL, limL_len]
theorem wi_re {ix : List (Nat × Nat)} {w : Bool} {m : Nat} (n o : Bool) (v : Nat) : ((⟨false, 18, [(0, 18, .agg ⟨wiL n o v⟩)]⟩ : Chunk).own = true → (⟨w, 18, [(0, 18, .agg ⟨wiL n o v⟩)]⟩ : Chunk).own = true ∧ m ≤ (⟨w, 18, [(0, 18, .agg ⟨wiL n o v⟩)]⟩ : Chunk).n) ∧ (⟨false, 18, [(0, 18, .agg ⟨wiL n o v⟩)]⟩ : Chunk).n ≤ (⟨w, 18, [(0, 18, .agg ⟨wiL n o v⟩)]⟩ : Chunk).n ∧ ChunkRe ix ⟨w, 18, [(0, 18, .agg ⟨wiL n o v⟩)]⟩ ⟨false, 18, [(0, 18, .agg ⟨wiL n o v⟩)]⟩ :=
  reSame (agg_plain (wiL_len _ _ _) (plain_wi _ _ _))
theorem lim_re {ix : List (Nat × Nat)} {w : Bool} {m : Nat} (f : Nat → Nat) : ((⟨false, 16, [(0, 16, .agg ⟨limL 16 f⟩)]⟩ : Chunk).own = true → (⟨w, 16, [(0, 16, .agg ⟨limL 16 f⟩)]⟩ : Chunk).own = true ∧ m ≤ (⟨w, 16, [(0, 16, .agg ⟨limL 16 f⟩)]⟩ : Chunk).n) ∧ (⟨false, 16, [(0, 16, .agg ⟨limL 16 f⟩)]⟩ : Chunk).n ≤ (⟨w, 16, [(0, 16, .agg ⟨limL 16 f⟩)]⟩ : Chunk).n ∧ ChunkRe ix ⟨w, 16, [(0, 16, .agg ⟨limL 16 f⟩)]⟩ ⟨false, 16, [(0, 16, .agg ⟨limL 16 f⟩)]⟩ :=
  reSame (agg_plain (limL_len _ _) (plain_lim _ _))
theorem sub64 (x y b : Nat) (hb : b ≤ 1) (w : World) : (callFunc 90 #[.int .u64 x, .int .u64 y, .int .u64 b]).run Try.prog w =
    .ok (.value (.tuple #[.int .u64 (((x + 18446744073709551616 - y - b) % 18446744073709551616 : Nat) : Int), .int .u64 ((if x < y + b then 1 else 0 : Nat) : Int)])) w := by
  rw [run_callFunc_extern Try.func90 (by kernel_rfl) (by kernel_rfl) (by kernel_rfl) (e := Proofs.sub64Entry) (by kernel_rfl), Proofs.run_sub64 x y b hb]
  rfl
theorem cSub64 (x y b p q : Nat) (h : List (Option Chunk)) (hb : b ≤ 1) (hp : (x + 18446744073709551616 - y - b) % 18446744073709551616 = p) (hq : (if x < y + b then 1 else 0) = q) : CallOK Try.prog 90 [.int .u64 x, .int .u64 y, .int .u64 b] h (.tuple #[.int .u64 p, .int .u64 q]) [] [] := by
  subst hp; subst hq
  exact call_ext rfl rfl fun w => sub64 x y b hb w
/-- The digits of a difference, as far as they are reckoned. -/
def subTo (d i : Nat) : Nat → Nat := fun j => if j < i then dg d j else 0
theorem subTo_zero (d : Nat) : limL 16 (subTo d 0) = limL 16 (fun _ => 0) := limL_same fun j _ => by simp [subTo]
theorem subTo_end (d : Nat) : limL 16 (subTo d 16) = limL 16 (dg d) := limL_same fun j hj => by unfold subTo; rw [if_pos hj]
set_option maxRecDepth 100000 in
set_option maxHeartbeats 1000000 in
theorem cSubS (i j v u : Nat) (n1 o1 n2 o2 w1 w2 : Bool) (h : List (Option Chunk)) (hi : h[i]? = some (some ⟨w1, 18, [(0, 18, .agg ⟨wiL n1 o1 v⟩)]⟩)) (hj : h[j]? = some (some ⟨w2, 18, [(0, 18, .agg ⟨wiL n2 o2 u⟩)]⟩)) (huv : u ≤ v) :
    CallOK Try.prog 72 [.pointer (some ⟨i, 2, some 0⟩), .pointer (some ⟨j, 2, some 0⟩)] h (.agg ⟨limL 16 (dg (v - u))⟩) [] [i, j] := by
  obtain ⟨d, rfl⟩ : ∃ d, v = u + d := ⟨v - u, by omega⟩
  rw [Nat.add_sub_cancel_left]
  refine call_sub (G := tys) [⟨i, _, ⟨false, 18, [(0, 18, .agg ⟨wiL n1 o1 (u + d)⟩)]⟩, ⟨false, 0, []⟩⟩, ⟨j, _, ⟨false, 18, [(0, 18, .agg ⟨wiL n2 o2 u⟩)]⟩, ⟨false, 0, []⟩⟩] [] [.pointer (some ⟨0, 2, some 0⟩), .pointer (some ⟨1, 2, some 0⟩)] tysOK mixed Try.func72 (by rfl) (Try.call72) ⟨hi, hj, trivial⟩ ⟨wi_re _ _ _, wi_re _ _ _, trivial⟩ (by simp [Apart]) trivial ⟨.ptr rfl, .ptr rfl, trivial⟩ ?_
  repeat' (refine N.go ?_; first | with_reducible (first | refine N.obl (by decide) ?_ | refine N.obl (flat_wi _ _ _) ?_ | refine N.obl (flat_lim _ _) ?_ | refine N.eq ?_ | refine N.obl rfl ?_ | refine N.obl ⟨by kernel_rfl, by kernel_rfl⟩ ?_ | refine N.alt ?_ | refine N.forkT ?_) | with_reducible refine N.forkF ?_)
  refine N.go ?_
  refine N.loop (α := Nat) (fun i => i ≤ 16) (fun i => 16 - i) (fun i => [(8, .int .i64 (i : Int)), (6, .int .u64 ((cry u d i : Nat) : Int))]) (fun i => [(3, ⟨true, 16, [(0, 16, .agg ⟨limL 16 (subTo d i)⟩)]⟩)]) 0 (Nat.zero_le _) ?_ ?_
  · repeat (refine N.go ?_; first | exact N.true | with_reducible (first | refine N.obl rfl ?_ | refine N.obl (ChunkLe.refl _) ?_) | refine N.obl (ChunkLe.of (by rw [subTo_zero]; rfl)) ?_ | refine N.obl (by rw [cry_zero]; rfl) ?_)
  · intro i hi
    by_cases hlt : i < 16
    · have c1 : dg u i + dg d i + cry u d i = dg (u + d) i + 18446744073709551616 * cry u d (i + 1) := cry_step u d i
      have c2 := cry_le u d i
      have c3 := cry_le u d (i + 1)
      have c4 := dg_lt u i
      have c5 := dg_lt d i
      have c6 := dg_lt (u + d) i
      have hp : (dg (u + d) i + 18446744073709551616 - dg u i - cry u d i) % 18446744073709551616 = dg d i := by omega
      have hq : (if dg (u + d) i < dg u i + cry u d i then 1 else 0) = cry u d (i + 1) := by split <;> omega
      repeat' (refine N.go ?_; first | with_reducible (first | refine N.obl (by decide) ?_ | refine N.obl (flat_wi _ _ _) ?_ | refine N.obl (flat_lim _ _) ?_ | refine N.eq ?_ | refine N.obl rfl ?_ | refine N.obl ⟨by kernel_rfl, by kernel_rfl⟩ ?_ | refine N.alt ?_ | refine N.forkT ?_ | refine N.forkF ?_) | refine N.forkYes (by rw [decide_eq_true_eq]; omega) ?_ | refine N.idx i 1 rfl hlt ?_ | refine N.load _ (reads_wi (p := i) hlt rfl) ?_ | refine N.call (cSub64 _ _ _ _ _ _ c2 hp hq) ?_ | refine N.store ⟨true, 16, [(0, 16, .agg ⟨limL 16 (subTo d (i + 1))⟩)]⟩ (writes_lim (p := i) hlt (by first | rfl | omega) (by unfold subTo; rw [if_pos (by omega)]) (fun k _ hk => by unfold subTo; by_cases h : k < i <;> simp [h] <;> omega)) ?_)
      refine N.go ?_
      refine N.next (i + 1) ⟨by omega, by omega⟩ ?_
      repeat (refine N.go ?_; first | exact N.true | with_reducible (first | refine N.obl rfl ?_ | refine N.obl (ChunkLe.refl _) ?_) | refine N.obl (int_i64 (by rw [IntWalk.i64_in _ (by omega)]; rfl)) ?_)
    · obtain rfl : i = 16 := by omega
      refine N.go ?_
      refine N.forkNo (by decide) ?_
      rw [subTo_end]
      repeat' (refine N.go ?_; first | with_reducible (first | refine N.obl (by decide) ?_ | refine N.obl (flat_wi _ _ _) ?_ | refine N.obl (flat_lim _ _) ?_ | refine N.eq ?_ | refine N.obl rfl ?_ | refine N.obl ⟨by kernel_rfl, by kernel_rfl⟩ ?_ | refine N.alt ?_ | refine N.forkT ?_ | refine N.forkF ?_) | exact N.true | refine N.obl trivial ?_ | refine N.obl (.plain (plain_lim _ _)) ?_)
theorem cCmpS (i f v j g u : Nat) (h : List (Option Chunk)) (h1 : Has h i f v) (h2 : Has h j g u) (hv : v < Bs ^ 16) (hu : u < Bs ^ 16) : CallOK Try.prog 66 [.pointer (some ⟨i, f, some 0⟩), .pointer (some ⟨j, g, some 0⟩)] h (.int .i64 (cm v u)) [] [i, j] :=
  call_heap [i, j] rfl (Try.call66) fun ρ w hc => (cmp_any (ρ i).1 ((ρ i).2 + f) v (ρ j).1 ((ρ j).2 + g) u w (h1.digs (by simp) hc) (h2.digs (by simp) hc) hv hu).mono (by rintro e w' ⟨he, hb, _⟩; exact ⟨he, hb⟩)
theorem cry_top (v u : Nat) (h : v + u < Bs ^ 16) : cry v u 16 = 0 := by
  unfold cry
  have h1 : v % Bs ^ 16 ≤ v := Nat.mod_le _ _
  have h2 : u % Bs ^ 16 ≤ u := Nat.mod_le _ _
  exact Nat.div_eq_of_lt (by omega)
set_option maxRecDepth 100000 in
theorem add_false_same_x (v u : Nat) (hv : v < Top) (hu : u < Top) (hs : v + u < Top) (w : World) : Calls Try.prog 45 #[.agg ⟨wiL false false v⟩, .agg ⟨wiL false false u⟩] w fun e w' => e = .returned (.agg ⟨wiL (false && decide (v + u ≠ 0)) false (v + u)⟩) ∧ Below w.heap.size w w' := by
  have hv16 := Nat.lt_trans hv top_lt
  have hu16 := Nat.lt_trans hu top_lt
  refine calls_pure (G := tys) w tysOK mixed Try.func45 (by rfl) (by first | rfl | (simp only [List.all_cons, List.all_nil, plain_wz, plain_lim, plain_wi]; rfl)) (by first | exact plain3_wz _ | exact plain3_wi _ _ _ | rfl | (simp only [plain3, List.all_cons, List.all_nil, plain_wz, plain_lim, plain_wi]; rfl)) ?_
  repeat' (refine N.go ?_; first | with_reducible (first | refine N.obl (by decide) ?_ | refine N.obl (flat_wi _ _ _) ?_ | refine N.obl (flat_lim _ _) ?_ | refine N.eq ?_ | refine N.obl rfl ?_ | refine N.obl ⟨by kernel_rfl, by kernel_rfl⟩ ?_ | refine N.alt ?_ | refine N.forkT ?_ | refine N.forkF ?_) | refine N.call (cAdd _ _ _ _ _ _ _ (has_wi (by rfl)) (has_wi (by rfl))) ?_ | refine N.forkNo (by rw [cry_top _ _ (Nat.lt_trans hs top_lt)]; decide) ?_ | with_reducible refine N.call (cMade _ _ _ hs) ?_ | refine N.forkNo (by decide) ?_ | refine N.forkYes (by decide) ?_)
  all_goals rfl
set_option maxRecDepth 100000 in
theorem add_false_ge_x (v u : Nat) (hv : v < Top) (hu : u < Top) (hs : u ≤ v) (w : World) : Calls Try.prog 45 #[.agg ⟨wiL false false v⟩, .agg ⟨wiL true false u⟩] w fun e w' => e = .returned (.agg ⟨wiL (false && decide (v - u ≠ 0)) false (v - u)⟩) ∧ Below w.heap.size w w' := by
  have hv16 := Nat.lt_trans hv top_lt
  have hu16 := Nat.lt_trans hu top_lt
  refine calls_pure (G := tys) w tysOK mixed Try.func45 (by rfl) (by first | rfl | (simp only [List.all_cons, List.all_nil, plain_wz, plain_lim, plain_wi]; rfl)) (by first | exact plain3_wz _ | exact plain3_wi _ _ _ | rfl | (simp only [plain3, List.all_cons, List.all_nil, plain_wz, plain_lim, plain_wi]; rfl)) ?_
  repeat' (refine N.go ?_; first | with_reducible (first | refine N.obl (by decide) ?_ | refine N.obl (flat_wi _ _ _) ?_ | refine N.obl (flat_lim _ _) ?_ | refine N.eq ?_ | refine N.obl rfl ?_ | refine N.obl ⟨by kernel_rfl, by kernel_rfl⟩ ?_ | refine N.alt ?_ | refine N.forkT ?_ | refine N.forkF ?_) | refine N.call (cCmpS _ _ _ _ _ _ _ (has_wi (by rfl)) (has_wi (by rfl)) hv16 hu16) ?_ | refine N.call (cSubS _ _ _ _ _ _ _ _ _ _ _ (by rfl) (by rfl) (by omega)) ?_ | refine N.forkYes (by rw [decide_eq_true_eq]; unfold cm; split <;> (try split) <;> omega) ?_ | with_reducible refine N.call (cMade _ _ _ (Nat.lt_of_le_of_lt (Nat.sub_le _ _) hv)) ?_ | refine N.forkNo (by decide) ?_ | refine N.forkYes (by decide) ?_)
  all_goals rfl
set_option maxRecDepth 100000 in
theorem add_false_lt_x (v u : Nat) (hv : v < Top) (hu : u < Top) (hs : v < u) (w : World) : Calls Try.prog 45 #[.agg ⟨wiL false false v⟩, .agg ⟨wiL true false u⟩] w fun e w' => e = .returned (.agg ⟨wiL (true && decide (u - v ≠ 0)) false (u - v)⟩) ∧ Below w.heap.size w w' := by
  have hv16 := Nat.lt_trans hv top_lt
  have hu16 := Nat.lt_trans hu top_lt
  refine calls_pure (G := tys) w tysOK mixed Try.func45 (by rfl) (by first | rfl | (simp only [List.all_cons, List.all_nil, plain_wz, plain_lim, plain_wi]; rfl)) (by first | exact plain3_wz _ | exact plain3_wi _ _ _ | rfl | (simp only [plain3, List.all_cons, List.all_nil, plain_wz, plain_lim, plain_wi]; rfl)) ?_
  repeat' (refine N.go ?_; first | with_reducible (first | refine N.obl (by decide) ?_ | refine N.obl (flat_wi _ _ _) ?_ | refine N.obl (flat_lim _ _) ?_ | refine N.eq ?_ | refine N.obl rfl ?_ | refine N.obl ⟨by kernel_rfl, by kernel_rfl⟩ ?_ | refine N.alt ?_ | refine N.forkT ?_ | refine N.forkF ?_) | refine N.call (cCmpS _ _ _ _ _ _ _ (has_wi (by rfl)) (has_wi (by rfl)) hv16 hu16) ?_ | refine N.call (cSubS _ _ _ _ _ _ _ _ _ _ _ (by rfl) (by rfl) (by omega)) ?_ | refine N.forkNo (by rw [decide_eq_false_iff_not]; unfold cm; split <;> (try split) <;> omega) ?_ | with_reducible refine N.call (cMade _ _ _ (Nat.lt_of_le_of_lt (Nat.sub_le _ _) hu)) ?_ | refine N.forkNo (by decide) ?_ | refine N.forkYes (by decide) ?_)
  all_goals rfl
set_option maxRecDepth 100000 in
theorem add_true_same_x (v u : Nat) (hv : v < Top) (hu : u < Top) (hs : v + u < Top) (w : World) : Calls Try.prog 45 #[.agg ⟨wiL true false v⟩, .agg ⟨wiL true false u⟩] w fun e w' => e = .returned (.agg ⟨wiL (true && decide (v + u ≠ 0)) false (v + u)⟩) ∧ Below w.heap.size w w' := by
  have hv16 := Nat.lt_trans hv top_lt
  have hu16 := Nat.lt_trans hu top_lt
  refine calls_pure (G := tys) w tysOK mixed Try.func45 (by rfl) (by first | rfl | (simp only [List.all_cons, List.all_nil, plain_wz, plain_lim, plain_wi]; rfl)) (by first | exact plain3_wz _ | exact plain3_wi _ _ _ | rfl | (simp only [plain3, List.all_cons, List.all_nil, plain_wz, plain_lim, plain_wi]; rfl)) ?_
  repeat' (refine N.go ?_; first | with_reducible (first | refine N.obl (by decide) ?_ | refine N.obl (flat_wi _ _ _) ?_ | refine N.obl (flat_lim _ _) ?_ | refine N.eq ?_ | refine N.obl rfl ?_ | refine N.obl ⟨by kernel_rfl, by kernel_rfl⟩ ?_ | refine N.alt ?_ | refine N.forkT ?_ | refine N.forkF ?_) | refine N.call (cAdd _ _ _ _ _ _ _ (has_wi (by rfl)) (has_wi (by rfl))) ?_ | refine N.forkNo (by rw [cry_top _ _ (Nat.lt_trans hs top_lt)]; decide) ?_ | with_reducible refine N.call (cMade _ _ _ hs) ?_ | refine N.forkNo (by decide) ?_ | refine N.forkYes (by decide) ?_)
  all_goals rfl
set_option maxRecDepth 100000 in
theorem add_true_ge_x (v u : Nat) (hv : v < Top) (hu : u < Top) (hs : u ≤ v) (w : World) : Calls Try.prog 45 #[.agg ⟨wiL true false v⟩, .agg ⟨wiL false false u⟩] w fun e w' => e = .returned (.agg ⟨wiL (true && decide (v - u ≠ 0)) false (v - u)⟩) ∧ Below w.heap.size w w' := by
  have hv16 := Nat.lt_trans hv top_lt
  have hu16 := Nat.lt_trans hu top_lt
  refine calls_pure (G := tys) w tysOK mixed Try.func45 (by rfl) (by first | rfl | (simp only [List.all_cons, List.all_nil, plain_wz, plain_lim, plain_wi]; rfl)) (by first | exact plain3_wz _ | exact plain3_wi _ _ _ | rfl | (simp only [plain3, List.all_cons, List.all_nil, plain_wz, plain_lim, plain_wi]; rfl)) ?_
  repeat' (refine N.go ?_; first | with_reducible (first | refine N.obl (by decide) ?_ | refine N.obl (flat_wi _ _ _) ?_ | refine N.obl (flat_lim _ _) ?_ | refine N.eq ?_ | refine N.obl rfl ?_ | refine N.obl ⟨by kernel_rfl, by kernel_rfl⟩ ?_ | refine N.alt ?_ | refine N.forkT ?_ | refine N.forkF ?_) | refine N.call (cCmpS _ _ _ _ _ _ _ (has_wi (by rfl)) (has_wi (by rfl)) hv16 hu16) ?_ | refine N.call (cSubS _ _ _ _ _ _ _ _ _ _ _ (by rfl) (by rfl) (by omega)) ?_ | refine N.forkYes (by rw [decide_eq_true_eq]; unfold cm; split <;> (try split) <;> omega) ?_ | with_reducible refine N.call (cMade _ _ _ (Nat.lt_of_le_of_lt (Nat.sub_le _ _) hv)) ?_ | refine N.forkNo (by decide) ?_ | refine N.forkYes (by decide) ?_)
  all_goals rfl
set_option maxRecDepth 100000 in
theorem add_true_lt_x (v u : Nat) (hv : v < Top) (hu : u < Top) (hs : v < u) (w : World) : Calls Try.prog 45 #[.agg ⟨wiL true false v⟩, .agg ⟨wiL false false u⟩] w fun e w' => e = .returned (.agg ⟨wiL (false && decide (u - v ≠ 0)) false (u - v)⟩) ∧ Below w.heap.size w w' := by
  have hv16 := Nat.lt_trans hv top_lt
  have hu16 := Nat.lt_trans hu top_lt
  refine calls_pure (G := tys) w tysOK mixed Try.func45 (by rfl) (by first | rfl | (simp only [List.all_cons, List.all_nil, plain_wz, plain_lim, plain_wi]; rfl)) (by first | exact plain3_wz _ | exact plain3_wi _ _ _ | rfl | (simp only [plain3, List.all_cons, List.all_nil, plain_wz, plain_lim, plain_wi]; rfl)) ?_
  repeat' (refine N.go ?_; first | with_reducible (first | refine N.obl (by decide) ?_ | refine N.obl (flat_wi _ _ _) ?_ | refine N.obl (flat_lim _ _) ?_ | refine N.eq ?_ | refine N.obl rfl ?_ | refine N.obl ⟨by kernel_rfl, by kernel_rfl⟩ ?_ | refine N.alt ?_ | refine N.forkT ?_ | refine N.forkF ?_) | refine N.call (cCmpS _ _ _ _ _ _ _ (has_wi (by rfl)) (has_wi (by rfl)) hv16 hu16) ?_ | refine N.call (cSubS _ _ _ _ _ _ _ _ _ _ _ (by rfl) (by rfl) (by omega)) ?_ | refine N.forkNo (by rw [decide_eq_false_iff_not]; unfold cm; split <;> (try split) <;> omega) ?_ | with_reducible refine N.call (cMade _ _ _ (Nat.lt_of_le_of_lt (Nat.sub_le _ _) hu)) ?_ | refine N.forkNo (by decide) ?_ | refine N.forkYes (by decide) ?_)
  all_goals rfl
theorem wz_neg {z : Int} (h : z < 0) : wz z = .agg ⟨wiL true false z.natAbs⟩ := by unfold wz; rw [decide_eq_true h]
theorem wz_pos {z : Int} (h : 0 ≤ z) : wz z = .agg ⟨wiL false false z.natAbs⟩ := by unfold wz; rw [decide_eq_false (by omega)]
theorem wi_wz {b : Bool} {n : Nat} {z : Int} (h1 : n = z.natAbs) (h2 : b = decide (z < 0)) : (Value.agg ⟨wiL b false n⟩) = wz z := by subst h1 h2; rfl
theorem add_z (a b : Int) (ha : a.natAbs < Top) (hb : b.natAbs < Top) (hab : (a + b).natAbs < Top) (w : World) : Calls Try.prog 45 #[wz a, wz b] w fun e w' => e = .returned (wz (a + b)) ∧ Below w.heap.size w w' := by
  by_cases h1 : a < 0 <;> by_cases h2 : b < 0
  · rw [wz_neg h1, wz_neg h2]
    have := add_true_same_x a.natAbs b.natAbs ha hb (by omega) w
    rwa [wi_wz (b := true && decide (a.natAbs + b.natAbs ≠ 0)) (n := a.natAbs + b.natAbs) (z := a + b) (by omega) (by rw [Bool.true_and]; exact decide_eq_decide.2 (by omega))] at this
  · rw [wz_neg h1, wz_pos (by omega : 0 ≤ b)]
    by_cases h3 : b.natAbs ≤ a.natAbs
    · have := add_true_ge_x a.natAbs b.natAbs ha hb h3 w
      rwa [wi_wz (b := true && decide (a.natAbs - b.natAbs ≠ 0)) (n := a.natAbs - b.natAbs) (z := a + b) (by omega) (by rw [Bool.true_and]; exact decide_eq_decide.2 (by omega))] at this
    · have := add_true_lt_x a.natAbs b.natAbs ha hb (by omega) w
      rwa [wi_wz (b := false && decide (b.natAbs - a.natAbs ≠ 0)) (n := b.natAbs - a.natAbs) (z := a + b) (by omega) (by rw [Bool.false_and, decide_eq_false (by omega)])] at this
  · rw [wz_pos (by omega : 0 ≤ a), wz_neg h2]
    by_cases h3 : b.natAbs ≤ a.natAbs
    · have := add_false_ge_x a.natAbs b.natAbs ha hb h3 w
      rwa [wi_wz (b := false && decide (a.natAbs - b.natAbs ≠ 0)) (n := a.natAbs - b.natAbs) (z := a + b) (by omega) (by rw [Bool.false_and, decide_eq_false (by omega)])] at this
    · have := add_false_lt_x a.natAbs b.natAbs ha hb (by omega) w
      rwa [wi_wz (b := true && decide (b.natAbs - a.natAbs ≠ 0)) (n := b.natAbs - a.natAbs) (z := a + b) (by omega) (by rw [Bool.true_and]; exact decide_eq_decide.2 (by omega))] at this
  · rw [wz_pos (by omega : 0 ≤ a), wz_pos (by omega : 0 ≤ b)]
    have := add_false_same_x a.natAbs b.natAbs ha hb (by omega) w
    rwa [wi_wz (b := false && decide (a.natAbs + b.natAbs ≠ 0)) (n := a.natAbs + b.natAbs) (z := a + b) (by omega) (by rw [Bool.false_and, decide_eq_false (by omega)])] at this
theorem cAddz (a b : Int) (h : List (Option Chunk)) (ha : a.natAbs < Top) (hb : b.natAbs < Top) (hab : (a + b).natAbs < Top) : CallOK Try.prog 45 [wz a, wz b] h (wz (a + b)) [] [] :=
  call_pure (by simp [plain_wz]) (plain3_wz _) (Try.call45 _) (add_z a b ha hb hab)
set_option maxRecDepth 100000 in
theorem sub_z_x (a b : Int) (ha : a.natAbs < Top) (hb : b.natAbs < Top) (hab : (a - b).natAbs < Top) (w : World) : Calls Try.prog 57 #[wz a, wz b] w fun e w' => e = .returned (wz (a - b)) ∧ Below w.heap.size w w' := by
  have hn : (-b).natAbs < Top := by rwa [Int.natAbs_neg]
  have hs : (a + -b).natAbs < Top := by rwa [← Int.sub_eq_add_neg]
  refine calls_pure (G := tys) w tysOK mixed Try.func57 (by rfl) (by first | rfl | (simp only [List.all_cons, List.all_nil, plain_wz, plain_lim, plain_wi]; rfl)) (by first | exact plain3_wz _ | exact plain3_wi _ _ _ | rfl | (simp only [plain3, List.all_cons, List.all_nil, plain_wz, plain_lim, plain_wi]; rfl)) ?_
  repeat' (refine N.go ?_; first | with_reducible (first | refine N.obl (by decide) ?_ | refine N.obl (flat_wi _ _ _) ?_ | refine N.obl (flat_lim _ _) ?_ | refine N.eq ?_ | refine N.obl rfl ?_ | refine N.obl ⟨by kernel_rfl, by kernel_rfl⟩ ?_ | refine N.alt ?_ | refine N.forkT ?_ | refine N.forkF ?_ | refine N.call (cNeg _ _ hb) ?_) | with_reducible refine N.call (cAddz _ _ _ ha hn hs) ?_)
  all_goals (rw [Int.sub_eq_add_neg])
theorem cSubz (a b : Int) (h : List (Option Chunk)) (ha : a.natAbs < Top) (hb : b.natAbs < Top) (hab : (a - b).natAbs < Top) : CallOK Try.prog 57 [wz a, wz b] h (wz (a - b)) [] [] :=
  call_pure (by simp [plain_wz]) (plain3_wz _) (Try.call57 _) (sub_z_x a b ha hb hab)
def sgn (z : Int) : Int := if z < 0 then -1 else if z = 0 then 0 else 1
theorem sgn_pos (z : Int) : sgn z > 0 ↔ z > 0 := by unfold sgn; split <;> (try split) <;> omega
theorem sgn_nonneg (z : Int) : sgn z ≥ 0 ↔ z ≥ 0 := by unfold sgn; split <;> (try split) <;> omega
set_option maxRecDepth 100000 in
theorem sign_z_x (z : Int) (hz : z.natAbs < Top) (w : World) : Calls Try.prog 34 #[wz z] w fun e w' => e = .returned (.int .i64 (sgn z)) ∧ Below w.heap.size w w' := by
  have hz16 := Nat.lt_trans hz top_lt
  refine calls_pure (G := tys) w tysOK mixed Try.func34 (by rfl) (by first | rfl | (simp only [List.all_cons, List.all_nil, plain_wz, plain_lim, plain_wi]; rfl)) (by first | exact plain3_wz _ | exact plain3_wi _ _ _ | rfl | (simp only [plain3, List.all_cons, List.all_nil, plain_wz, plain_lim, plain_wi]; rfl)) ?_
  repeat' (refine N.go ?_; first | with_reducible (first | refine N.obl (by decide) ?_ | refine N.obl (flat_wi _ _ _) ?_ | refine N.obl (flat_lim _ _) ?_ | refine N.eq ?_ | refine N.obl rfl ?_ | refine N.obl ⟨by kernel_rfl, by kernel_rfl⟩ ?_ | refine N.alt ?_ | refine N.forkT ?_ | refine N.forkF ?_ | refine N.bin _ (eq_size0 _ _ _ _ hz16 false rfl) ?_) | refine N.forkNo (by decide) ?_ | refine N.forkYes (by decide) ?_ | with_reducible refine N.fork (fun hb => ?_) (fun hb => ?_))
  all_goals
    simp only [decide_eq_true_eq, decide_eq_false_iff_not, Bool.false_eq_true, if_false] at *
    unfold sgn
    first
      | rw [if_neg (by omega), if_pos (by omega)]
      | rw [if_pos (by omega)]
      | rw [if_neg (by omega), if_neg (by omega)]
theorem cSign (z : Int) (h : List (Option Chunk)) (hz : z.natAbs < Top) : CallOK Try.prog 34 [wz z] h (.int .i64 (sgn z)) [] [] :=
  call_pure (by simp [plain_wz]) rfl (Try.call34 _) (sign_z_x z hz)
end Go.Proofs.Ytchfbblpflcniaa


/-
  The walks of wide.Div by one digit, of Neg, Int64, narrow, above, MulDiv, MulDivUp (third part).
-/
set_option linter.unusedVariables false
set_option linter.unusedSimpArgs false
namespace Go.Proofs.Ytchfbblpflcniaa
open Go Go.RowKit Sx

theorem dg_one (n : Nat) : dg n 0 = n % 18446744073709551616 := by
  show n / Bs ^ 0 % Bs = _
  rw [Nat.pow_zero, Nat.div_one]
def in64 (z : Int) : Bool := decide (-9223372036854775808 ≤ z ∧ z < 9223372036854775808)
def n64 (z : Int) : Int := if in64 z then z else 0
theorem tup2 {a b : Int} (h : a = b) : Value.tuple ⟨[Value.int IntKind.i64 a, Value.bool true]⟩ = Value.tuple #[Value.int IntKind.i64 b, Value.bool true] := by rw [h]
theorem n64_in {z : Int} (h : -9223372036854775808 ≤ z ∧ z < 9223372036854775808) : in64 z = true ∧ n64 z = z := by
  have : in64 z = true := decide_eq_true h
  exact ⟨this, by unfold n64; rw [this]; rfl⟩
theorem n64_out {z : Int} (h : ¬ (-9223372036854775808 ≤ z ∧ z < 9223372036854775808)) : in64 z = false ∧ n64 z = 0 := by
  have : in64 z = false := decide_eq_false h
  exact ⟨this, by unfold n64; rw [this]; rfl⟩
theorem bl_le (n : Nat) (hn : n < Bs ^ 16) : bl n ≤ 64 ↔ n < 18446744073709551616 :=
  ⟨fun h => Nat.lt_of_lt_of_le (bl_spec n hn).1 (Nat.pow_le_pow_right (by decide) h : 2 ^ bl n ≤ 2 ^ 64), fun h => bl_small n 64 hn h⟩
set_option maxRecDepth 100000 in
theorem int64_x (z : Int) (hz : z.natAbs < Top) (w : World) : Calls Try.prog 73 #[.agg ⟨wiL (decide (z < 0)) false z.natAbs⟩] w fun e w' => e = .returned (.tuple #[.int .i64 (n64 z), .bool (in64 z)]) ∧ Below w.heap.size w w' := by
  have hz16 := Nat.lt_trans hz top_lt
  refine calls_pure (G := tys) w tysOK mixed Try.func73 (by rfl) (by first | rfl | (simp only [List.all_cons, List.all_nil, plain_wz, plain_lim, plain_wi]; rfl)) (by first | exact plain3_wz _ | exact plain3_wi _ _ _ | rfl | (simp only [plain3, List.all_cons, List.all_nil, plain_wz, plain_lim, plain_wi]; rfl)) ?_
  repeat' (refine N.go ?_; first | with_reducible (first | refine N.obl (flat_wi _ _ _) ?_ | refine N.obl (flat_lim _ _) ?_ | refine N.eq ?_ | refine N.obl rfl ?_ | refine N.obl ⟨by kernel_rfl, by kernel_rfl⟩ ?_ | refine N.alt ?_ | refine N.forkT ?_ | refine N.forkF ?_) | with_reducible refine N.fork (fun hb => ?_) (fun hb => ?_) | refine N.call (cBits _ _ _ _ (has_wi (by rfl))) ?_)
  all_goals
    have hbl := bl_le z.natAbs hz16
    have hdg := dg_one z.natAbs
    try simp only [IntKind.wrap_i64, IntKind.wrap_u64]
    generalize bl z.natAbs = B at *
    generalize dg z.natAbs 0 = D at *
    clear hz hz16
    simp only [decide_eq_true_eq, decide_eq_false_iff_not, beq_iff_eq, beq_eq_false_iff_ne, Bool.not_eq_true', Bool.not_eq_false', ne_eq, gt_iff_lt] at *
    first
      | (obtain ⟨e1, e2⟩ := n64_in (z := z) (by omega); rw [e1, e2]; exact tup2 (by omega))
      | (obtain ⟨e1, e2⟩ := n64_out (z := z) (by omega); rw [e1, e2])
theorem cInt64 (z : Int) (h : List (Option Chunk)) (hz : z.natAbs < Top) : CallOK Try.prog 73 [wz z] h (.tuple #[.int .i64 (n64 z), .bool (in64 z)]) [] [] :=
  call_pure (by simp [plain_wz]) rfl (Try.call73 _) (int64_x z hz)
/-- The errno of a number that fits, or not. -/
def e64 (z : Int) : Int := if in64 z then 0 else 2
set_option maxRecDepth 100000 in
theorem narrow_x (z : Int) (hz : z.natAbs < Top) (w : World) : Calls Try.prog 46 #[wz z, .int .i64 0] w fun e w' => e = .returned (.tuple #[.int .i64 (n64 z), .int .i64 (e64 z)]) ∧ Below w.heap.size w w' := by
  refine calls_pure (G := tys) w tysOK mixed Try.func46 (by rfl) (by first | rfl | (simp only [List.all_cons, List.all_nil, plain_wz, plain_lim, plain_wi]; rfl)) (by first | exact plain3_wz _ | exact plain3_wi _ _ _ | rfl | (simp only [plain3, List.all_cons, List.all_nil, plain_wz, plain_lim, plain_wi]; rfl)) ?_
  repeat' (refine N.go ?_; first | with_reducible (first | refine N.obl (flat_wi _ _ _) ?_ | refine N.obl (flat_lim _ _) ?_ | refine N.eq ?_ | refine N.obl rfl ?_ | refine N.obl ⟨by kernel_rfl, by kernel_rfl⟩ ?_ | refine N.alt ?_ | refine N.forkT ?_ | refine N.forkF ?_) | with_reducible refine N.fork (fun hb => ?_) (fun hb => ?_) | with_reducible refine N.call (cInt64 z _ hz) ?_)
  · exfalso; exact absurd hb (by decide)
  · have h : in64 z = false := by simpa using hb
    unfold n64 e64; rw [h]; rfl
  · have h : in64 z = true := by simpa using hb
    unfold e64; rw [h]; rfl
theorem cNarrow (z : Int) (h : List (Option Chunk)) (hz : z.natAbs < Top) : CallOK Try.prog 46 [wz z, .int .i64 0] h (.tuple #[.int .i64 (n64 z), .int .i64 (e64 z)]) [] [] :=
  call_pure (by simp [plain_wz]; rfl) rfl (Try.call46 _) (narrow_x z hz)
end Go.Proofs.Ytchfbblpflcniaa


/-
  The walks of wide's down by one, Sqrt, Cmp, and of root's WideUp, Up.
-/
set_option linter.unusedVariables false
set_option linter.unusedSimpArgs false
namespace Go.Proofs.Ytchfbblpflcniaa
open Go Go.RowKit Sx

theorem cUp (i f v k : Nat) (h : List (Option Chunk)) (h1 : Has h i f v) (hk : k < 64) : CallOK Try.prog 61 [.pointer (some ⟨i, f, some 0⟩), .int .i64 k] h (.agg ⟨limL 16 (dg (v * 2 ^ k))⟩) [] [i] :=
  call_heap [i] (plain_lim _ _) (Try.call61) fun ρ w hc => up_any (ρ i).1 ((ρ i).2 + f) v k hk w (h1.digs (by simp) hc)
theorem fd2 (n : Nat) : ((n : Nat) : Int).fdiv (2 ^ sh (Int.tmod 1 64) IntKind.u64) = ((n / 2 : Nat) : Int) := by
  rw [show sh (Int.tmod 1 64) IntKind.u64 = 1 from by decide, Int.fdiv_eq_ediv_of_nonneg _ (by decide)]; omega
def dn1 (v : Nat) : Bool := IntKind.u64.wrap (((dg v 0 : Nat) : Int) * 2 ^ 63) != 0
theorem downTo_zero (v : Nat) : limL 16 (downTo v 1 0) = limL 16 (fun _ => 0) := limL_same fun j _ => by simp [downTo]
theorem downTo_end (v : Nat) : limL 16 (downTo v 1 16) = limL 16 (dg (v / 2)) := limL_same fun j hj => by unfold downTo; rw [if_pos hj]
/-- The digits while the i-th is half done. -/
def downM (v i : Nat) : Nat → Nat := fun j => if j = i then dg v i / 2 else downTo v 1 i j
set_option maxRecDepth 100000 in
set_option maxHeartbeats 1000000 in
theorem cDown1 (i v : Nat) (w1 : Bool) (h : List (Option Chunk)) (hi : h[i]? = some (some ⟨w1, 16, [(0, 16, .agg ⟨limL 16 (dg v)⟩)]⟩)) (hv : v < Bs ^ 16) :
    CallOK Try.prog 65 [.pointer (some ⟨i, 0, some 0⟩), .int .i64 1] h (.tuple #[.agg ⟨limL 16 (dg (v / 2))⟩, .bool (dn1 v)]) [] [i] := by
  refine call_sub (G := tys) [⟨i, _, ⟨false, 16, [(0, 16, .agg ⟨limL 16 (dg v)⟩)]⟩, ⟨false, 0, []⟩⟩] [] [.pointer (some ⟨0, 0, some 0⟩), .int .i64 1] tysOK mixed Try.func65 (by rfl) (Try.call65) ⟨hi, trivial⟩ ⟨lim_re _, trivial⟩ (by simp [Apart]) trivial ⟨.ptr rfl, .plain rfl, trivial⟩ ?_
  repeat' (refine N.go ?_; first | with_reducible (first | refine N.obl (by decide) ?_ | refine N.obl (flat_wi _ _ _) ?_ | refine N.obl (flat_lim _ _) ?_ | refine N.eq ?_ | refine N.obl rfl ?_ | refine N.obl ⟨by kernel_rfl, by kernel_rfl⟩ ?_ | refine N.alt ?_ | refine N.forkT ?_ | refine N.forkF ?_ | refine N.min2 ?_) | refine N.forkNo (by decide) ?_ | refine N.forkYes (by decide) ?_)
  refine N.go ?_
  refine N.roll 1 ?_
  repeat' (refine N.go ?_; first | with_reducible (first | refine N.obl (by decide) ?_ | refine N.obl (flat_wi _ _ _) ?_ | refine N.obl (flat_lim _ _) ?_ | refine N.eq ?_ | refine N.obl rfl ?_ | refine N.obl ⟨by kernel_rfl, by kernel_rfl⟩ ?_ | refine N.alt ?_ | refine N.forkT ?_ | refine N.forkF ?_) | refine N.forkNo (by decide) ?_ | refine N.forkYes (by decide) ?_)
  refine N.go ?_
  refine N.loop (α := Nat) (fun i => i ≤ 16) (fun i => 16 - i) (fun i => [(9, .int .i64 (i : Int))]) (fun i => [(2, ⟨true, 16, [(0, 16, .agg ⟨limL 16 (downTo v 1 i)⟩)]⟩)]) 0 (Nat.zero_le _) ?_ ?_
  · repeat (refine N.go ?_; first | exact N.true | with_reducible (first | refine N.obl rfl ?_ | refine N.obl (ChunkLe.refl _) ?_) | refine N.obl (ChunkLe.of (by rw [downTo_zero]; rfl)) ?_)
  · intro n hn
    by_cases hlt : n < 16
    · have hs := shr_step v n 1 (by decide)
      have hd := dg_lt v n
      have hd1 := dg_lt v (n + 1)
      have hst : ∀ k, k < 16 → k ≠ n → downM v n k = downTo v 1 n k := fun k _ hk => by unfold downM; rw [if_neg hk]
      by_cases hlt2 : n + 1 < 16
      · have hfin : bits .or .u64 (((dg v n / 2 : Nat) : Int)) (IntKind.u64.wrap (((dg v (n + 1) : Nat) : Int) * 2 ^ 63)) = ((downTo v 1 (n + 1) n : Nat) : Int) := by
          have := or_down (dg v n) (dg v (n + 1)) 1 (by decide) (by decide) hd
          rw [downTo_at, hs, ← this, int_shr]
        repeat' (refine N.go ?_; first | with_reducible (first | refine N.obl (by decide) ?_ | refine N.obl (flat_wi _ _ _) ?_ | refine N.obl (flat_lim _ _) ?_ | refine N.eq ?_ | refine N.obl rfl ?_ | refine N.obl ⟨by kernel_rfl, by kernel_rfl⟩ ?_ | refine N.alt ?_ | refine N.forkT ?_ | refine N.forkF ?_) | refine N.forkYes (by rw [decide_eq_true_eq]; (try rw [IntWalk.i64_in _ (by omega)]); omega) ?_ | refine N.idx n 1 (by first | rfl | (rw [show IntKind.i64.wrap (Int.tdiv 1 64) = 0 from by decide, IntWalk.i64_in _ (by omega)]; omega)) hlt ?_ | refine N.idx (n + 1) 1 (by rw [IntWalk.i64_in _ (by omega)]; omega) hlt2 ?_ | refine N.load _ (reads_lim (p := n + 1) hlt2 (by first | rfl | omega)) ?_ | refine N.load _ (reads_lim (f := dg v) (p := n) hlt (by first | rfl | omega)) ?_ | refine N.load (.int .u64 ((dg v n / 2 : Nat) : Int)) (by have := reads_lim (o := true) (f := downM v n) (p := n) (q := n) hlt rfl; unfold downM at this; rw [if_pos rfl] at this; exact this) ?_ | refine N.store ⟨true, 16, [(0, 16, .agg ⟨limL 16 (downM v n)⟩)]⟩ (writes_lim (f := downTo v 1 n) (g := downM v n) (p := n) hlt (by first | rfl | omega) (by unfold downM; rw [if_pos rfl]; exact fd2 _) hst) ?_ | refine N.store ⟨true, 16, [(0, 16, .agg ⟨limL 16 (downTo v 1 (n + 1))⟩)]⟩ (writes_lim (f := downM v n) (g := downTo v 1 (n + 1)) (p := n) hlt (by first | rfl | omega) hfin (fun k hk hk1 => by rw [hst k hk hk1]; exact (downTo_step v 1 n k hk1).symm)) ?_ | refine N.forkNo (by decide) ?_ | refine N.forkYes (by decide) ?_ | refine N.obl (by decide) ?_)
        refine N.go ?_
        refine N.next (n + 1) ⟨by omega, by omega⟩ ?_
        repeat (refine N.go ?_; first | exact N.true | with_reducible (first | refine N.obl rfl ?_ | refine N.obl (ChunkLe.refl _) ?_) | refine N.obl (int_i64 (by rw [IntWalk.i64_in _ (by omega)]; rfl)) ?_)
      · obtain rfl : n = 15 := by omega
        have hz15 : dg v (15 + 1) = 0 := dg_big v 16 hv
        repeat' (refine N.go ?_; first | with_reducible (first | refine N.obl (by decide) ?_ | refine N.obl (flat_wi _ _ _) ?_ | refine N.obl (flat_lim _ _) ?_ | refine N.eq ?_ | refine N.obl rfl ?_ | refine N.obl ⟨by kernel_rfl, by kernel_rfl⟩ ?_ | refine N.alt ?_ | refine N.forkT ?_ | refine N.forkF ?_) | refine N.forkYes (by decide) ?_ | refine N.forkNo (by decide) ?_ | refine N.idx 15 1 (by first | rfl | decide) (by decide) ?_ | refine N.load _ (reads_lim (f := dg v) (p := 15) (by decide) (by first | rfl | omega)) ?_ | refine N.store ⟨true, 16, [(0, 16, .agg ⟨limL 16 (downTo v 1 16)⟩)]⟩ (writes_lim (f := downTo v 1 15) (g := downTo v 1 16) (p := 15) (by decide) (by first | rfl | omega) (by rw [downTo_at v 1 15, hs, hz15]; exact (fd2 _).trans (by simp)) (fun k _ hk1 => (downTo_step v 1 15 k hk1).symm)) ?_ | refine N.obl (by decide) ?_)
        refine N.go ?_
        refine N.next 16 ⟨by omega, by omega⟩ ?_
        repeat (refine N.go ?_; first | exact N.true | with_reducible (first | refine N.obl rfl ?_ | refine N.obl (ChunkLe.refl _) ?_) | refine N.obl (int_i64 (by decide)) ?_)
    · obtain rfl : n = 16 := by omega
      refine N.go ?_
      refine N.forkNo (by decide) ?_
      rw [downTo_end]
      repeat' (refine N.go ?_; first | with_reducible (first | refine N.obl (by decide) ?_ | refine N.obl (flat_wi _ _ _) ?_ | refine N.obl (flat_lim _ _) ?_ | refine N.eq ?_ | refine N.obl rfl ?_ | refine N.obl ⟨by kernel_rfl, by kernel_rfl⟩ ?_ | refine N.alt ?_ | refine N.forkT ?_ | refine N.forkF ?_) | exact N.true | refine N.obl trivial ?_ | refine N.idx 0 0 (by decide) (by decide) ?_ | refine N.load _ (reads_lim (f := dg v) (p := 0) (by decide) rfl) ?_ | refine N.obl (.plain (by simp [plain3, plain_lim]; rfl)) ?_ | refine N.forkNo (by decide) ?_ | refine N.forkYes (by decide) ?_ | refine N.obl (by decide) ?_)
end Go.Proofs.Ytchfbblpflcniaa


/-
  The walks of wide's Sqrt, Cmp, and of root's WideUp, Up.
-/
set_option linter.unusedVariables false
set_option linter.unusedSimpArgs false
namespace Go.Proofs.Ytchfbblpflcniaa
open Go Go.RowKit Sx

theorem limL_lit (n : Nat) (f : Nat → Nat) : (limL n f).all lit1 = true := by simp [limL, lit1]
theorem wiL_lit (n o : Bool) (v : Nat) : (wiL n o v).all lit1 = true := by simp [wiL, limL_lit, lit1]
theorem cUpz (i f v k : Nat) (kk : Int) (h : List (Option Chunk)) (h1 : Has h i f v) (hk : k < 64) (e : kk = (k : Nat)) : CallOK Try.prog 61 [.pointer (some ⟨i, f, some 0⟩), .int .i64 kk] h (.agg ⟨limL 16 (dg (v * 2 ^ k))⟩) [] [i] := by
  subst e; exact cUp i f v k h h1 hk
theorem p125 : (2 : Nat) ^ 125 = 42535295865117307932921825928971026432 := by decide
theorem p126 : (2 : Nat) ^ 126 = 85070591730234615865843651857942052864 := by decide
theorem p127 : (2 : Nat) ^ 127 = 170141183460469231731687303715884105728 := by decide
theorem natTop7 {n : Nat} (h : n < 2 ^ 127) : n < Top := Nat.lt_trans h (Nat.pow_lt_pow_right (a := 2) (by decide) (by decide : 127 < TopBits))
theorem natTop {n : Nat} (h : n < 2 ^ 126) : n < Top := natTop7 (by have := p126; have := p127; omega)
theorem isq_small (v : Nat) (hv : v < 2 ^ 126) : isq v < 9223372036854775808 := isq_below (n := 9223372036854775808) (by have := p126; omega)
set_option maxRecDepth 100000 in
set_option maxHeartbeats 1000000 in
theorem sqrt_z (v : Nat) (hv : v < 2 ^ 126) (w : World) : Calls Try.prog 42 #[.agg ⟨wiL false false v⟩] w fun e w' => e = .returned (.tuple #[.agg ⟨wiL false false (isq v)⟩, .int .i64 0]) ∧ Below w.heap.size w w' := by
  have hv16 : v < Bs ^ 16 := Nat.lt_trans (natTop hv) top_lt
  have hbl : bl v ≤ 126 := bl_small v 126 hv16 hv
  have hq := isq_small v hv
  have htop : ∀ x : Nat, x < 18446744073709551616 → x < Top := fun x hx => natTop (by have := p126; omega)
  refine calls_pure (G := tys) w tysOK mixed Try.func42 (by rfl) (by simp [plain_wi]) (by simp [plain3, plain_wi]; rfl) ?_
  by_cases h0 : v = 0
  · subst h0
    repeat' (refine N.go ?_; first | with_reducible (first | refine N.obl (by decide) ?_ | refine N.obl (flat_wi _ _ _) ?_ | refine N.obl (flat_lim _ _) ?_ | refine N.eq ?_ | refine N.obl rfl ?_ | refine N.obl ⟨by kernel_rfl, by kernel_rfl⟩ ?_ | refine N.alt ?_ | refine N.forkT ?_ | refine N.forkF ?_ | refine N.bin _ (eq_size0 _ _ _ _ hv16 false rfl) ?_) | refine N.forkNo (by decide) ?_ | refine N.forkYes (by decide) ?_)
    all_goals (rw [show isq 0 = 0 from by decide])
  · have hk : (bl v + 1) / 2 < 64 := by omega
    have hkk : IntKind.i64.wrap ((IntKind.i64.wrap (((bl v : Nat) : Int) + 1)).tdiv 2) = (((bl v + 1) / 2 : Nat) : Int) := by
      rw [IntWalk.i64_in (((bl v : Nat) : Int) + 1) (by omega), Int.tdiv_eq_ediv_of_nonneg (by omega), IntWalk.i64_in _ (by omega)]; omega
    have hst := newton_start v hv16
    have hqp := isq_pos (v := v) (by omega)
    repeat' (refine N.go ?_; first | with_reducible (first | refine N.obl (by decide) ?_ | refine N.obl (flat_wi _ _ _) ?_ | refine N.obl (flat_lim _ _) ?_ | refine N.eq ?_ | refine N.obl rfl ?_ | refine N.obl ⟨by kernel_rfl, by kernel_rfl⟩ ?_ | refine N.alt ?_ | refine N.forkT ?_ | refine N.forkF ?_ | refine N.bin _ (eq_size0 _ _ _ _ hv16 false rfl) ?_) | refine N.forkNo (by simp [h0]; first | done | fail) ?_ | refine N.call (cBits _ _ _ _ (has_wi (by rfl))) ?_ | refine N.call (cUpz _ _ 1 ((bl v + 1) / 2) _ _ (has_one (by rfl)) hk hkk) ?_ | refine N.forkNo (by decide) ?_ | refine N.forkYes (by decide) ?_ | refine N.obl (by decide) ?_)
    refine N.go ?_
    first
    | refine N.loop (α := Nat) (fun x => 0 < x ∧ x < 18446744073709551616 ∧ isq v ≤ x) (fun x => x) (fun _ => []) (fun x => [(11, ⟨true, 16, [(0, 16, .agg ⟨limL 16 (dg x)⟩)]⟩)]) (1 * 2 ^ ((bl v + 1) / 2)) ⟨by omega, by
        have : 2 ^ ((bl v + 1) / 2) < 2 ^ 64 := Nat.pow_lt_pow_right (by decide) hk
        have e : (2 : Nat) ^ 64 = 18446744073709551616 := by decide
        omega, by omega⟩ ?_ ?_
      · repeat (refine N.go ?_; first | exact N.true | with_reducible refine N.obl rfl ?_ | with_reducible refine N.obl (ChunkLe.refl _) ?_ )
      · intro x hx
        obtain ⟨hx0, hx1, hx2⟩ := hx
        have hng := newton_ge v x hx0
        have hqx : v / x ≤ v := Nat.div_le_self _ _
        have hsum : x + v / x < Bs ^ 16 := Nat.lt_trans (natTop7 (by have := p126; have := p127; omega)) top_lt
        have hy16 : (x + v / x) / 2 < Bs ^ 16 := Nat.lt_of_le_of_lt (Nat.div_le_self _ _) hsum
        have hx16 : x < Bs ^ 16 := Nat.lt_of_le_of_lt (Nat.le_add_right _ _) hsum
        by_cases hge : x ≤ (x + v / x) / 2
        · have he := newton_end v x hx0 hx2 hge
          repeat' (refine N.go ?_; first | with_reducible (first | refine N.obl (by decide) ?_ | refine N.obl (flat_wi _ _ _) ?_ | refine N.obl (flat_lim _ _) ?_ | refine N.eq ?_ | refine N.obl rfl ?_ | refine N.obl ⟨by kernel_rfl, by kernel_rfl⟩ ?_ | refine N.alt ?_ | refine N.forkT ?_ | refine N.forkF ?_) | refine N.call (cDivide _ _ _ hv16 hx0 hx1) ?_ | refine N.call (cAdd _ _ _ _ _ _ _ (has_lim (by rfl)) (has_lim (by rfl))) ?_ | refine N.call (cDown1 _ _ _ _ (by rfl) hsum) ?_ | refine N.call (cCmpS _ _ _ _ _ _ _ (has_lim (by rfl)) (has_lim (by rfl)) hy16 hx16) ?_ | with_reducible refine N.call (cMade _ _ _ (htop _ hx1)) ?_ | refine N.forkYes (by rw [decide_eq_true_eq]; unfold cm; split <;> (try split) <;> omega) ?_)
          all_goals (rw [he]; rfl)
        · repeat' (refine N.go ?_; first | with_reducible (first | refine N.obl (by decide) ?_ | refine N.obl (flat_wi _ _ _) ?_ | refine N.obl (flat_lim _ _) ?_ | refine N.eq ?_ | refine N.obl rfl ?_ | refine N.obl ⟨by kernel_rfl, by kernel_rfl⟩ ?_ | refine N.alt ?_ | refine N.forkT ?_ | refine N.forkF ?_) | refine N.call (cDivide _ _ _ hv16 hx0 hx1) ?_ | refine N.call (cAdd _ _ _ _ _ _ _ (has_lim (by rfl)) (has_lim (by rfl))) ?_ | refine N.call (cDown1 _ _ _ _ (by rfl) hsum) ?_ | refine N.call (cCmpS _ _ _ _ _ _ _ (has_lim (by rfl)) (has_lim (by rfl)) hy16 hx16) ?_ | with_reducible refine N.call (cMade _ _ _ (htop _ hx1)) ?_ | refine N.forkNo (by rw [decide_eq_false_iff_not]; unfold cm; split <;> (try split) <;> omega) ?_)
          refine N.go ?_
          refine N.next ((x + v / x) / 2) ⟨⟨by omega, by omega, hng⟩, by omega⟩ ?_
          repeat (refine N.go ?_; first | exact N.true | with_reducible (first | refine N.obl rfl ?_ | refine N.obl (ChunkLe.refl _) ?_ | refine N.obl (safe_agg (limL_lit _ _)) ?_ | refine N.obl (safe_agg (wiL_lit _ _ _)) ?_ | refine N.obl (safe_row (limL_len _ _) (limL_lit _ _)) ?_ | refine N.obl (safe_row (wiL_len _ _ _) (wiL_lit _ _ _)) ?_) | refine N.obl True.intro ?_ | refine N.obl (show filB _ _ = true from rfl) ?_ | refine N.obl (safe_agg (by rfl)) ?_ | refine N.obl (safe_row rfl (by rfl)) ?_)
    | refine N.loop (α := Nat) (fun x => 0 < x ∧ x < 18446744073709551616 ∧ isq v ≤ x) (fun x => x) (fun _ => []) (fun x => [(7, ⟨true, 16, [(0, 16, .agg ⟨limL 16 (dg x)⟩)]⟩)]) (1 * 2 ^ ((bl v + 1) / 2)) ⟨by omega, by
        have : 2 ^ ((bl v + 1) / 2) < 2 ^ 64 := Nat.pow_lt_pow_right (by decide) hk
        have e : (2 : Nat) ^ 64 = 18446744073709551616 := by decide
        omega, by omega⟩ ?_ ?_
      · repeat (refine N.go ?_; first | exact N.true | with_reducible refine N.obl rfl ?_ | with_reducible refine N.obl (ChunkLe.refl _) ?_ )
      · intro x hx
        obtain ⟨hx0, hx1, hx2⟩ := hx
        have hng := newton_ge v x hx0
        have hqx : v / x ≤ v := Nat.div_le_self _ _
        have hsum : x + v / x < Bs ^ 16 := Nat.lt_trans (natTop7 (by have := p126; have := p127; omega)) top_lt
        have hy16 : (x + v / x) / 2 < Bs ^ 16 := Nat.lt_of_le_of_lt (Nat.div_le_self _ _) hsum
        have hx16 : x < Bs ^ 16 := Nat.lt_of_le_of_lt (Nat.le_add_right _ _) hsum
        by_cases hge : x ≤ (x + v / x) / 2
        · have he := newton_end v x hx0 hx2 hge
          repeat' (refine N.go ?_; first | with_reducible (first | refine N.obl (by decide) ?_ | refine N.obl (flat_wi _ _ _) ?_ | refine N.obl (flat_lim _ _) ?_ | refine N.eq ?_ | refine N.obl rfl ?_ | refine N.obl ⟨by kernel_rfl, by kernel_rfl⟩ ?_ | refine N.alt ?_ | refine N.forkT ?_ | refine N.forkF ?_) | refine N.call (cDivide _ _ _ hv16 hx0 hx1) ?_ | refine N.call (cAdd _ _ _ _ _ _ _ (has_lim (by rfl)) (has_lim (by rfl))) ?_ | refine N.call (cDown1 _ _ _ _ (by rfl) hsum) ?_ | refine N.call (cCmpS _ _ _ _ _ _ _ (has_lim (by rfl)) (has_lim (by rfl)) hy16 hx16) ?_ | with_reducible refine N.call (cMade _ _ _ (htop _ hx1)) ?_ | refine N.forkYes (by rw [decide_eq_true_eq]; unfold cm; split <;> (try split) <;> omega) ?_)
          all_goals (rw [he]; rfl)
        · repeat' (refine N.go ?_; first | with_reducible (first | refine N.obl (by decide) ?_ | refine N.obl (flat_wi _ _ _) ?_ | refine N.obl (flat_lim _ _) ?_ | refine N.eq ?_ | refine N.obl rfl ?_ | refine N.obl ⟨by kernel_rfl, by kernel_rfl⟩ ?_ | refine N.alt ?_ | refine N.forkT ?_ | refine N.forkF ?_) | refine N.call (cDivide _ _ _ hv16 hx0 hx1) ?_ | refine N.call (cAdd _ _ _ _ _ _ _ (has_lim (by rfl)) (has_lim (by rfl))) ?_ | refine N.call (cDown1 _ _ _ _ (by rfl) hsum) ?_ | refine N.call (cCmpS _ _ _ _ _ _ _ (has_lim (by rfl)) (has_lim (by rfl)) hy16 hx16) ?_ | with_reducible refine N.call (cMade _ _ _ (htop _ hx1)) ?_ | refine N.forkNo (by rw [decide_eq_false_iff_not]; unfold cm; split <;> (try split) <;> omega) ?_)
          refine N.go ?_
          refine N.next ((x + v / x) / 2) ⟨⟨by omega, by omega, hng⟩, by omega⟩ ?_
          repeat (refine N.go ?_; first | exact N.true | with_reducible (first | refine N.obl rfl ?_ | refine N.obl (ChunkLe.refl _) ?_ | refine N.obl (safe_agg (limL_lit _ _)) ?_ | refine N.obl (safe_agg (wiL_lit _ _ _)) ?_ | refine N.obl (safe_row (limL_len _ _) (limL_lit _ _)) ?_ | refine N.obl (safe_row (wiL_len _ _ _) (wiL_lit _ _ _)) ?_) | refine N.obl True.intro ?_ | refine N.obl (show filB _ _ = true from rfl) ?_ | refine N.obl (safe_agg (by rfl)) ?_ | refine N.obl (safe_row rfl (by rfl)) ?_)
theorem wzn (n : Nat) : wz (n : Int) = .agg ⟨wiL false false n⟩ := by unfold wz; rw [decide_eq_false (by omega), Int.natAbs_natCast]
theorem cSqrtz (v : Nat) (h : List (Option Chunk)) (hv : v < 2 ^ 126) : CallOK Try.prog 42 [wz (v : Int)] h (.tuple #[wz (isq v : Nat), .int .i64 0]) [] [] :=
  call_pure (by simp [plain_wz]) (by simp [plain3, plain_wz]; rfl) (Try.call42 _) fun w => by
    have := sqrt_z v hv w
    rw [wzn, wzn]; exact this
def cmz (a b : Int) : Int := if a < b then -1 else if b < a then 1 else 0
set_option maxRecDepth 100000 in
theorem cmp_ff_x (v u : Nat) (hv : v < Top) (hu : u < Top) (w : World) : Calls Try.prog 43 #[.agg ⟨wiL false false v⟩, .agg ⟨wiL false false u⟩] w fun e w' => e = .returned (.tuple #[.int .i64 (cm v u), .bool true]) ∧ Below w.heap.size w w' := by
  have hv16 := Nat.lt_trans hv top_lt
  have hu16 := Nat.lt_trans hu top_lt
  refine calls_pure (G := tys) w tysOK mixed Try.func43 (by rfl) (by first | rfl | (simp only [List.all_cons, List.all_nil, plain_wz, plain_lim, plain_wi]; rfl)) (by first | exact plain3_wz _ | exact plain3_wi _ _ _ | rfl | (simp only [plain3, List.all_cons, List.all_nil, plain_wz, plain_lim, plain_wi]; rfl)) ?_
  repeat' (refine N.go ?_; first | with_reducible (first | refine N.obl (by decide) ?_ | refine N.obl (flat_wi _ _ _) ?_ | refine N.obl (flat_lim _ _) ?_ | refine N.eq ?_ | refine N.obl rfl ?_ | refine N.obl ⟨by kernel_rfl, by kernel_rfl⟩ ?_ | refine N.alt ?_ | refine N.forkT ?_ | refine N.forkF ?_) | refine N.call (cCmpS _ _ _ _ _ _ _ (has_wi (by rfl)) (has_wi (by rfl)) hv16 hu16) ?_ | refine N.call (cCmpS _ _ _ _ _ _ _ (has_wi (by rfl)) (has_wi (by rfl)) hu16 hv16) ?_ | refine N.forkNo (by decide) ?_ | refine N.forkYes (by decide) ?_)
  all_goals rfl
set_option maxRecDepth 100000 in
theorem cmp_tt_x (v u : Nat) (hv : v < Top) (hu : u < Top) (w : World) : Calls Try.prog 43 #[.agg ⟨wiL true false v⟩, .agg ⟨wiL true false u⟩] w fun e w' => e = .returned (.tuple #[.int .i64 (cm u v), .bool true]) ∧ Below w.heap.size w w' := by
  have hv16 := Nat.lt_trans hv top_lt
  have hu16 := Nat.lt_trans hu top_lt
  refine calls_pure (G := tys) w tysOK mixed Try.func43 (by rfl) (by first | rfl | (simp only [List.all_cons, List.all_nil, plain_wz, plain_lim, plain_wi]; rfl)) (by first | exact plain3_wz _ | exact plain3_wi _ _ _ | rfl | (simp only [plain3, List.all_cons, List.all_nil, plain_wz, plain_lim, plain_wi]; rfl)) ?_
  repeat' (refine N.go ?_; first | with_reducible (first | refine N.obl (by decide) ?_ | refine N.obl (flat_wi _ _ _) ?_ | refine N.obl (flat_lim _ _) ?_ | refine N.eq ?_ | refine N.obl rfl ?_ | refine N.obl ⟨by kernel_rfl, by kernel_rfl⟩ ?_ | refine N.alt ?_ | refine N.forkT ?_ | refine N.forkF ?_) | refine N.call (cCmpS _ _ _ _ _ _ _ (has_wi (by rfl)) (has_wi (by rfl)) hv16 hu16) ?_ | refine N.call (cCmpS _ _ _ _ _ _ _ (has_wi (by rfl)) (has_wi (by rfl)) hu16 hv16) ?_ | refine N.forkNo (by decide) ?_ | refine N.forkYes (by decide) ?_)
  all_goals rfl
set_option maxRecDepth 100000 in
theorem cmp_tf_x (v u : Nat) (hv : v < Top) (hu : u < Top) (w : World) : Calls Try.prog 43 #[.agg ⟨wiL true false v⟩, .agg ⟨wiL false false u⟩] w fun e w' => e = .returned (.tuple #[.int .i64 (-1), .bool true]) ∧ Below w.heap.size w w' := by
  have hv16 := Nat.lt_trans hv top_lt
  have hu16 := Nat.lt_trans hu top_lt
  refine calls_pure (G := tys) w tysOK mixed Try.func43 (by rfl) (by first | rfl | (simp only [List.all_cons, List.all_nil, plain_wz, plain_lim, plain_wi]; rfl)) (by first | exact plain3_wz _ | exact plain3_wi _ _ _ | rfl | (simp only [plain3, List.all_cons, List.all_nil, plain_wz, plain_lim, plain_wi]; rfl)) ?_
  repeat' (refine N.go ?_; first | with_reducible (first | refine N.obl (by decide) ?_ | refine N.obl (flat_wi _ _ _) ?_ | refine N.obl (flat_lim _ _) ?_ | refine N.eq ?_ | refine N.obl rfl ?_ | refine N.obl ⟨by kernel_rfl, by kernel_rfl⟩ ?_ | refine N.alt ?_ | refine N.forkT ?_ | refine N.forkF ?_) | refine N.forkNo (by decide) ?_ | refine N.forkYes (by decide) ?_)
  all_goals rfl
set_option maxRecDepth 100000 in
theorem cmp_ft_x (v u : Nat) (hv : v < Top) (hu : u < Top) (w : World) : Calls Try.prog 43 #[.agg ⟨wiL false false v⟩, .agg ⟨wiL true false u⟩] w fun e w' => e = .returned (.tuple #[.int .i64 (1), .bool true]) ∧ Below w.heap.size w w' := by
  have hv16 := Nat.lt_trans hv top_lt
  have hu16 := Nat.lt_trans hu top_lt
  refine calls_pure (G := tys) w tysOK mixed Try.func43 (by rfl) (by first | rfl | (simp only [List.all_cons, List.all_nil, plain_wz, plain_lim, plain_wi]; rfl)) (by first | exact plain3_wz _ | exact plain3_wi _ _ _ | rfl | (simp only [plain3, List.all_cons, List.all_nil, plain_wz, plain_lim, plain_wi]; rfl)) ?_
  repeat' (refine N.go ?_; first | with_reducible (first | refine N.obl (by decide) ?_ | refine N.obl (flat_wi _ _ _) ?_ | refine N.obl (flat_lim _ _) ?_ | refine N.eq ?_ | refine N.obl rfl ?_ | refine N.obl ⟨by kernel_rfl, by kernel_rfl⟩ ?_ | refine N.alt ?_ | refine N.forkT ?_ | refine N.forkF ?_) | refine N.forkNo (by decide) ?_ | refine N.forkYes (by decide) ?_)
  all_goals rfl
theorem cmp_z (a b : Int) (ha : a.natAbs < Top) (hb : b.natAbs < Top) (w : World) : Calls Try.prog 43 #[wz a, wz b] w fun e w' => e = .returned (.tuple #[.int .i64 (cmz a b), .bool true]) ∧ Below w.heap.size w w' := by
  by_cases h1 : a < 0 <;> by_cases h2 : b < 0
  · rw [wz_neg h1, wz_neg h2]
    have := cmp_tt_x a.natAbs b.natAbs ha hb w
    rwa [show cm b.natAbs a.natAbs = cmz a b from by unfold cm cmz; split <;> split <;> (try split) <;> (try split) <;> omega] at this
  · rw [wz_neg h1, wz_pos (by omega : 0 ≤ b)]
    have := cmp_tf_x a.natAbs b.natAbs ha hb w
    rwa [show (-1 : Int) = cmz a b from by unfold cmz; rw [if_pos (by omega)]] at this
  · rw [wz_pos (by omega : 0 ≤ a), wz_neg h2]
    have := cmp_ft_x a.natAbs b.natAbs ha hb w
    rwa [show Value.int .i64 1 = .int .i64 (cmz a b) from by unfold cmz; rw [if_neg (by omega), if_pos (by omega)]] at this
  · rw [wz_pos (by omega : 0 ≤ a), wz_pos (by omega : 0 ≤ b)]
    have := cmp_ff_x a.natAbs b.natAbs ha hb w
    rwa [show cm a.natAbs b.natAbs = cmz a b from by unfold cm cmz; split <;> split <;> (try split) <;> (try split) <;> omega] at this
theorem cCmpz (a b : Int) (h : List (Option Chunk)) (ha : a.natAbs < Top) (hb : b.natAbs < Top) : CallOK Try.prog 43 [wz a, wz b] h (.tuple #[.int .i64 (cmz a b), .bool true]) [] [] :=
  call_pure (by simp [plain_wz]) rfl (Try.call43 _) (cmp_z a b ha hb)
/-- The root, up. -/
def usq (n : Nat) : Nat := if isq n * isq n < n then isq n + 1 else isq n
set_option maxRecDepth 100000 in
theorem wideup_x (n : Nat) (hn5 : n < 2 ^ 125) (w : World) : Calls Try.prog 30 #[wz (n : Int)] w fun e w' => e = .returned (.tuple #[.int .i64 (usq n : Nat), .int .i64 0]) ∧ Below w.heap.size w w' := by
  have hn : n < 2 ^ 126 := by have := p125; have := p126; omega
  have hq := isq_small n hn
  have hle := isq_le n
  have hqt : ((isq n : Nat) : Int).natAbs < Top := by rw [Int.natAbs_natCast]; exact natTop (by have := p126; omega)
  have hq16 := Nat.lt_trans hqt top_lt
  have hmt : (((isq n : Nat) : Int) * ((isq n : Nat) : Int)).natAbs < Top := by rw [← Int.natCast_mul, Int.natAbs_natCast]; exact natTop (Nat.lt_of_le_of_lt hle hn)
  have hnt : ((n : Nat) : Int).natAbs < Top := by rw [Int.natAbs_natCast]; exact natTop hn
  have h1t : (1 : Int).natAbs < Top := natTop (n := 1) (by decide)
  have hst : (((isq n : Nat) : Int) + 1).natAbs < Top := by
    rw [show ((isq n : Nat) : Int) + 1 = ((isq n + 1 : Nat) : Int) from rfl, Int.natAbs_natCast]
    exact natTop (by have := p126; omega)
  obtain ⟨a1, a2⟩ := n64_in (z := ((isq n : Nat) : Int)) (by clear hmt hnt hst hle; omega)
  obtain ⟨b1, b2⟩ := n64_in (z := ((isq n : Nat) : Int) + 1) (by clear hmt hnt hst hle; have : isq n < 9223372036854775807 := isq_below (by have := p125; omega); omega)
  have a3 : e64 ((isq n : Nat) : Int) = 0 := by unfold e64; rw [a1]; rfl
  have b3 : e64 (((isq n : Nat) : Int) + 1) = 0 := by unfold e64; rw [b1]; rfl
  have hcm : cmz (((isq n : Nat) : Int) * ((isq n : Nat) : Int)) (n : Int) < 0 ↔ isq n * isq n < n := by
    have : ((isq n * isq n : Nat) : Int) = ((isq n : Nat) : Int) * ((isq n : Nat) : Int) := Int.natCast_mul _ _
    clear hqt hq16 hmt hnt h1t hst hle
    generalize ((isq n : Nat) : Int) * ((isq n : Nat) : Int) = A at *
    generalize isq n * isq n = B at *
    unfold cmz; split <;> (try split) <;> omega
  refine calls_pure (G := tys) w tysOK mixed Try.func30 (by rfl) (by first | rfl | (simp only [List.all_cons, List.all_nil, plain_wz, plain_lim, plain_wi]; rfl)) (by first | exact plain3_wz _ | exact plain3_wi _ _ _ | rfl | (simp only [plain3, List.all_cons, List.all_nil, plain_wz, plain_lim, plain_wi]; rfl)) ?_
  repeat' (refine N.go ?_; first | with_reducible (first | refine N.obl (by decide) ?_ | refine N.obl (flat_wi _ _ _) ?_ | refine N.obl (flat_lim _ _) ?_ | refine N.eq ?_ | refine N.obl rfl ?_ | refine N.obl ⟨by kernel_rfl, by kernel_rfl⟩ ?_ | refine N.alt ?_ | refine N.forkT ?_ | refine N.forkF ?_ | refine N.call (cSqrtz _ _ hn) ?_ | refine N.call (cMulz _ _ _ hq16 hq16 hmt) ?_ | refine N.call (cCmpz _ _ _ hmt hnt) ?_ | refine N.call (cOfz _ _ (by decide) (by decide)) ?_ | refine N.call (cAddz _ _ _ hqt h1t hst) ?_ | refine N.call (cNarrow _ _ hqt) ?_ | refine N.call (cNarrow _ _ hst) ?_) | refine N.forkNo (by decide) ?_ | refine N.forkYes (by decide) ?_ | with_reducible refine N.fork (fun hb => ?_) (fun hb => ?_))
  · rw [decide_eq_true_eq] at hb
    rw [b2, b3]; unfold usq; rw [if_pos (hcm.1 hb)]; rfl
  · rw [decide_eq_false_iff_not] at hb
    rw [a2, a3]; unfold usq; rw [if_neg (fun h => hb (hcm.2 h))]
theorem cWideup (n : Nat) (h : List (Option Chunk)) (hn : n < 2 ^ 125) : CallOK Try.prog 30 [wz (n : Int)] h (.tuple #[.int .i64 (usq n : Nat), .int .i64 0]) [] [] :=
  call_pure (by simp [plain_wz]) rfl (Try.call30 _) (wideup_x n hn)
theorem cWideupz (z : Int) (n : Nat) (h : List (Option Chunk)) (e : z = (n : Nat)) (hn : n < 2 ^ 125) : CallOK Try.prog 30 [wz z] h (.tuple #[.int .i64 (usq n : Nat), .int .i64 0]) [] [] := by
  subst e; exact cWideup n h hn
set_option maxRecDepth 100000 in
theorem up_x (n : Int) (h1 : n < 9223372036854775808) (w : World) : Calls Try.prog 28 #[.int .i64 n] w fun e w' => e = .returned (.int .i64 (usq n.toNat : Nat)) ∧ Below w.heap.size w w' := by
  have e : max 0 n = ((n.toNat : Nat) : Int) := by omega
  have hn : n.toNat < 2 ^ 125 := by
    have := p125
    omega
  refine calls_pure (G := tys) w tysOK mixed Try.func28 (by rfl) (by first | rfl | (simp only [List.all_cons, List.all_nil, plain_wz, plain_lim, plain_wi]; rfl)) (by first | exact plain3_wz _ | exact plain3_wi _ _ _ | rfl | (simp only [plain3, List.all_cons, List.all_nil, plain_wz, plain_lim, plain_wi]; rfl)) ?_
  repeat' (refine N.go ?_; first | with_reducible (first | refine N.obl (by decide) ?_ | refine N.obl (flat_wi _ _ _) ?_ | refine N.obl (flat_lim _ _) ?_ | refine N.eq ?_ | refine N.obl rfl ?_ | refine N.obl ⟨by kernel_rfl, by kernel_rfl⟩ ?_ | refine N.alt ?_ | refine N.forkT ?_ | refine N.forkF ?_ | refine N.min2 ?_ | refine N.max2 ?_ | refine N.call (cOfz _ _ (by omega) (by omega)) ?_ | refine N.call (cWideupz _ _ _ e hn) ?_) | refine N.forkNo (by decide) ?_ | refine N.forkYes (by decide) ?_)
  all_goals rfl
theorem cUpr (n : Int) (h : List (Option Chunk)) (h1 : n < 9223372036854775808) : CallOK Try.prog 28 [.int .i64 n] h (.int .i64 (usq n.toNat : Nat)) [] [] :=
  call_pure rfl rfl (Try.call28 _) (up_x n h1)
end Go.Proofs.Ytchfbblpflcniaa


/-
  The walks of mat and ellip.
-/
set_option linter.unusedVariables false
set_option linter.unusedSimpArgs false
namespace Go.Proofs.Ytchfbblpflcniaa
open Go Go.RowKit Sx

/-- so great at most: 2^200 -/
theorem zt {z : Int} (h : z.natAbs ≤ 1606938044258990275541962092341162602522202993782792835301376) : z.natAbs < Top := by
  have : (2 : Nat) ^ 201 < Top := Nat.pow_lt_pow_right (a := 2) (by decide) (by decide : 201 < TopBits)
  have e : (2 : Nat) ^ 201 = 3213876088517980551083924184682325205044405987565585670602752 := by decide
  omega
theorem zb {z : Int} (h : z.natAbs ≤ 1606938044258990275541962092341162602522202993782792835301376) : z.natAbs < Bs ^ 16 := Nat.lt_trans (zt h) top_lt
theorem mulB {a b : Int} {m n : Nat} (ha : a.natAbs ≤ m) (hbb : b.natAbs ≤ n) : (a * b).natAbs ≤ m * n := by rw [Int.natAbs_mul]; exact Nat.mul_le_mul ha hbb
def withinP (m x y : Int) : Prop := (-m ≤ x ∧ x ≤ m) ∧ (-m ≤ y ∧ y ≤ m)
instance (m x y : Int) : Decidable (withinP m x y) := by unfold withinP; infer_instance
/-- 2^46 -/
def mayP (cx cy a b d : Int) : Prop := withinP 4194304 cx cy ∧ (1 ≤ a ∧ a ≤ 70368744177664) ∧ (1 ≤ d ∧ d ≤ 70368744177664) ∧ (-70368744177664 ≤ b ∧ b ≤ 70368744177664) ∧ 0 < a * d - b * b
instance (cx cy a b d : Int) : Decidable (mayP cx cy a b d) := by unfold mayP; infer_instance
def psdP (a b d : Int) : Prop := 0 ≤ a ∧ 0 ≤ d ∧ 0 ≤ a * d - b * b
instance (a b d : Int) : Decidable (psdP a b d) := by unfold psdP; infer_instance
def holdsP (a b d x y : Int) : Prop := psdP (a - x * x) (b - x * y) (d - y * y)
instance (a b d x y : Int) : Decidable (holdsP a b d x y) := by unfold holdsP; infer_instance
def inP (cx cy a b d x y : Int) : Prop := mayP cx cy a b d ∧ withinP 1073741824 x y ∧ holdsP a b d (x - cx) (y - cy)
instance (cx cy a b d x y : Int) : Decidable (inP cx cy a b d x y) := by unfold inP; infer_instance
set_option maxRecDepth 100000 in
theorem within_x (x y m : Int) (hm : 0 ≤ m ∧ m ≤ 1152921504606846976) (w : World) : Calls Try.prog 26 #[.agg #[.int .i64 x, .int .i64 y], .int .i64 m] w fun e w' => e = .returned (.bool (decide (withinP m x y))) ∧ Below w.heap.size w w' := by
  have hw := i64s (0 - m) (by omega) (by omega)
  refine calls_pure (G := tys) w tysOK mixed Try.func26 (by rfl) (by first | rfl | (simp only [List.all_cons, List.all_nil, plain_wz, plain_lim, plain_wi]; rfl)) (by first | exact plain3_wz _ | exact plain3_wi _ _ _ | rfl | (simp only [plain3, List.all_cons, List.all_nil, plain_wz, plain_lim, plain_wi]; rfl)) ?_
  repeat' (refine N.go ?_; first | with_reducible (first | refine N.obl (by decide) ?_ | refine N.obl (flat_wi _ _ _) ?_ | refine N.obl (flat_lim _ _) ?_ | refine N.eq ?_ | refine N.obl rfl ?_ | refine N.obl ⟨by kernel_rfl, by kernel_rfl⟩ ?_ | refine N.alt ?_ | refine N.forkT ?_ | refine N.forkF ?_) | with_reducible refine N.fork (fun hb => ?_) (fun hb => ?_))
  all_goals
    refine boolD ?_
    try rw [hw] at *
    simp only [decide_eq_true_eq, decide_eq_false_iff_not, Bool.false_eq_true, false_iff, true_iff, iff_true, iff_false, reduceCtorEq, not_true_eq_false, not_false_eq_true, ge_iff_le, gt_iff_lt] at *
    try try rw [hw] at *
    simp only [withinP, psdP, mayP] at *
    omega
theorem cWithin (x y m : Int) (h : List (Option Chunk)) (hm : 0 ≤ m ∧ m ≤ 1152921504606846976) : CallOK Try.prog 26 [.agg #[.int .i64 x, .int .i64 y], .int .i64 m] h (.bool (decide (withinP m x y))) [] [] :=
  call_pure (by first | rfl | (simp only [List.all_cons, List.all_nil, plain_wz]; rfl)) (by first | rfl | exact plain3_wz _) (Try.call26 _) (within_x x y m hm)
set_option maxRecDepth 100000 in
theorem maypoint_x (x y : Int)  (w : World) : Calls Try.prog 14 #[.agg #[.int .i64 x, .int .i64 y]] w fun e w' => e = .returned (.bool (decide (withinP 4194304 x y))) ∧ Below w.heap.size w w' := by
  refine calls_pure (G := tys) w tysOK mixed Try.func14 (by rfl) (by first | rfl | (simp only [List.all_cons, List.all_nil, plain_wz, plain_lim, plain_wi]; rfl)) (by first | exact plain3_wz _ | exact plain3_wi _ _ _ | rfl | (simp only [plain3, List.all_cons, List.all_nil, plain_wz, plain_lim, plain_wi]; rfl)) ?_
  repeat' (refine N.go ?_; first | with_reducible (first | refine N.obl (by decide) ?_ | refine N.obl (flat_wi _ _ _) ?_ | refine N.obl (flat_lim _ _) ?_ | refine N.eq ?_ | refine N.obl rfl ?_ | refine N.obl ⟨by kernel_rfl, by kernel_rfl⟩ ?_ | refine N.alt ?_ | refine N.forkT ?_ | refine N.forkF ?_) | with_reducible refine N.call (cWithin _ _ _ _ (by decide)) ?_)
  all_goals rfl
theorem cMayPoint (x y : Int) (h : List (Option Chunk))  : CallOK Try.prog 14 [.agg #[.int .i64 x, .int .i64 y]] h (.bool (decide (withinP 4194304 x y))) [] [] :=
  call_pure (by first | rfl | (simp only [List.all_cons, List.all_nil, plain_wz]; rfl)) (by first | rfl | exact plain3_wz _) (Try.call14 _) (maypoint_x x y )
set_option maxRecDepth 100000 in
theorem times_x (a b : Int) (ha : a.natAbs ≤ 9223372036854775807) (hbb : b.natAbs ≤ 9223372036854775807) (w : World) : Calls Try.prog 47 #[.int .i64 a, .int .i64 b] w fun e w' => e = .returned (wz (a * b)) ∧ Below w.heap.size w w' := by
  have h1 := mulB ha hbb
  refine calls_pure (G := tys) w tysOK mixed Try.func47 (by rfl) (by first | rfl | (simp only [List.all_cons, List.all_nil, plain_wz, plain_lim, plain_wi]; rfl)) (by first | exact plain3_wz _ | exact plain3_wi _ _ _ | rfl | (simp only [plain3, List.all_cons, List.all_nil, plain_wz, plain_lim, plain_wi]; rfl)) ?_
  repeat' (refine N.go ?_; first | with_reducible (first | refine N.obl (by decide) ?_ | refine N.obl (flat_wi _ _ _) ?_ | refine N.obl (flat_lim _ _) ?_ | refine N.eq ?_ | refine N.obl rfl ?_ | refine N.obl ⟨by kernel_rfl, by kernel_rfl⟩ ?_ | refine N.alt ?_ | refine N.forkT ?_ | refine N.forkF ?_ | refine N.call (cOfz _ _ (by omega) (by omega)) ?_) | with_reducible refine N.call (cMulz _ _ _ (zb (by omega)) (zb (by omega)) (zt (Nat.le_trans h1 (by decide)))) ?_)
  all_goals rfl
theorem cTimes (a b : Int) (h : List (Option Chunk)) (ha : a.natAbs ≤ 9223372036854775807) (hbb : b.natAbs ≤ 9223372036854775807) : CallOK Try.prog 47 [.int .i64 a, .int .i64 b] h (wz (a * b)) [] [] :=
  call_pure (by first | rfl | (simp only [List.all_cons, List.all_nil, plain_wz]; rfl)) (by first | rfl | exact plain3_wz _) (Try.call47 _) (times_x a b ha hbb)
set_option maxRecDepth 100000 in
theorem mdet_x (a b d : Int) (ha : a.natAbs ≤ 18446744073709551616) (hbb : b.natAbs ≤ 18446744073709551616) (hd : d.natAbs ≤ 18446744073709551616) (w : World) : Calls Try.prog 54 #[wz a, wz b, wz d] w fun e w' => e = .returned (wz (a * d - b * b)) ∧ Below w.heap.size w w' := by
  have h1 := mulB ha hd
  have h2 := mulB hbb hbb
  refine calls_pure (G := tys) w tysOK mixed Try.func54 (by rfl) (by first | rfl | (simp only [List.all_cons, List.all_nil, plain_wz, plain_lim, plain_wi]; rfl)) (by first | exact plain3_wz _ | exact plain3_wi _ _ _ | rfl | (simp only [plain3, List.all_cons, List.all_nil, plain_wz, plain_lim, plain_wi]; rfl)) ?_
  repeat' (refine N.go ?_; first | with_reducible (first | refine N.obl (by decide) ?_ | refine N.obl (flat_wi _ _ _) ?_ | refine N.obl (flat_lim _ _) ?_ | refine N.eq ?_ | refine N.obl rfl ?_ | refine N.obl ⟨by kernel_rfl, by kernel_rfl⟩ ?_ | refine N.alt ?_ | refine N.forkT ?_ | refine N.forkF ?_ | refine N.call (cMulz _ _ _ (zb (by omega)) (zb (by omega)) (zt (Nat.le_trans (by assumption) (by decide)))) ?_) | with_reducible refine N.call (cSubz _ _ _ (zt (Nat.le_trans h1 (by decide))) (zt (Nat.le_trans h2 (by decide))) (zt (by omega))) ?_)
  all_goals rfl
theorem cDetw (a b d : Int) (h : List (Option Chunk)) (ha : a.natAbs ≤ 18446744073709551616) (hbb : b.natAbs ≤ 18446744073709551616) (hd : d.natAbs ≤ 18446744073709551616) : CallOK Try.prog 54 [wz a, wz b, wz d] h (wz (a * d - b * b)) [] [] :=
  call_pure (by first | rfl | (simp only [List.all_cons, List.all_nil, plain_wz]; rfl)) (by first | rfl | exact plain3_wz _) (Try.call54 _) (mdet_x a b d ha hbb hd)
set_option maxRecDepth 100000 in
theorem mpsd_x (a b d : Int) (ha : a.natAbs ≤ 18446744073709551616) (hbb : b.natAbs ≤ 18446744073709551616) (hd : d.natAbs ≤ 18446744073709551616) (w : World) : Calls Try.prog 58 #[wz a, wz b, wz d] w fun e w' => e = .returned (.bool (decide (psdP a b d))) ∧ Below w.heap.size w w' := by
  have h1 := mulB ha hd
  have h2 := mulB hbb hbb
  have s1 := sgn_nonneg a
  have s2 := sgn_nonneg d
  have s3 := sgn_nonneg (a * d - b * b)
  refine calls_pure (G := tys) w tysOK mixed Try.func58 (by rfl) (by first | rfl | (simp only [List.all_cons, List.all_nil, plain_wz, plain_lim, plain_wi]; rfl)) (by first | exact plain3_wz _ | exact plain3_wi _ _ _ | rfl | (simp only [plain3, List.all_cons, List.all_nil, plain_wz, plain_lim, plain_wi]; rfl)) ?_
  repeat' (refine N.go ?_; first | with_reducible (first | refine N.obl (by decide) ?_ | refine N.obl (flat_wi _ _ _) ?_ | refine N.obl (flat_lim _ _) ?_ | refine N.eq ?_ | refine N.obl rfl ?_ | refine N.obl ⟨by kernel_rfl, by kernel_rfl⟩ ?_ | refine N.alt ?_ | refine N.forkT ?_ | refine N.forkF ?_ | refine N.call (cDetw _ _ _ _ ha hbb hd) ?_ | refine N.call (cSign _ _ (zt (by omega))) ?_) | with_reducible refine N.fork (fun hb => ?_) (fun hb => ?_))
  all_goals
    refine boolD ?_
    simp only [decide_eq_true_eq, decide_eq_false_iff_not, Bool.false_eq_true, false_iff, true_iff, iff_true, iff_false, reduceCtorEq, not_true_eq_false, not_false_eq_true, ge_iff_le, gt_iff_lt] at *
    try simp only [withinP, psdP, mayP] at *
    omega
theorem cPsdw (a b d : Int) (h : List (Option Chunk)) (ha : a.natAbs ≤ 18446744073709551616) (hbb : b.natAbs ≤ 18446744073709551616) (hd : d.natAbs ≤ 18446744073709551616) : CallOK Try.prog 58 [wz a, wz b, wz d] h (.bool (decide (psdP a b d))) [] [] :=
  call_pure (by first | rfl | (simp only [List.all_cons, List.all_nil, plain_wz]; rfl)) (by first | rfl | exact plain3_wz _) (Try.call58 _) (mpsd_x a b d ha hbb hd)
set_option maxRecDepth 100000 in
theorem Det_x (a b d : Int) (ha : a.natAbs ≤ 9223372036854775807) (hbb : b.natAbs ≤ 9223372036854775807) (hd : d.natAbs ≤ 9223372036854775807) (w : World) : Calls Try.prog 35 #[.agg #[.int .i64 a, .int .i64 b, .int .i64 d]] w fun e w' => e = .returned (wz (a * d - b * b)) ∧ Below w.heap.size w w' := by
  refine calls_pure (G := tys) w tysOK mixed Try.func35 (by rfl) (by first | rfl | (simp only [List.all_cons, List.all_nil, plain_wz, plain_lim, plain_wi]; rfl)) (by first | exact plain3_wz _ | exact plain3_wi _ _ _ | rfl | (simp only [plain3, List.all_cons, List.all_nil, plain_wz, plain_lim, plain_wi]; rfl)) ?_
  repeat' (refine N.go ?_; first | with_reducible (first | refine N.obl (by decide) ?_ | refine N.obl (flat_wi _ _ _) ?_ | refine N.obl (flat_lim _ _) ?_ | refine N.eq ?_ | refine N.obl rfl ?_ | refine N.obl ⟨by kernel_rfl, by kernel_rfl⟩ ?_ | refine N.alt ?_ | refine N.forkT ?_ | refine N.forkF ?_ | refine N.call (cOfz _ _ (by omega) (by omega)) ?_) | with_reducible refine N.call (cDetw _ _ _ _ (by omega) (by omega) (by omega)) ?_)
  all_goals rfl
theorem cDet (a b d : Int) (h : List (Option Chunk)) (ha : a.natAbs ≤ 9223372036854775807) (hbb : b.natAbs ≤ 9223372036854775807) (hd : d.natAbs ≤ 9223372036854775807) : CallOK Try.prog 35 [.agg #[.int .i64 a, .int .i64 b, .int .i64 d]] h (wz (a * d - b * b)) [] [] :=
  call_pure (by first | rfl | (simp only [List.all_cons, List.all_nil, plain_wz]; rfl)) (by first | rfl | exact plain3_wz _) (Try.call35 _) (Det_x a b d ha hbb hd)
set_option maxRecDepth 100000 in
theorem less_x (n x y : Int) (hn : n.natAbs ≤ 140737488355328) (hx : x.natAbs ≤ 2147483648) (hy : y.natAbs ≤ 2147483648) (w : World) : Calls Try.prog 56 #[.int .i64 n, .int .i64 x, .int .i64 y] w fun e w' => e = .returned (wz (n - x * y)) ∧ Below w.heap.size w w' := by
  have h1 := mulB hx hy
  refine calls_pure (G := tys) w tysOK mixed Try.func56 (by rfl) (by first | rfl | (simp only [List.all_cons, List.all_nil, plain_wz, plain_lim, plain_wi]; rfl)) (by first | exact plain3_wz _ | exact plain3_wi _ _ _ | rfl | (simp only [plain3, List.all_cons, List.all_nil, plain_wz, plain_lim, plain_wi]; rfl)) ?_
  repeat' (refine N.go ?_; first | with_reducible (first | refine N.obl (by decide) ?_ | refine N.obl (flat_wi _ _ _) ?_ | refine N.obl (flat_lim _ _) ?_ | refine N.eq ?_ | refine N.obl rfl ?_ | refine N.obl ⟨by kernel_rfl, by kernel_rfl⟩ ?_ | refine N.alt ?_ | refine N.forkT ?_ | refine N.forkF ?_ | refine N.call (cOfz _ _ (by omega) (by omega)) ?_ | refine N.call (cTimes _ _ _ (by omega) (by omega)) ?_) | with_reducible refine N.call (cSubz _ _ _ (zt (by omega)) (zt (Nat.le_trans h1 (by decide))) (zt (by omega))) ?_)
  all_goals rfl
theorem cLessw (n x y : Int) (h : List (Option Chunk)) (hn : n.natAbs ≤ 140737488355328) (hx : x.natAbs ≤ 2147483648) (hy : y.natAbs ≤ 2147483648) : CallOK Try.prog 56 [.int .i64 n, .int .i64 x, .int .i64 y] h (wz (n - x * y)) [] [] :=
  call_pure (by first | rfl | (simp only [List.all_cons, List.all_nil, plain_wz]; rfl)) (by first | rfl | exact plain3_wz _) (Try.call56 _) (less_x n x y hn hx hy)
set_option maxRecDepth 100000 in
theorem Holds_x (a b d x y : Int) (ha : a.natAbs ≤ 140737488355328) (hbb : b.natAbs ≤ 140737488355328) (hd : d.natAbs ≤ 140737488355328) (hx : x.natAbs ≤ 2147483648) (hy : y.natAbs ≤ 2147483648) (w : World) : Calls Try.prog 38 #[.agg #[.int .i64 a, .int .i64 b, .int .i64 d], .agg #[.int .i64 x, .int .i64 y]] w fun e w' => e = .returned (.bool (decide (holdsP a b d x y))) ∧ Below w.heap.size w w' := by
  have h1 := mulB hx hx
  have h2 := mulB hx hy
  have h3 := mulB hy hy
  refine calls_pure (G := tys) w tysOK mixed Try.func38 (by rfl) (by first | rfl | (simp only [List.all_cons, List.all_nil, plain_wz, plain_lim, plain_wi]; rfl)) (by first | exact plain3_wz _ | exact plain3_wi _ _ _ | rfl | (simp only [plain3, List.all_cons, List.all_nil, plain_wz, plain_lim, plain_wi]; rfl)) ?_
  repeat' (refine N.go ?_; first | with_reducible (first | refine N.obl (by decide) ?_ | refine N.obl (flat_wi _ _ _) ?_ | refine N.obl (flat_lim _ _) ?_ | refine N.eq ?_ | refine N.obl rfl ?_ | refine N.obl ⟨by kernel_rfl, by kernel_rfl⟩ ?_ | refine N.alt ?_ | refine N.forkT ?_ | refine N.forkF ?_ | refine N.call (cLessw _ _ _ _ (by assumption) (by assumption) (by assumption)) ?_) | with_reducible refine N.call (cPsdw _ _ _ _ (by omega) (by omega) (by omega)) ?_)
  all_goals rfl
theorem cHolds (a b d x y : Int) (h : List (Option Chunk)) (ha : a.natAbs ≤ 140737488355328) (hbb : b.natAbs ≤ 140737488355328) (hd : d.natAbs ≤ 140737488355328) (hx : x.natAbs ≤ 2147483648) (hy : y.natAbs ≤ 2147483648) : CallOK Try.prog 38 [.agg #[.int .i64 a, .int .i64 b, .int .i64 d], .agg #[.int .i64 x, .int .i64 y]] h (.bool (decide (holdsP a b d x y))) [] [] :=
  call_pure (by first | rfl | (simp only [List.all_cons, List.all_nil, plain_wz]; rfl)) (by first | rfl | exact plain3_wz _) (Try.call38 _) (Holds_x a b d x y ha hbb hd hx hy)
set_option maxRecDepth 100000 in
theorem May_x (cx cy a b d : Int)  (w : World) : Calls Try.prog 16 #[.agg #[.int .i64 cx, .int .i64 cy, .int .i64 a, .int .i64 b, .int .i64 d]] w fun e w' => e = .returned (.bool (decide (mayP cx cy a b d))) ∧ Below w.heap.size w w' := by
  have s1 := sgn_pos (a * d - b * b)
  refine calls_pure (G := tys) w tysOK mixed Try.func16 (by rfl) (by first | rfl | (simp only [List.all_cons, List.all_nil, plain_wz, plain_lim, plain_wi]; rfl)) (by first | exact plain3_wz _ | exact plain3_wi _ _ _ | rfl | (simp only [plain3, List.all_cons, List.all_nil, plain_wz, plain_lim, plain_wi]; rfl)) ?_
  repeat' (refine N.go ?_; first | with_reducible (first | refine N.obl (by decide) ?_ | refine N.obl (flat_wi _ _ _) ?_ | refine N.obl (flat_lim _ _) ?_ | refine N.eq ?_ | refine N.obl rfl ?_ | refine N.obl ⟨by kernel_rfl, by kernel_rfl⟩ ?_ | refine N.alt ?_ | refine N.forkT ?_ | refine N.forkF ?_ | refine N.call (cMayPoint _ _ _) ?_ | refine N.call (cDet _ _ _ _ (by simp only [decide_eq_true_eq, decide_eq_false_iff_not] at *; omega) (by simp only [decide_eq_true_eq, decide_eq_false_iff_not] at *; omega) (by simp only [decide_eq_true_eq, decide_eq_false_iff_not] at *; omega)) ?_ | refine N.call (cSign _ _ (zt (by simp only [decide_eq_true_eq, decide_eq_false_iff_not] at *; have h1 := mulB (a := a) (b := d) (m := 70368744177664) (n := 70368744177664) (by omega) (by omega); have h2 := mulB (a := b) (b := b) (m := 70368744177664) (n := 70368744177664) (by omega) (by omega); omega))) ?_) | with_reducible refine N.fork (fun hb => ?_) (fun hb => ?_))
  all_goals
    refine boolD ?_
    simp only [decide_eq_true_eq, decide_eq_false_iff_not, Bool.false_eq_true, false_iff, true_iff, iff_true, iff_false, reduceCtorEq, not_true_eq_false, not_false_eq_true, ge_iff_le, gt_iff_lt] at *
    try simp only [withinP, psdP, mayP] at *
    omega
theorem cEMay (cx cy a b d : Int) (h : List (Option Chunk))  : CallOK Try.prog 16 [.agg #[.int .i64 cx, .int .i64 cy, .int .i64 a, .int .i64 b, .int .i64 d]] h (.bool (decide (mayP cx cy a b d))) [] [] :=
  call_pure (by first | rfl | (simp only [List.all_cons, List.all_nil, plain_wz]; rfl)) (by first | rfl | exact plain3_wz _) (Try.call16 _) (May_x cx cy a b d )
set_option maxRecDepth 100000 in
theorem may_b {cx cy a b d : Int} (h : mayP cx cy a b d) : (cx.natAbs ≤ 4194304 ∧ cy.natAbs ≤ 4194304) ∧ a.natAbs ≤ 140737488355328 ∧ b.natAbs ≤ 140737488355328 ∧ d.natAbs ≤ 140737488355328 := by
  unfold mayP withinP at h; omega
set_option maxRecDepth 100000 in
theorem cHoldsz (a b d x y x' y' : Int) (h : List (Option Chunk)) (e1 : x' = x) (e2 : y' = y) (ha : a.natAbs ≤ 140737488355328) (hbb : b.natAbs ≤ 140737488355328) (hd : d.natAbs ≤ 140737488355328) (hx : x.natAbs ≤ 2147483648) (hy : y.natAbs ≤ 2147483648) : CallOK Try.prog 38 [.agg #[.int .i64 a, .int .i64 b, .int .i64 d], .agg #[.int .i64 x', .int .i64 y']] h (.bool (decide (holdsP a b d x y))) [] [] := by
  subst e1 e2; exact cHolds a b d x' y' h ha hbb hd hx hy
set_option maxRecDepth 100000 in
theorem In_x (cx cy a b d x y : Int)  (w : World) : Calls Try.prog 18 #[.agg #[.int .i64 cx, .int .i64 cy, .int .i64 a, .int .i64 b, .int .i64 d], .agg #[.int .i64 x, .int .i64 y]] w fun e w' => e = .returned (.bool (decide (inP cx cy a b d x y))) ∧ Below w.heap.size w w' := by
  by_cases hm : mayP cx cy a b d
  · by_cases hw : withinP 1073741824 x y
    · obtain ⟨⟨c1, c2⟩, m1, m2, m3⟩ := may_b hm
      have hw1 := hw
      unfold withinP at hw1
      have e1 := i64s (x - cx) (by omega) (by omega)
      have e2 := i64s (y - cy) (by omega) (by omega)
      rw [show decide (inP cx cy a b d x y) = decide (holdsP a b d (x - cx) (y - cy)) from decide_eq_decide.2 ⟨fun h => h.2.2, fun h => ⟨hm, hw, h⟩⟩]
      refine calls_pure (G := tys) w tysOK mixed Try.func18 (by rfl) (by first | rfl | (simp only [List.all_cons, List.all_nil, plain_wz]; rfl)) (by first | rfl | exact plain3_wz _ | (simp only [plain3, List.all_cons, List.all_nil, plain_wz]; rfl)) ?_
      repeat' (refine N.go ?_; first | with_reducible (first | refine N.obl (by decide) ?_ | refine N.obl (flat_wi _ _ _) ?_ | refine N.obl (flat_lim _ _) ?_ | refine N.eq ?_ | refine N.obl rfl ?_ | refine N.obl ⟨by kernel_rfl, by kernel_rfl⟩ ?_ | refine N.alt ?_ | refine N.forkT ?_ | refine N.forkF ?_ | refine N.call (cEMay _ _ _ _ _ _) ?_ | refine N.call (cWithin _ _ _ _ (by decide)) ?_ | refine N.call (cHoldsz _ _ _ (x - cx) (y - cy) _ _ _ e1 e2 m1 m2 m3 (by omega) (by omega)) ?_) | refine N.forkNo (by rw [decide_eq_true (by assumption)]; rfl) ?_ | refine N.forkYes (by rw [decide_eq_false (by assumption)]; rfl) ?_ | refine N.forkYes (decide_eq_true (by assumption)) ?_ | refine N.forkNo (decide_eq_false (by assumption)) ?_)
      all_goals rfl
    · rw [decide_eq_false (fun h : inP cx cy a b d x y => hw h.2.1)]
      refine calls_pure (G := tys) w tysOK mixed Try.func18 (by rfl) (by first | rfl | (simp only [List.all_cons, List.all_nil, plain_wz]; rfl)) (by first | rfl | exact plain3_wz _ | (simp only [plain3, List.all_cons, List.all_nil, plain_wz]; rfl)) ?_
      repeat' (refine N.go ?_; first | with_reducible (first | refine N.obl (by decide) ?_ | refine N.obl (flat_wi _ _ _) ?_ | refine N.obl (flat_lim _ _) ?_ | refine N.eq ?_ | refine N.obl rfl ?_ | refine N.obl ⟨by kernel_rfl, by kernel_rfl⟩ ?_ | refine N.alt ?_ | refine N.forkT ?_ | refine N.forkF ?_ | refine N.call (cEMay _ _ _ _ _ _) ?_ | refine N.call (cWithin _ _ _ _ (by decide)) ?_) | refine N.forkNo (by rw [decide_eq_true (by assumption)]; rfl) ?_ | refine N.forkYes (by rw [decide_eq_false (by assumption)]; rfl) ?_ | refine N.forkYes (decide_eq_true (by assumption)) ?_ | refine N.forkNo (decide_eq_false (by assumption)) ?_)
      all_goals rfl
  · rw [decide_eq_false (fun h : inP cx cy a b d x y => hm h.1)]
    refine calls_pure (G := tys) w tysOK mixed Try.func18 (by rfl) (by first | rfl | (simp only [List.all_cons, List.all_nil, plain_wz]; rfl)) (by first | rfl | exact plain3_wz _ | (simp only [plain3, List.all_cons, List.all_nil, plain_wz]; rfl)) ?_
    repeat' (refine N.go ?_; first | with_reducible (first | refine N.obl (by decide) ?_ | refine N.obl (flat_wi _ _ _) ?_ | refine N.obl (flat_lim _ _) ?_ | refine N.eq ?_ | refine N.obl rfl ?_ | refine N.obl ⟨by kernel_rfl, by kernel_rfl⟩ ?_ | refine N.alt ?_ | refine N.forkT ?_ | refine N.forkF ?_ | refine N.call (cEMay _ _ _ _ _ _) ?_ | refine N.call (cWithin _ _ _ _ (by decide)) ?_) | refine N.forkNo (by rw [decide_eq_true (by assumption)]; rfl) ?_ | refine N.forkYes (by rw [decide_eq_false (by assumption)]; rfl) ?_ | refine N.forkYes (decide_eq_true (by assumption)) ?_ | refine N.forkNo (decide_eq_false (by assumption)) ?_)
    all_goals rfl
theorem cIn4 (cx cy a b d x y : Int) (h : List (Option Chunk))  : CallOK Try.prog 18 [.agg #[.int .i64 cx, .int .i64 cy, .int .i64 a, .int .i64 b, .int .i64 d], .agg #[.int .i64 x, .int .i64 y]] h (.bool (decide (inP cx cy a b d x y))) [] [] :=
  call_pure (by first | rfl | (simp only [List.all_cons, List.all_nil, plain_wz]; rfl)) (by first | rfl | exact plain3_wz _ | (simp only [plain3, List.all_cons, List.all_nil, plain_wz]; rfl)) (Try.call18 _) (In_x cx cy a b d x y )
set_option maxRecDepth 100000 in
theorem Trace_x (cx cy a b d : Int)  (w : World) : Calls Try.prog 20 #[.agg #[.int .i64 cx, .int .i64 cy, .int .i64 a, .int .i64 b, .int .i64 d]] w fun e w' => e = .returned (.int .i64 (if mayP cx cy a b d then a + d else 0)) ∧ Below w.heap.size w w' := by
  by_cases hm : mayP cx cy a b d
  · obtain ⟨_, m1, m2, m3⟩ := may_b hm
    have e1 := i64s (a + d) (by omega) (by omega)
    rw [if_pos hm]
    refine calls_pure (G := tys) w tysOK mixed Try.func20 (by rfl) (by first | rfl | (simp only [List.all_cons, List.all_nil, plain_wz]; rfl)) (by first | rfl | exact plain3_wz _ | (simp only [plain3, List.all_cons, List.all_nil, plain_wz]; rfl)) ?_
    repeat' (refine N.go ?_; first | with_reducible (first | refine N.obl (by decide) ?_ | refine N.obl (flat_wi _ _ _) ?_ | refine N.obl (flat_lim _ _) ?_ | refine N.eq ?_ | refine N.obl rfl ?_ | refine N.obl ⟨by kernel_rfl, by kernel_rfl⟩ ?_ | refine N.alt ?_ | refine N.forkT ?_ | refine N.forkF ?_ | refine N.call (cEMay _ _ _ _ _ _) ?_) | refine N.forkNo (by rw [decide_eq_true (by assumption)]; rfl) ?_ | refine N.forkYes (by rw [decide_eq_false (by assumption)]; rfl) ?_ | refine N.forkYes (decide_eq_true (by assumption)) ?_ | refine N.forkNo (decide_eq_false (by assumption)) ?_)
    all_goals (rw [e1])
  · rw [if_neg hm]
    refine calls_pure (G := tys) w tysOK mixed Try.func20 (by rfl) (by first | rfl | (simp only [List.all_cons, List.all_nil, plain_wz]; rfl)) (by first | rfl | exact plain3_wz _ | (simp only [plain3, List.all_cons, List.all_nil, plain_wz]; rfl)) ?_
    repeat' (refine N.go ?_; first | with_reducible (first | refine N.obl (by decide) ?_ | refine N.obl (flat_wi _ _ _) ?_ | refine N.obl (flat_lim _ _) ?_ | refine N.eq ?_ | refine N.obl rfl ?_ | refine N.obl ⟨by kernel_rfl, by kernel_rfl⟩ ?_ | refine N.alt ?_ | refine N.forkT ?_ | refine N.forkF ?_ | refine N.call (cEMay _ _ _ _ _ _) ?_) | refine N.forkNo (by rw [decide_eq_true (by assumption)]; rfl) ?_ | refine N.forkYes (by rw [decide_eq_false (by assumption)]; rfl) ?_ | refine N.forkYes (decide_eq_true (by assumption)) ?_ | refine N.forkNo (decide_eq_false (by assumption)) ?_)
    all_goals rfl
theorem cTrace (cx cy a b d : Int) (h : List (Option Chunk))  : CallOK Try.prog 20 [.agg #[.int .i64 cx, .int .i64 cy, .int .i64 a, .int .i64 b, .int .i64 d]] h (.int .i64 (if mayP cx cy a b d then a + d else 0)) [] [] :=
  call_pure (by first | rfl | (simp only [List.all_cons, List.all_nil, plain_wz]; rfl)) (by first | rfl | exact plain3_wz _ | (simp only [plain3, List.all_cons, List.all_nil, plain_wz]; rfl)) (Try.call20 _) (Trace_x cx cy a b d )
set_option maxRecDepth 100000 in
abbrev trP (cx cy a b d : Int) : Int := if mayP cx cy a b d then a + d else 0
theorem trP_b (cx cy a b d : Int) : (if mayP cx cy a b d then a + d else 0) < 9223372036854775808 := by
  split
  · rename_i hm; have := may_b hm; omega
  · omega
set_option maxRecDepth 100000 in
theorem Radius_x (cx cy a b d : Int)  (w : World) : Calls Try.prog 22 #[.agg #[.int .i64 cx, .int .i64 cy, .int .i64 a, .int .i64 b, .int .i64 d]] w fun e w' => e = .returned (.int .i64 (usq (trP cx cy a b d).toNat : Nat)) ∧ Below w.heap.size w w' := by
  refine calls_pure (G := tys) w tysOK mixed Try.func22 (by rfl) (by first | rfl | (simp only [List.all_cons, List.all_nil, plain_wz]; rfl)) (by first | rfl | exact plain3_wz _ | (simp only [plain3, List.all_cons, List.all_nil, plain_wz]; rfl)) ?_
  repeat' (refine N.go ?_; first | with_reducible (first | refine N.obl (by decide) ?_ | refine N.obl (flat_wi _ _ _) ?_ | refine N.obl (flat_lim _ _) ?_ | refine N.eq ?_ | refine N.obl rfl ?_ | refine N.obl ⟨by kernel_rfl, by kernel_rfl⟩ ?_ | refine N.alt ?_ | refine N.forkT ?_ | refine N.forkF ?_ | refine N.call (cTrace _ _ _ _ _ _) ?_) | with_reducible refine N.call (cUpr _ _ (trP_b cx cy a b d)) ?_)
  all_goals rfl
theorem cRadius (cx cy a b d : Int) (h : List (Option Chunk))  : CallOK Try.prog 22 [.agg #[.int .i64 cx, .int .i64 cy, .int .i64 a, .int .i64 b, .int .i64 d]] h (.int .i64 (usq (trP cx cy a b d).toNat : Nat)) [] [] :=
  call_pure (by first | rfl | (simp only [List.all_cons, List.all_nil, plain_wz]; rfl)) (by first | rfl | exact plain3_wz _ | (simp only [plain3, List.all_cons, List.all_nil, plain_wz]; rfl)) (Try.call22 _) (Radius_x cx cy a b d )
set_option maxRecDepth 100000 in
theorem mradius_x (r : Int)  (w : World) : Calls Try.prog 25 #[.int .i64 r] w fun e w' => e = .returned (.bool (decide (1 ≤ r ∧ r ≤ 4194304))) ∧ Below w.heap.size w w' := by
  refine calls_pure (G := tys) w tysOK mixed Try.func25 (by rfl) (by first | rfl | (simp only [List.all_cons, List.all_nil, plain_wz, plain_lim, plain_wi]; rfl)) (by first | exact plain3_wz _ | exact plain3_wi _ _ _ | rfl | (simp only [plain3, List.all_cons, List.all_nil, plain_wz, plain_lim, plain_wi]; rfl)) ?_
  repeat' (refine N.go ?_; first | with_reducible (first | refine N.obl (by decide) ?_ | refine N.obl (flat_wi _ _ _) ?_ | refine N.obl (flat_lim _ _) ?_ | refine N.eq ?_ | refine N.obl rfl ?_ | refine N.obl ⟨by kernel_rfl, by kernel_rfl⟩ ?_ | refine N.alt ?_ | refine N.forkT ?_ | refine N.forkF ?_) | with_reducible refine N.fork (fun hb => ?_) (fun hb => ?_))
  all_goals
    refine boolD ?_
    simp only [decide_eq_true_eq, decide_eq_false_iff_not, Bool.false_eq_true, false_iff, true_iff, iff_true, iff_false, reduceCtorEq, not_true_eq_false, not_false_eq_true, ge_iff_le, gt_iff_lt] at *
    try simp only [withinP, psdP, mayP] at *
    omega
theorem cRad (r : Int) (h : List (Option Chunk))  : CallOK Try.prog 25 [.int .i64 r] h (.bool (decide (1 ≤ r ∧ r ≤ 4194304))) [] [] :=
  call_pure (by first | rfl | (simp only [List.all_cons, List.all_nil, plain_wz]; rfl)) (by first | rfl | exact plain3_wz _) (Try.call25 _) (mradius_x r )
set_option maxRecDepth 100000 in
def mmayP (a b d : Int) : Prop := (-2305843009213693952 ≤ a ∧ a ≤ 2305843009213693952) ∧ (-2305843009213693952 ≤ b ∧ b ≤ 2305843009213693952) ∧ (-2305843009213693952 ≤ d ∧ d ≤ 2305843009213693952)
instance (a b d : Int) : Decidable (mmayP a b d) := by unfold mmayP; infer_instance
def leastP (a b d p q r : Int) : Prop := mmayP a b d ∧ mmayP p q r ∧ psdP (a - p) (b - q) (d - r)
instance (a b d p q r : Int) : Decidable (leastP a b d p q r) := by unfold leastP; infer_instance
set_option maxRecDepth 100000 in
theorem HullY_x (cx cy a b d : Int) (hm : mayP cx cy a b d) (w : World) : Calls Try.prog 10 #[.agg #[.int .i64 cx, .int .i64 cy, .int .i64 a, .int .i64 b, .int .i64 d]] w fun e w' => e = .returned (.tuple #[.int .i64 (usq a.toNat : Nat), .int .i64 (usq d.toNat : Nat)]) ∧ Below w.heap.size w w' := by
  obtain ⟨_, m1, m2, m3⟩ := may_b hm
  refine calls_pure (G := tys) w tysOK mixed Try.func10 (by rfl) (by first | rfl | (simp only [List.all_cons, List.all_nil, plain_wz]; rfl)) (by first | rfl | exact plain3_wz _ | (simp only [plain3, List.all_cons, List.all_nil, plain_wz]; rfl)) ?_
  repeat' (refine N.go ?_; first | with_reducible (first | refine N.obl (by decide) ?_ | refine N.obl (flat_wi _ _ _) ?_ | refine N.obl (flat_lim _ _) ?_ | refine N.eq ?_ | refine N.obl rfl ?_ | refine N.obl ⟨by kernel_rfl, by kernel_rfl⟩ ?_ | refine N.alt ?_ | refine N.forkT ?_ | refine N.forkF ?_ | refine N.call (cEMay _ _ _ _ _ _) ?_ | refine N.call (cUpr _ _ (by omega)) ?_) | refine N.forkNo (by rw [decide_eq_true (by assumption)]; rfl) ?_ | refine N.forkYes (by rw [decide_eq_false (by assumption)]; rfl) ?_ | refine N.forkYes (decide_eq_true (by assumption)) ?_ | refine N.forkNo (decide_eq_false (by assumption)) ?_)
  all_goals rfl
theorem cHullY (cx cy a b d : Int) (h : List (Option Chunk)) (hm : mayP cx cy a b d) : CallOK Try.prog 10 [.agg #[.int .i64 cx, .int .i64 cy, .int .i64 a, .int .i64 b, .int .i64 d]] h (.tuple #[.int .i64 (usq a.toNat : Nat), .int .i64 (usq d.toNat : Nat)]) [] [] :=
  call_pure (by first | rfl | (simp only [List.all_cons, List.all_nil, plain_wz]; rfl)) (by first | rfl | exact plain3_wz _ | (simp only [plain3, List.all_cons, List.all_nil, plain_wz]; rfl)) (Try.call10 _) (HullY_x cx cy a b d hm)
set_option maxRecDepth 100000 in
def quadZ (a b d x y : Int) : Int := (a * (x * x) + d * (y * y)) + (b * (x * y) + b * (x * y))
set_option maxRecDepth 100000 in
theorem Quad_x (a b d x y : Int) (ha : a.natAbs ≤ 140737488355328) (hbb : b.natAbs ≤ 140737488355328) (hd : d.natAbs ≤ 140737488355328) (hx : x.natAbs ≤ 16777216) (hy : y.natAbs ≤ 16777216) (w : World) : Calls Try.prog 31 #[.agg #[.int .i64 a, .int .i64 b, .int .i64 d], .agg #[.int .i64 x, .int .i64 y]] w fun e w' => e = .returned (wz (quadZ a b d x y)) ∧ Below w.heap.size w w' := by
  have h1 := mulB hx hx
  have h2 := mulB hx hy
  have h3 := mulB hy hy
  have k1 := mulB ha h1
  have k2 := mulB hbb h2
  have k3 := mulB hd h3
  refine calls_pure (G := tys) w tysOK mixed Try.func31 (by rfl) (by first | rfl | (simp only [List.all_cons, List.all_nil, plain_wz, plain_lim, plain_wi]; rfl)) (by first | exact plain3_wz _ | exact plain3_wi _ _ _ | rfl | (simp only [plain3, List.all_cons, List.all_nil, plain_wz, plain_lim, plain_wi]; rfl)) ?_
  repeat' (refine N.go ?_; first | with_reducible (first | refine N.obl (by decide) ?_ | refine N.obl (flat_wi _ _ _) ?_ | refine N.obl (flat_lim _ _) ?_ | refine N.eq ?_ | refine N.obl rfl ?_ | refine N.obl ⟨by kernel_rfl, by kernel_rfl⟩ ?_ | refine N.alt ?_ | refine N.forkT ?_ | refine N.forkF ?_ | refine N.call (cOfz _ _ (by omega) (by omega)) ?_ | refine N.call (cTimes _ _ _ (by omega) (by omega)) ?_ | refine N.call (cMulz _ _ _ (zb (by omega)) (zb (Nat.le_trans (by assumption) (by decide))) (zt (Nat.le_trans (by assumption) (by decide)))) ?_) | with_reducible refine N.call (cAddz _ _ _ (zt (by omega)) (zt (by omega)) (zt (by omega))) ?_)
  all_goals rfl
theorem cQuad (a b d x y : Int) (h : List (Option Chunk)) (ha : a.natAbs ≤ 140737488355328) (hbb : b.natAbs ≤ 140737488355328) (hd : d.natAbs ≤ 140737488355328) (hx : x.natAbs ≤ 16777216) (hy : y.natAbs ≤ 16777216) : CallOK Try.prog 31 [.agg #[.int .i64 a, .int .i64 b, .int .i64 d], .agg #[.int .i64 x, .int .i64 y]] h (wz (quadZ a b d x y)) [] [] :=
  call_pure (by first | rfl | (simp only [List.all_cons, List.all_nil, plain_wz]; rfl)) (by first | rfl | exact plain3_wz _) (Try.call31 _) (Quad_x a b d x y ha hbb hd hx hy)
set_option maxRecDepth 100000 in
theorem quad_nn {a b d x y : Int} (ha : 1 ≤ a) (hdet : 0 ≤ a * d - b * b) : 0 ≤ quadZ a b d x y := by
  have h1 : 0 ≤ (a * x + b * y) * (a * x + b * y) := by rcases Int.le_total 0 (a * x + b * y) with h | h; exact Int.mul_nonneg h h; exact Int.mul_nonneg_of_nonpos_of_nonpos h h
  have h2 : 0 ≤ (a * d - b * b) * (y * y) := Int.mul_nonneg hdet (by rcases Int.le_total 0 y with h | h; exact Int.mul_nonneg h h; exact Int.mul_nonneg_of_nonpos_of_nonpos h h)
  have e : a * quadZ a b d x y = (a * x + b * y) * (a * x + b * y) + (a * d - b * b) * (y * y) := by unfold quadZ; grind
  refine Int.not_lt.1 fun h => ?_
  have := Int.mul_neg_of_pos_of_neg (by omega : 0 < a) h
  omega
theorem quad_B {a b d x y : Int} (ha : a.natAbs ≤ 140737488355328) (hbb : b.natAbs ≤ 140737488355328) (hd : d.natAbs ≤ 140737488355328) (hx : x.natAbs ≤ 16777216) (hy : y.natAbs ≤ 16777216) : (quadZ a b d x y).natAbs ≤ 158456325028528675187087900672 := by
  have h1 := mulB hx hx
  have h2 := mulB hx hy
  have h3 := mulB hy hy
  have k1 := mulB ha h1
  have k2 := mulB hbb h2
  have k3 := mulB hd h3
  unfold quadZ; omega
def alongN (a b d x y : Int) : Nat := usq (quadZ a b d x y).toNat
set_option maxRecDepth 100000 in
theorem AlongY_x (cx cy a b d x y : Int) (hm : mayP cx cy a b d) (hw : withinP 16777216 x y) (w : World) : Calls Try.prog 12 #[.agg #[.int .i64 cx, .int .i64 cy, .int .i64 a, .int .i64 b, .int .i64 d], .agg #[.int .i64 x, .int .i64 y]] w fun e w' => e = .returned (.tuple #[.int .i64 (alongN a b d x y : Nat), .int .i64 0]) ∧ Below w.heap.size w w' := by
  obtain ⟨_, m1, m2, m3⟩ := may_b hm
  have hw1 := hw
  unfold withinP at hw1
  have hm1 := hm
  unfold mayP at hm1
  have q1 := quad_nn (x := x) (y := y) hm1.2.1.1 (Int.le_of_lt hm1.2.2.2.2)
  have q2 := quad_B (x := x) (y := y) m1 m2 m3 (by omega) (by omega)
  refine calls_pure (G := tys) w tysOK mixed Try.func12 (by rfl) (by first | rfl | (simp only [List.all_cons, List.all_nil, plain_wz]; rfl)) (by first | rfl | exact plain3_wz _ | (simp only [plain3, List.all_cons, List.all_nil, plain_wz]; rfl)) ?_
  repeat' (refine N.go ?_; first | with_reducible (first | refine N.obl (by decide) ?_ | refine N.obl (flat_wi _ _ _) ?_ | refine N.obl (flat_lim _ _) ?_ | refine N.eq ?_ | refine N.obl rfl ?_ | refine N.obl ⟨by kernel_rfl, by kernel_rfl⟩ ?_ | refine N.alt ?_ | refine N.forkT ?_ | refine N.forkF ?_ | refine N.call (cEMay _ _ _ _ _ _) ?_ | refine N.call (cWithin _ _ _ _ (by decide)) ?_ | refine N.call (cQuad _ _ _ _ _ _ m1 m2 m3 (by omega) (by omega)) ?_ | refine N.call (cWideupz _ (quadZ a b d x y).toNat _ (by omega) (by have := p125; omega)) ?_) | refine N.forkNo (by rw [decide_eq_true (by assumption)]; rfl) ?_ | refine N.forkYes (by rw [decide_eq_false (by assumption)]; rfl) ?_ | refine N.forkYes (decide_eq_true (by assumption)) ?_ | refine N.forkNo (decide_eq_false (by assumption)) ?_)
  all_goals rfl
theorem cAlongY (cx cy a b d x y : Int) (h : List (Option Chunk)) (hm : mayP cx cy a b d) (hw : withinP 16777216 x y) : CallOK Try.prog 12 [.agg #[.int .i64 cx, .int .i64 cy, .int .i64 a, .int .i64 b, .int .i64 d], .agg #[.int .i64 x, .int .i64 y]] h (.tuple #[.int .i64 (alongN a b d x y : Nat), .int .i64 0]) [] [] :=
  call_pure (by first | rfl | (simp only [List.all_cons, List.all_nil, plain_wz]; rfl)) (by first | rfl | exact plain3_wz _ | (simp only [plain3, List.all_cons, List.all_nil, plain_wz]; rfl)) (Try.call12 _) (AlongY_x cx cy a b d x y hm hw)
set_option maxRecDepth 100000 in
theorem AlongN_x (cx cy a b d x y : Int) (hm : ¬ (mayP cx cy a b d ∧ withinP 16777216 x y)) (w : World) : Calls Try.prog 12 #[.agg #[.int .i64 cx, .int .i64 cy, .int .i64 a, .int .i64 b, .int .i64 d], .agg #[.int .i64 x, .int .i64 y]] w fun e w' => e = .returned (.tuple #[.int .i64 0, .int .i64 1]) ∧ Below w.heap.size w w' := by
  by_cases hm1 : mayP cx cy a b d
  · have hw : ¬ withinP 16777216 x y := fun h => hm ⟨hm1, h⟩
    refine calls_pure (G := tys) w tysOK mixed Try.func12 (by rfl) (by first | rfl | (simp only [List.all_cons, List.all_nil, plain_wz]; rfl)) (by first | rfl | exact plain3_wz _ | (simp only [plain3, List.all_cons, List.all_nil, plain_wz]; rfl)) ?_
    repeat' (refine N.go ?_; first | with_reducible (first | refine N.obl (by decide) ?_ | refine N.obl (flat_wi _ _ _) ?_ | refine N.obl (flat_lim _ _) ?_ | refine N.eq ?_ | refine N.obl rfl ?_ | refine N.obl ⟨by kernel_rfl, by kernel_rfl⟩ ?_ | refine N.alt ?_ | refine N.forkT ?_ | refine N.forkF ?_ | refine N.call (cEMay _ _ _ _ _ _) ?_ | refine N.call (cWithin _ _ _ _ (by decide)) ?_) | refine N.forkNo (by rw [decide_eq_true (by assumption)]; rfl) ?_ | refine N.forkYes (by rw [decide_eq_false (by assumption)]; rfl) ?_ | refine N.forkYes (decide_eq_true (by assumption)) ?_ | refine N.forkNo (decide_eq_false (by assumption)) ?_)
    all_goals rfl
  · skip
    refine calls_pure (G := tys) w tysOK mixed Try.func12 (by rfl) (by first | rfl | (simp only [List.all_cons, List.all_nil, plain_wz]; rfl)) (by first | rfl | exact plain3_wz _ | (simp only [plain3, List.all_cons, List.all_nil, plain_wz]; rfl)) ?_
    repeat' (refine N.go ?_; first | with_reducible (first | refine N.obl (by decide) ?_ | refine N.obl (flat_wi _ _ _) ?_ | refine N.obl (flat_lim _ _) ?_ | refine N.eq ?_ | refine N.obl rfl ?_ | refine N.obl ⟨by kernel_rfl, by kernel_rfl⟩ ?_ | refine N.alt ?_ | refine N.forkT ?_ | refine N.forkF ?_ | refine N.call (cEMay _ _ _ _ _ _) ?_ | refine N.call (cWithin _ _ _ _ (by decide)) ?_) | refine N.forkNo (by rw [decide_eq_true (by assumption)]; rfl) ?_ | refine N.forkYes (by rw [decide_eq_false (by assumption)]; rfl) ?_ | refine N.forkYes (decide_eq_true (by assumption)) ?_ | refine N.forkNo (decide_eq_false (by assumption)) ?_)
    all_goals rfl
theorem cAlongN (cx cy a b d x y : Int) (h : List (Option Chunk)) (hm : ¬ (mayP cx cy a b d ∧ withinP 16777216 x y)) : CallOK Try.prog 12 [.agg #[.int .i64 cx, .int .i64 cy, .int .i64 a, .int .i64 b, .int .i64 d], .agg #[.int .i64 x, .int .i64 y]] h (.tuple #[.int .i64 0, .int .i64 1]) [] [] :=
  call_pure (by first | rfl | (simp only [List.all_cons, List.all_nil, plain_wz]; rfl)) (by first | rfl | exact plain3_wz _ | (simp only [plain3, List.all_cons, List.all_nil, plain_wz]; rfl)) (Try.call12 _) (AlongN_x cx cy a b d x y hm)
set_option maxRecDepth 100000 in
theorem BallY_x (x y r : Int) (hw : withinP 4194304 x y) (hr0 : 1 ≤ r ∧ r ≤ 4194304) (w : World) : Calls Try.prog 4 #[.agg #[.int .i64 x, .int .i64 y], .int .i64 r] w fun e w' => e = .returned (.tuple #[.agg #[.int .i64 x, .int .i64 y, .int .i64 (r * r), .int .i64 0, .int .i64 (r * r)], .int .i64 0]) ∧ Below w.heap.size w w' := by
  have k1 := mulB (a := r) (b := r) (m := 4194304) (n := 4194304) (by omega) (by omega)
  have e1 := i64s (r * r) (by omega) (by omega)
  refine calls_pure (G := tys) w tysOK mixed Try.func4 (by rfl) (by first | rfl | (simp only [List.all_cons, List.all_nil, plain_wz]; rfl)) (by first | rfl | exact plain3_wz _ | (simp only [plain3, List.all_cons, List.all_nil, plain_wz]; rfl)) ?_
  repeat' (refine N.go ?_; first | with_reducible (first | refine N.obl (by decide) ?_ | refine N.obl (flat_wi _ _ _) ?_ | refine N.obl (flat_lim _ _) ?_ | refine N.eq ?_ | refine N.obl rfl ?_ | refine N.obl ⟨by kernel_rfl, by kernel_rfl⟩ ?_ | refine N.alt ?_ | refine N.forkT ?_ | refine N.forkF ?_ | refine N.call (cMayPoint _ _ _) ?_ | refine N.call (cRad _ _) ?_) | refine N.forkNo (by rw [decide_eq_true (by assumption)]; rfl) ?_ | refine N.forkYes (by rw [decide_eq_false (by assumption)]; rfl) ?_ | refine N.forkYes (decide_eq_true (by assumption)) ?_ | refine N.forkNo (decide_eq_false (by assumption)) ?_)
  all_goals (rw [e1])
theorem cBallY (x y r : Int) (h : List (Option Chunk)) (hw : withinP 4194304 x y) (hr0 : 1 ≤ r ∧ r ≤ 4194304) : CallOK Try.prog 4 [.agg #[.int .i64 x, .int .i64 y], .int .i64 r] h (.tuple #[.agg #[.int .i64 x, .int .i64 y, .int .i64 (r * r), .int .i64 0, .int .i64 (r * r)], .int .i64 0]) [] [] :=
  call_pure (by first | rfl | (simp only [List.all_cons, List.all_nil, plain_wz]; rfl)) (by first | rfl | exact plain3_wz _ | (simp only [plain3, List.all_cons, List.all_nil, plain_wz]; rfl)) (Try.call4 _) (BallY_x x y r hw hr0)
set_option maxRecDepth 100000 in
theorem BallN_x (x y r : Int) (hn : ¬ (withinP 4194304 x y ∧ (1 ≤ r ∧ r ≤ 4194304))) (w : World) : Calls Try.prog 4 #[.agg #[.int .i64 x, .int .i64 y], .int .i64 r] w fun e w' => e = .returned (.tuple #[.agg #[.int .i64 0, .int .i64 0, .int .i64 0, .int .i64 0, .int .i64 0], .int .i64 1]) ∧ Below w.heap.size w w' := by
  by_cases hc0 : withinP 4194304 x y
  rotate_left
  · skip
    refine calls_pure (G := tys) w tysOK mixed Try.func4 (by rfl) (by first | rfl | (simp only [List.all_cons, List.all_nil, plain_wz]; rfl)) (by first | rfl | exact plain3_wz _ | (simp only [plain3, List.all_cons, List.all_nil, plain_wz]; rfl)) ?_
    repeat' (refine N.go ?_; first | with_reducible (first | refine N.obl (by decide) ?_ | refine N.obl (flat_wi _ _ _) ?_ | refine N.obl (flat_lim _ _) ?_ | refine N.eq ?_ | refine N.obl rfl ?_ | refine N.obl ⟨by kernel_rfl, by kernel_rfl⟩ ?_ | refine N.alt ?_ | refine N.forkT ?_ | refine N.forkF ?_ | refine N.call (cMayPoint _ _ _) ?_ | refine N.call (cRad _ _) ?_) | refine N.forkNo (by rw [decide_eq_true (by assumption)]; rfl) ?_ | refine N.forkYes (by rw [decide_eq_false (by assumption)]; rfl) ?_ | refine N.forkYes (decide_eq_true (by assumption)) ?_ | refine N.forkNo (decide_eq_false (by assumption)) ?_)
    all_goals rfl
  have hc1 : ¬ (1 ≤ r ∧ r ≤ 4194304) := fun h => hn ⟨hc0, h⟩
  refine calls_pure (G := tys) w tysOK mixed Try.func4 (by rfl) (by first | rfl | (simp only [List.all_cons, List.all_nil, plain_wz]; rfl)) (by first | rfl | exact plain3_wz _ | (simp only [plain3, List.all_cons, List.all_nil, plain_wz]; rfl)) ?_
  repeat' (refine N.go ?_; first | with_reducible (first | refine N.obl (by decide) ?_ | refine N.obl (flat_wi _ _ _) ?_ | refine N.obl (flat_lim _ _) ?_ | refine N.eq ?_ | refine N.obl rfl ?_ | refine N.obl ⟨by kernel_rfl, by kernel_rfl⟩ ?_ | refine N.alt ?_ | refine N.forkT ?_ | refine N.forkF ?_ | refine N.call (cMayPoint _ _ _) ?_ | refine N.call (cRad _ _) ?_) | refine N.forkNo (by rw [decide_eq_true (by assumption)]; rfl) ?_ | refine N.forkYes (by rw [decide_eq_false (by assumption)]; rfl) ?_ | refine N.forkYes (decide_eq_true (by assumption)) ?_ | refine N.forkNo (decide_eq_false (by assumption)) ?_)
  all_goals rfl
theorem cBallN (x y r : Int) (h : List (Option Chunk)) (hn : ¬ (withinP 4194304 x y ∧ (1 ≤ r ∧ r ≤ 4194304))) : CallOK Try.prog 4 [.agg #[.int .i64 x, .int .i64 y], .int .i64 r] h (.tuple #[.agg #[.int .i64 0, .int .i64 0, .int .i64 0, .int .i64 0, .int .i64 0], .int .i64 1]) [] [] :=
  call_pure (by first | rfl | (simp only [List.all_cons, List.all_nil, plain_wz]; rfl)) (by first | rfl | exact plain3_wz _ | (simp only [plain3, List.all_cons, List.all_nil, plain_wz]; rfl)) (Try.call4 _) (BallN_x x y r hn)
set_option maxRecDepth 100000 in
theorem BoxY_x (x y p q : Int) (hw : withinP 4194304 x y) (hr0 : 1 ≤ p ∧ p ≤ 4194304) (hr1 : 1 ≤ q ∧ q ≤ 4194304) (w : World) : Calls Try.prog 6 #[.agg #[.int .i64 x, .int .i64 y], .int .i64 p, .int .i64 q] w fun e w' => e = .returned (.tuple #[.agg #[.int .i64 x, .int .i64 y, .int .i64 (2 * p * p), .int .i64 0, .int .i64 (2 * q * q)], .int .i64 0]) ∧ Below w.heap.size w w' := by
  have k1 := mulB (a := 2 * p) (b := p) (m := 8388608) (n := 4194304) (by omega) (by omega)
  have k2 := mulB (a := 2 * q) (b := q) (m := 8388608) (n := 4194304) (by omega) (by omega)
  have e1 := i64s (2 * p) (by omega) (by omega)
  have e2 := i64s (2 * q) (by omega) (by omega)
  have e3 := i64s (2 * p * p) (by omega) (by omega)
  have e4 := i64s (2 * q * q) (by omega) (by omega)
  refine calls_pure (G := tys) w tysOK mixed Try.func6 (by rfl) (by first | rfl | (simp only [List.all_cons, List.all_nil, plain_wz]; rfl)) (by first | rfl | exact plain3_wz _ | (simp only [plain3, List.all_cons, List.all_nil, plain_wz]; rfl)) ?_
  repeat' (refine N.go ?_; first | with_reducible (first | refine N.obl (by decide) ?_ | refine N.obl (flat_wi _ _ _) ?_ | refine N.obl (flat_lim _ _) ?_ | refine N.eq ?_ | refine N.obl rfl ?_ | refine N.obl ⟨by kernel_rfl, by kernel_rfl⟩ ?_ | refine N.alt ?_ | refine N.forkT ?_ | refine N.forkF ?_ | refine N.call (cMayPoint _ _ _) ?_ | refine N.call (cRad _ _) ?_) | refine N.forkNo (by rw [decide_eq_true (by assumption)]; rfl) ?_ | refine N.forkYes (by rw [decide_eq_false (by assumption)]; rfl) ?_ | refine N.forkYes (decide_eq_true (by assumption)) ?_ | refine N.forkNo (decide_eq_false (by assumption)) ?_)
  all_goals (rw [e1, e2, e3, e4])
theorem cBoxY (x y p q : Int) (h : List (Option Chunk)) (hw : withinP 4194304 x y) (hr0 : 1 ≤ p ∧ p ≤ 4194304) (hr1 : 1 ≤ q ∧ q ≤ 4194304) : CallOK Try.prog 6 [.agg #[.int .i64 x, .int .i64 y], .int .i64 p, .int .i64 q] h (.tuple #[.agg #[.int .i64 x, .int .i64 y, .int .i64 (2 * p * p), .int .i64 0, .int .i64 (2 * q * q)], .int .i64 0]) [] [] :=
  call_pure (by first | rfl | (simp only [List.all_cons, List.all_nil, plain_wz]; rfl)) (by first | rfl | exact plain3_wz _ | (simp only [plain3, List.all_cons, List.all_nil, plain_wz]; rfl)) (Try.call6 _) (BoxY_x x y p q hw hr0 hr1)
set_option maxRecDepth 100000 in
theorem BoxN_x (x y p q : Int) (hn : ¬ (withinP 4194304 x y ∧ (1 ≤ p ∧ p ≤ 4194304) ∧ (1 ≤ q ∧ q ≤ 4194304))) (w : World) : Calls Try.prog 6 #[.agg #[.int .i64 x, .int .i64 y], .int .i64 p, .int .i64 q] w fun e w' => e = .returned (.tuple #[.agg #[.int .i64 0, .int .i64 0, .int .i64 0, .int .i64 0, .int .i64 0], .int .i64 1]) ∧ Below w.heap.size w w' := by
  by_cases hc0 : withinP 4194304 x y
  rotate_left
  · skip
    refine calls_pure (G := tys) w tysOK mixed Try.func6 (by rfl) (by first | rfl | (simp only [List.all_cons, List.all_nil, plain_wz]; rfl)) (by first | rfl | exact plain3_wz _ | (simp only [plain3, List.all_cons, List.all_nil, plain_wz]; rfl)) ?_
    repeat' (refine N.go ?_; first | with_reducible (first | refine N.obl (by decide) ?_ | refine N.obl (flat_wi _ _ _) ?_ | refine N.obl (flat_lim _ _) ?_ | refine N.eq ?_ | refine N.obl rfl ?_ | refine N.obl ⟨by kernel_rfl, by kernel_rfl⟩ ?_ | refine N.alt ?_ | refine N.forkT ?_ | refine N.forkF ?_ | refine N.call (cMayPoint _ _ _) ?_ | refine N.call (cRad _ _) ?_) | refine N.forkNo (by rw [decide_eq_true (by assumption)]; rfl) ?_ | refine N.forkYes (by rw [decide_eq_false (by assumption)]; rfl) ?_ | refine N.forkYes (decide_eq_true (by assumption)) ?_ | refine N.forkNo (decide_eq_false (by assumption)) ?_)
    all_goals rfl
  by_cases hc1 : 1 ≤ p ∧ p ≤ 4194304
  rotate_left
  · skip
    refine calls_pure (G := tys) w tysOK mixed Try.func6 (by rfl) (by first | rfl | (simp only [List.all_cons, List.all_nil, plain_wz]; rfl)) (by first | rfl | exact plain3_wz _ | (simp only [plain3, List.all_cons, List.all_nil, plain_wz]; rfl)) ?_
    repeat' (refine N.go ?_; first | with_reducible (first | refine N.obl (by decide) ?_ | refine N.obl (flat_wi _ _ _) ?_ | refine N.obl (flat_lim _ _) ?_ | refine N.eq ?_ | refine N.obl rfl ?_ | refine N.obl ⟨by kernel_rfl, by kernel_rfl⟩ ?_ | refine N.alt ?_ | refine N.forkT ?_ | refine N.forkF ?_ | refine N.call (cMayPoint _ _ _) ?_ | refine N.call (cRad _ _) ?_) | refine N.forkNo (by rw [decide_eq_true (by assumption)]; rfl) ?_ | refine N.forkYes (by rw [decide_eq_false (by assumption)]; rfl) ?_ | refine N.forkYes (decide_eq_true (by assumption)) ?_ | refine N.forkNo (decide_eq_false (by assumption)) ?_)
    all_goals rfl
  have hc2 : ¬ (1 ≤ q ∧ q ≤ 4194304) := fun h => hn ⟨hc0, hc1, h⟩
  refine calls_pure (G := tys) w tysOK mixed Try.func6 (by rfl) (by first | rfl | (simp only [List.all_cons, List.all_nil, plain_wz]; rfl)) (by first | rfl | exact plain3_wz _ | (simp only [plain3, List.all_cons, List.all_nil, plain_wz]; rfl)) ?_
  repeat' (refine N.go ?_; first | with_reducible (first | refine N.obl (by decide) ?_ | refine N.obl (flat_wi _ _ _) ?_ | refine N.obl (flat_lim _ _) ?_ | refine N.eq ?_ | refine N.obl rfl ?_ | refine N.obl ⟨by kernel_rfl, by kernel_rfl⟩ ?_ | refine N.alt ?_ | refine N.forkT ?_ | refine N.forkF ?_ | refine N.call (cMayPoint _ _ _) ?_ | refine N.call (cRad _ _) ?_) | refine N.forkNo (by rw [decide_eq_true (by assumption)]; rfl) ?_ | refine N.forkYes (by rw [decide_eq_false (by assumption)]; rfl) ?_ | refine N.forkYes (decide_eq_true (by assumption)) ?_ | refine N.forkNo (decide_eq_false (by assumption)) ?_)
  all_goals rfl
theorem cBoxN (x y p q : Int) (h : List (Option Chunk)) (hn : ¬ (withinP 4194304 x y ∧ (1 ≤ p ∧ p ≤ 4194304) ∧ (1 ≤ q ∧ q ≤ 4194304))) : CallOK Try.prog 6 [.agg #[.int .i64 x, .int .i64 y], .int .i64 p, .int .i64 q] h (.tuple #[.agg #[.int .i64 0, .int .i64 0, .int .i64 0, .int .i64 0, .int .i64 0], .int .i64 1]) [] [] :=
  call_pure (by first | rfl | (simp only [List.all_cons, List.all_nil, plain_wz]; rfl)) (by first | rfl | exact plain3_wz _ | (simp only [plain3, List.all_cons, List.all_nil, plain_wz]; rfl)) (Try.call6 _) (BoxN_x x y p q hn)
set_option maxRecDepth 100000 in
theorem cMayPointz (x y x' y' : Int) (h : List (Option Chunk)) (e1 : x' = x) (e2 : y' = y) : CallOK Try.prog 14 [.agg #[.int .i64 x', .int .i64 y']] h (.bool (decide (withinP 4194304 x y))) [] [] := by
  subst e1 e2; exact cMayPoint x' y' h
set_option maxRecDepth 100000 in
theorem ShiftY_x (cx cy a b d x y : Int) (hm : mayP cx cy a b d) (hw : withinP 4194304 x y) (hc : withinP 4194304 (cx + x) (cy + y)) (w : World) : Calls Try.prog 8 #[.agg #[.int .i64 cx, .int .i64 cy, .int .i64 a, .int .i64 b, .int .i64 d], .agg #[.int .i64 x, .int .i64 y]] w fun e w' => e = .returned (.tuple #[.agg #[.int .i64 (cx + x), .int .i64 (cy + y), .int .i64 a, .int .i64 b, .int .i64 d], .int .i64 0]) ∧ Below w.heap.size w w' := by
  obtain ⟨⟨c1, c2⟩, m1, m2, m3⟩ := may_b hm
  have hw1 := hw
  unfold withinP at hw1
  have e1 := i64s (cx + x) (by omega) (by omega)
  have e2 := i64s (cy + y) (by omega) (by omega)
  refine calls_pure (G := tys) w tysOK mixed Try.func8 (by rfl) (by first | rfl | (simp only [List.all_cons, List.all_nil, plain_wz]; rfl)) (by first | rfl | exact plain3_wz _ | (simp only [plain3, List.all_cons, List.all_nil, plain_wz]; rfl)) ?_
  repeat' (refine N.go ?_; first | with_reducible (first | refine N.obl (by decide) ?_ | refine N.obl (flat_wi _ _ _) ?_ | refine N.obl (flat_lim _ _) ?_ | refine N.eq ?_ | refine N.obl rfl ?_ | refine N.obl ⟨by kernel_rfl, by kernel_rfl⟩ ?_ | refine N.alt ?_ | refine N.forkT ?_ | refine N.forkF ?_ | refine N.call (cEMay _ _ _ _ _ _) ?_ | refine N.call (cWithin _ _ _ _ (by decide)) ?_ | refine N.call (cMayPointz (cx + x) (cy + y) _ _ _ e1 e2) ?_) | refine N.forkNo (by rw [decide_eq_true (by assumption)]; rfl) ?_ | refine N.forkYes (by rw [decide_eq_false (by assumption)]; rfl) ?_ | refine N.forkYes (decide_eq_true (by assumption)) ?_ | refine N.forkNo (decide_eq_false (by assumption)) ?_)
  all_goals (rw [e1, e2])
theorem cShiftY (cx cy a b d x y : Int) (h : List (Option Chunk)) (hm : mayP cx cy a b d) (hw : withinP 4194304 x y) (hc : withinP 4194304 (cx + x) (cy + y)) : CallOK Try.prog 8 [.agg #[.int .i64 cx, .int .i64 cy, .int .i64 a, .int .i64 b, .int .i64 d], .agg #[.int .i64 x, .int .i64 y]] h (.tuple #[.agg #[.int .i64 (cx + x), .int .i64 (cy + y), .int .i64 a, .int .i64 b, .int .i64 d], .int .i64 0]) [] [] :=
  call_pure (by first | rfl | (simp only [List.all_cons, List.all_nil, plain_wz]; rfl)) (by first | rfl | exact plain3_wz _ | (simp only [plain3, List.all_cons, List.all_nil, plain_wz]; rfl)) (Try.call8 _) (ShiftY_x cx cy a b d x y hm hw hc)
set_option maxRecDepth 100000 in
theorem ShiftO_x (cx cy a b d x y : Int) (hm : mayP cx cy a b d) (hw : withinP 4194304 x y) (hc : ¬ withinP 4194304 (cx + x) (cy + y)) (w : World) : Calls Try.prog 8 #[.agg #[.int .i64 cx, .int .i64 cy, .int .i64 a, .int .i64 b, .int .i64 d], .agg #[.int .i64 x, .int .i64 y]] w fun e w' => e = .returned (.tuple #[.agg #[.int .i64 0, .int .i64 0, .int .i64 0, .int .i64 0, .int .i64 0], .int .i64 2]) ∧ Below w.heap.size w w' := by
  obtain ⟨⟨c1, c2⟩, m1, m2, m3⟩ := may_b hm
  have hw1 := hw
  unfold withinP at hw1
  have e1 := i64s (cx + x) (by omega) (by omega)
  have e2 := i64s (cy + y) (by omega) (by omega)
  refine calls_pure (G := tys) w tysOK mixed Try.func8 (by rfl) (by first | rfl | (simp only [List.all_cons, List.all_nil, plain_wz]; rfl)) (by first | rfl | exact plain3_wz _ | (simp only [plain3, List.all_cons, List.all_nil, plain_wz]; rfl)) ?_
  repeat' (refine N.go ?_; first | with_reducible (first | refine N.obl (by decide) ?_ | refine N.obl (flat_wi _ _ _) ?_ | refine N.obl (flat_lim _ _) ?_ | refine N.eq ?_ | refine N.obl rfl ?_ | refine N.obl ⟨by kernel_rfl, by kernel_rfl⟩ ?_ | refine N.alt ?_ | refine N.forkT ?_ | refine N.forkF ?_ | refine N.call (cEMay _ _ _ _ _ _) ?_ | refine N.call (cWithin _ _ _ _ (by decide)) ?_ | refine N.call (cMayPointz (cx + x) (cy + y) _ _ _ e1 e2) ?_) | refine N.forkNo (by rw [decide_eq_true (by assumption)]; rfl) ?_ | refine N.forkYes (by rw [decide_eq_false (by assumption)]; rfl) ?_ | refine N.forkYes (decide_eq_true (by assumption)) ?_ | refine N.forkNo (decide_eq_false (by assumption)) ?_)
  all_goals rfl
theorem cShiftO (cx cy a b d x y : Int) (h : List (Option Chunk)) (hm : mayP cx cy a b d) (hw : withinP 4194304 x y) (hc : ¬ withinP 4194304 (cx + x) (cy + y)) : CallOK Try.prog 8 [.agg #[.int .i64 cx, .int .i64 cy, .int .i64 a, .int .i64 b, .int .i64 d], .agg #[.int .i64 x, .int .i64 y]] h (.tuple #[.agg #[.int .i64 0, .int .i64 0, .int .i64 0, .int .i64 0, .int .i64 0], .int .i64 2]) [] [] :=
  call_pure (by first | rfl | (simp only [List.all_cons, List.all_nil, plain_wz]; rfl)) (by first | rfl | exact plain3_wz _ | (simp only [plain3, List.all_cons, List.all_nil, plain_wz]; rfl)) (Try.call8 _) (ShiftO_x cx cy a b d x y hm hw hc)
set_option maxRecDepth 100000 in
theorem ShiftN_x (cx cy a b d x y : Int) (hn : ¬ (mayP cx cy a b d ∧ withinP 4194304 x y)) (w : World) : Calls Try.prog 8 #[.agg #[.int .i64 cx, .int .i64 cy, .int .i64 a, .int .i64 b, .int .i64 d], .agg #[.int .i64 x, .int .i64 y]] w fun e w' => e = .returned (.tuple #[.agg #[.int .i64 0, .int .i64 0, .int .i64 0, .int .i64 0, .int .i64 0], .int .i64 1]) ∧ Below w.heap.size w w' := by
  by_cases hm : mayP cx cy a b d
  · have hw : ¬ withinP 4194304 x y := fun h => hn ⟨hm, h⟩
    refine calls_pure (G := tys) w tysOK mixed Try.func8 (by rfl) (by first | rfl | (simp only [List.all_cons, List.all_nil, plain_wz]; rfl)) (by first | rfl | exact plain3_wz _ | (simp only [plain3, List.all_cons, List.all_nil, plain_wz]; rfl)) ?_
    repeat' (refine N.go ?_; first | with_reducible (first | refine N.obl (by decide) ?_ | refine N.obl (flat_wi _ _ _) ?_ | refine N.obl (flat_lim _ _) ?_ | refine N.eq ?_ | refine N.obl rfl ?_ | refine N.obl ⟨by kernel_rfl, by kernel_rfl⟩ ?_ | refine N.alt ?_ | refine N.forkT ?_ | refine N.forkF ?_ | refine N.call (cEMay _ _ _ _ _ _) ?_ | refine N.call (cWithin _ _ _ _ (by decide)) ?_) | refine N.forkNo (by rw [decide_eq_true (by assumption)]; rfl) ?_ | refine N.forkYes (by rw [decide_eq_false (by assumption)]; rfl) ?_ | refine N.forkYes (decide_eq_true (by assumption)) ?_ | refine N.forkNo (decide_eq_false (by assumption)) ?_)
    all_goals rfl
  · skip
    refine calls_pure (G := tys) w tysOK mixed Try.func8 (by rfl) (by first | rfl | (simp only [List.all_cons, List.all_nil, plain_wz]; rfl)) (by first | rfl | exact plain3_wz _ | (simp only [plain3, List.all_cons, List.all_nil, plain_wz]; rfl)) ?_
    repeat' (refine N.go ?_; first | with_reducible (first | refine N.obl (by decide) ?_ | refine N.obl (flat_wi _ _ _) ?_ | refine N.obl (flat_lim _ _) ?_ | refine N.eq ?_ | refine N.obl rfl ?_ | refine N.obl ⟨by kernel_rfl, by kernel_rfl⟩ ?_ | refine N.alt ?_ | refine N.forkT ?_ | refine N.forkF ?_ | refine N.call (cEMay _ _ _ _ _ _) ?_ | refine N.call (cWithin _ _ _ _ (by decide)) ?_) | refine N.forkNo (by rw [decide_eq_true (by assumption)]; rfl) ?_ | refine N.forkYes (by rw [decide_eq_false (by assumption)]; rfl) ?_ | refine N.forkYes (decide_eq_true (by assumption)) ?_ | refine N.forkNo (decide_eq_false (by assumption)) ?_)
    all_goals rfl
theorem cShiftN (cx cy a b d x y : Int) (h : List (Option Chunk)) (hn : ¬ (mayP cx cy a b d ∧ withinP 4194304 x y)) : CallOK Try.prog 8 [.agg #[.int .i64 cx, .int .i64 cy, .int .i64 a, .int .i64 b, .int .i64 d], .agg #[.int .i64 x, .int .i64 y]] h (.tuple #[.agg #[.int .i64 0, .int .i64 0, .int .i64 0, .int .i64 0, .int .i64 0], .int .i64 1]) [] [] :=
  call_pure (by first | rfl | (simp only [List.all_cons, List.all_nil, plain_wz]; rfl)) (by first | rfl | exact plain3_wz _ | (simp only [plain3, List.all_cons, List.all_nil, plain_wz]; rfl)) (Try.call8 _) (ShiftN_x cx cy a b d x y hn)
set_option maxRecDepth 100000 in
theorem cInD (cx cy a b d x y : Int) (v : Bool) (h : List (Option Chunk)) (hv : decide (inP cx cy a b d x y) = v) : CallOK Try.prog 18 [.agg #[.int .i64 cx, .int .i64 cy, .int .i64 a, .int .i64 b, .int .i64 d], .agg #[.int .i64 x, .int .i64 y]] h (.bool v) [] [] := by
  rw [← hv]; exact cIn4 cx cy a b d x y h
set_option maxRecDepth 100000 in
theorem awake4_x   (w : World) : Calls Try.prog 24 #[] w fun e w' => e = .returned (.bool true) ∧ Below w.heap.size w w' := by
  refine calls_pure (G := tys) w tysOK mixed Try.func24 (by rfl) (by first | rfl | (simp only [List.all_cons, List.all_nil, plain_wz, plain_lim, plain_wi]; rfl)) (by first | exact plain3_wz _ | exact plain3_wi _ _ _ | rfl | (simp only [plain3, List.all_cons, List.all_nil, plain_wz, plain_lim, plain_wi]; rfl)) ?_
  repeat' (refine N.go ?_; first | with_reducible (first | refine N.obl (by decide) ?_ | refine N.obl (flat_wi _ _ _) ?_ | refine N.obl (flat_lim _ _) ?_ | refine N.eq ?_ | refine N.obl rfl ?_ | refine N.obl ⟨by kernel_rfl, by kernel_rfl⟩ ?_ | refine N.alt ?_ | refine N.forkT ?_ | refine N.forkF ?_ | refine N.call (cBallY 0 0 5 _ (by decide) (by decide)) ?_ | refine N.call (cBallY 0 0 4 _ (by decide) (by decide)) ?_ | refine N.call (cInD 0 0 (5 * 5) 0 (5 * 5) 3 4 true _ (by decide)) ?_ | refine N.call (cInD 0 0 (4 * 4) 0 (4 * 4) 3 4 false _ (by decide)) ?_) | refine N.forkNo (by decide) ?_ | refine N.forkYes (by decide) ?_)
  all_goals rfl
theorem cAwake4 (h : List (Option Chunk)) : CallOK Try.prog 24 [] h (.bool true) [] [] :=
  call_pure rfl rfl (Try.call24 _) (awake4_x)
end Go.Proofs.Ytchfbblpflcniaa
