/-
  The walk of divide, by a divisor of one digit.
-/
import Derived.Test.YtkjeebabcdnjkaaWide6
import Derived.Deep.RegionHeld3
set_option linter.unusedVariables false
namespace Go.Proofs.Ytkjeebabcdnjkaa
open Go.RowKit

theorem div64_lo (lo y : Nat) (hlo : lo < 18446744073709551616) (hy0 : 0 < y) (hy : y < 18446744073709551616) (w : World) :
    Calls Try.prog 55 #[.int .u64 0, .int .u64 lo, .int .u64 y] w fun e w' => e = .returned (.tuple #[.int .u64 (lo / y : Nat), .int .u64 (lo % y : Nat)]) ∧ Below w.heap.size w w' := by
  have hB : Below w.heap.size w w := Below.refl _ _
  have h1 : ((y : Int) == 0) = false := by simp; omega
  have h2 : ¬ (y : Int) ≤ 0 := by omega
  have h3 : (lo : Int).tdiv y = ((lo / y : Nat) : Int) := rfl
  have h4 : (lo : Int).tmod y = ((lo % y : Nat) : Int) := rfl
  have h5 : lo / y < 18446744073709551616 := Nat.lt_of_le_of_lt (Nat.div_le_self _ _) hlo
  have h6 : lo % y < 18446744073709551616 := Nat.lt_of_le_of_lt (Nat.mod_le _ _) hlo
  go_enter Try.func55, Try.ntmps55
  go_wp2_with fail
  go_region
  go_wp2_with fail
  have e1 : IntKind.u64.wrap ((lo : Int) / (y : Int)) = ((lo / y : Nat) : Int) := by
    rw [show (lo : Int) / (y : Int) = ((lo / y : Nat) : Int) from rfl, IntKind.wrap_u64]
    generalize lo / y = q at *
    omega
  have e2 : (lo : Int) % (y : Int) = ((lo % y : Nat) : Int) := rfl
  exact bodyPost_ret (v := .tuple #[.int .u64 (lo / y : Nat), .int .u64 (lo % y : Nat)]) (by simp [results, Try.results55, e1]) rfl ⟨rfl, hB.drew⟩

/-- The digits of a quotient, as far as they are reckoned (from the top). -/
def dvTo (a b n : Nat) : Nat → Nat := fun j => if n ≤ j then dg (a / b) j else 0
theorem dvTo_step (a b n j : Nat) (h : j ≠ n) : dvTo a b (n + 1) j = dvTo a b n j := by
  unfold dvTo; by_cases hj : n ≤ j <;> simp [hj, show n + 1 ≤ j ↔ n < j from Iff.rfl] <;> omega
theorem dvTo_at (a b n : Nat) : dvTo a b n n = dg (a / b) n := by unfold dvTo; rw [if_pos (Nat.le_refl _)]

/-- What is left of a division, behind so many digits. -/
def rm (a b i : Nat) : Nat := a / Bs ^ i % b
theorem cm_neg (a b : Nat) : cm a b < 0 ↔ a < b := by unfold cm; split <;> (try split) <;> omega
theorem nd_one (b : Nat) (h0 : 0 < b) (h : b < 18446744073709551616) : nd b = 1 := by
  have key : ∀ n, ndTo b (n + 1) = 1 := by
    intro n
    induction n with
    | zero =>
      rw [ndTo]
      rw [if_neg (by rw [dg_small b h]; simp; omega)]
    | succ n ih => rw [ndTo, if_pos (by rw [dg_small b h]; simp), ih]
  exact key 15

set_option maxRecDepth 100000 in
set_option maxHeartbeats 1000000 in
theorem divide_one (a b : Nat) (ha : a < Bs ^ 16) (hb0 : 0 < b) (hb : b < 18446744073709551616)
    (H : ∀ (i : Nat) (w : World), i < nd a → Calls Try.prog 55 #[.int .u64 (rm a b (i + 1) : Nat), .int .u64 (dg a i : Nat), .int .u64 (b : Nat)] w fun e w' =>
      e = .returned (.tuple #[.int .u64 (dg (a / b) i : Nat), .int .u64 (rm a b i : Nat)]) ∧ Below w.heap.size w w') (w : World) :
    Calls Try.prog 47 #[.agg (sz a), .agg (sz b)] w fun e w' => e = .returned (.tuple #[.agg (sz (a / b)), .agg (sz (a % b))]) ∧ Below w.heap.size w w' := by
  have hb16 : b < Bs ^ 16 := Nat.lt_of_lt_of_le hb (Nat.le_self_pow (by decide) Bs)
  have hB : Below w.heap.size w w := Below.refl _ _
  go_enter Try.func47, Try.ntmps47
  go_wp2_with fail
  have r0 : IsRow ((((((w.alloc (.cells (sz a) 52)).alloc (.cells (sz b) 52)).alloc (.cells (sz 0) 52)).alloc (.cells (sz 0) 52)).alloc (.cells (sz 0) 52)).alloc (.cells (sz 0) 52)) w.heap.size 52 (sz a) := (((((IsRow.new w (sz a) 52).alloc (.cells (sz b) 52)).alloc (.cells (sz 0) 52)).alloc (.cells (sz 0) 52)).alloc (.cells (sz 0) 52)).alloc (.cells (sz 0) 52)
  have r1 : IsRow ((((((w.alloc (.cells (sz a) 52)).alloc (.cells (sz b) 52)).alloc (.cells (sz 0) 52)).alloc (.cells (sz 0) 52)).alloc (.cells (sz 0) 52)).alloc (.cells (sz 0) 52)) (w.heap.size + 1) 52 (sz b) := by
    have h := ((((IsRow.new (w.alloc (.cells (sz a) 52)) (sz b) 52).alloc (.cells (sz 0) 52)).alloc (.cells (sz 0) 52)).alloc (.cells (sz 0) 52)).alloc (.cells (sz 0) 52)
    rw [show (w.alloc (.cells (sz a) 52)).heap.size = w.heap.size + 1 from by simp] at h
    exact h
  have r2 : IsRow ((((((w.alloc (.cells (sz a) 52)).alloc (.cells (sz b) 52)).alloc (.cells (sz 0) 52)).alloc (.cells (sz 0) 52)).alloc (.cells (sz 0) 52)).alloc (.cells (sz 0) 52)) (w.heap.size + 1 + 1) 52 (sz 0) := by
    have h := (((IsRow.new ((w.alloc (.cells (sz a) 52)).alloc (.cells (sz b) 52)) (sz 0) 52).alloc (.cells (sz 0) 52)).alloc (.cells (sz 0) 52)).alloc (.cells (sz 0) 52)
    rw [show ((w.alloc (.cells (sz a) 52)).alloc (.cells (sz b) 52)).heap.size = w.heap.size + 1 + 1 from by simp] at h
    exact h
  have r3 : IsRow ((((((w.alloc (.cells (sz a) 52)).alloc (.cells (sz b) 52)).alloc (.cells (sz 0) 52)).alloc (.cells (sz 0) 52)).alloc (.cells (sz 0) 52)).alloc (.cells (sz 0) 52)) (w.heap.size + 1 + 1 + 1) 52 (sz 0) := by
    have h := ((IsRow.new (((w.alloc (.cells (sz a) 52)).alloc (.cells (sz b) 52)).alloc (.cells (sz 0) 52)) (sz 0) 52).alloc (.cells (sz 0) 52)).alloc (.cells (sz 0) 52)
    rw [show (((w.alloc (.cells (sz a) 52)).alloc (.cells (sz b) 52)).alloc (.cells (sz 0) 52)).heap.size = w.heap.size + 1 + 1 + 1 from by simp] at h
    exact h
  have r4 : IsRow ((((((w.alloc (.cells (sz a) 52)).alloc (.cells (sz b) 52)).alloc (.cells (sz 0) 52)).alloc (.cells (sz 0) 52)).alloc (.cells (sz 0) 52)).alloc (.cells (sz 0) 52)) (w.heap.size + 1 + 1 + 1 + 1) 52 (sz 0) := by
    have h := (IsRow.new ((((w.alloc (.cells (sz a) 52)).alloc (.cells (sz b) 52)).alloc (.cells (sz 0) 52)).alloc (.cells (sz 0) 52)) (sz 0) 52).alloc (.cells (sz 0) 52)
    rw [show ((((w.alloc (.cells (sz a) 52)).alloc (.cells (sz b) 52)).alloc (.cells (sz 0) 52)).alloc (.cells (sz 0) 52)).heap.size = w.heap.size + 1 + 1 + 1 + 1 from by simp] at h
    exact h
  have hB0 : Below w.heap.size w ((((((w.alloc (.cells (sz a) 52)).alloc (.cells (sz b) 52)).alloc (.cells (sz 0) 52)).alloc (.cells (sz 0) 52)).alloc (.cells (sz 0) 52)).alloc (.cells (sz 0) 52)) := by
    repeat (first | with_reducible exact hB | with_reducible refine Below.alloc ?_ (by first | (simp; done) | (simp; omega) | omega) _)
  have hsz0 : ((((((w.alloc (.cells (sz a) 52)).alloc (.cells (sz b) 52)).alloc (.cells (sz 0) 52)).alloc (.cells (sz 0) 52)).alloc (.cells (sz 0) 52)).alloc (.cells (sz 0) 52)).heap.size = w.heap.size + 6 := by simp
  rw [← sz_zero]
  generalize ((((((w.alloc (.cells (sz a) 52)).alloc (.cells (sz b) 52)).alloc (.cells (sz 0) 52)).alloc (.cells (sz 0) 52)).alloc (.cells (sz 0) 52)).alloc (.cells (sz 0) 52)) = W at r0 r1 r2 r3 r4 hB0 hsz0 ⊢
  refine (cmp_any w.heap.size 0 a (w.heap.size + 1) 0 b W (Digs.of_sz r0) (Digs.of_sz r1) ha hb16).mono ?_
  rintro e w1 ⟨rfl, hb1, hs1⟩
  have l0 := r0.below hb1 r0.lt
  have l1 := r1.below hb1 r1.lt
  have l2 := r2.below hb1 r2.lt
  have l3 := r3.below hb1 r3.lt
  have l4 := r4.below hb1 r4.lt
  have hB1 : Below w.heap.size w w1 := hB0.trans (hb1.mono (by omega))
  have hz1 : w1.heap.size = w.heap.size + 6 := by omega
  clear r0 r1 r2 r3 r4 hb1 hB0 hs1 hsz0 hB
  by_cases hab : a < b
  · have hc : cm a b = -1 := by unfold cm; rw [if_pos hab]
    rw [hc]
    clear hc
    go_wp2_with fail
    refine wp_region_any (by kernel_rfl) ?_
    change wpAny _ _ _ _ _ _ _ (World.drew _)
    refine wpAny_ready (rs := [0, 1]) (by kernel_rfl) (by simp) ?_
    refine AllReady.cons rfl (fun K hK => ?_) (AllReady.cons rfl (fun K hK => ?_) AllReady.nil)
    · refine step_load_row rfl 52 _ rfl (w.heap.size + 1 + 1 + 1 + 1) rfl _ (sz 0) _ _ (l4.drew) Try.underlying52 rfl (by rw [sz_size]; kernel_rfl) ?_; refine hK _ _ ?_; clear hK K
      refine wpAny_ready (rs := [1, 2]) (by kernel_rfl) (by simp) ?_
      refine AllReady.cons rfl (fun K hK => ?_) (AllReady.cons rfl (fun K hK => ?_) AllReady.nil)
      · refine step_load_row rfl 52 _ rfl (w.heap.size) rfl _ (sz a) _ _ (l0.drew) Try.underlying52 rfl (by rw [sz_size]; kernel_rfl) ?_; refine hK _ _ ?_; clear hK K
        refine wpAny_ready (rs := [2]) (by kernel_rfl) (by simp) ?_
        refine AllReady.cons rfl (fun K hK => ?_) AllReady.nil
        refine step_store_row rfl 52 _ _ rfl (w.heap.size + 1 + 1) (sz 0) rfl rfl _ _ (l2.drew) (by rw [sz_size]; kernel_rfl) (by simp) (sz_one _) ?_; refine hK _ _ ?_; clear hK K
        refine wpAny_ready (rs := [3]) (by kernel_rfl) (by simp) ?_
        refine AllReady.cons rfl (fun K hK => ?_) AllReady.nil
        refine step_store_row rfl 52 _ _ rfl (w.heap.size + 1 + 1 + 1) (sz a) rfl rfl _ _ (l3.drew.rowOther (w.heap.size + 1 + 1) (sz 0) (by omega)) (by rw [sz_size]; kernel_rfl) (by simp) (sz_one _) ?_; refine hK _ _ ?_; clear hK K
        refine wpAny_done (by kernel_rfl) ?_ _
        go_wp2_with fail
        have m2 := (l2.drew.row (sz 0)).rowOther (w.heap.size + 1 + 1 + 1) (sz a) (by omega)
        have m3 := (l3.drew.rowOther (w.heap.size + 1 + 1) (sz 0) (by omega)).row (sz a)
        have h2 := run_loadVar_row (P := Try.prog) _ _ _ 52 _ _ _ m2 Try.underlying52 rfl (by rw [sz_size]; kernel_rfl)
        have h3 := run_loadVar_row (P := Try.prog) _ _ _ 52 _ _ _ m3 Try.underlying52 rfl (by rw [sz_size]; kernel_rfl)
        exact bodyPost_ret (results_cell2 Try.results47 _ _ _ _ _ _ rfl rfl h2 h3) rfl ⟨by rw [Nat.div_eq_of_lt hab, Nat.mod_eq_of_lt hab], below_setRow (below_setRow hB1.drew (by omega) _) (by omega) _⟩
      · refine step_store_row rfl 52 _ _ rfl (w.heap.size + 1 + 1) (sz 0) rfl rfl _ _ (l2.drew) (by rw [sz_size]; kernel_rfl) (by simp) (sz_one _) ?_; refine hK _ _ ?_; clear hK K
        refine wpAny_ready (rs := [1]) (by kernel_rfl) (by simp) ?_
        refine AllReady.cons rfl (fun K hK => ?_) AllReady.nil
        refine step_load_row rfl 52 _ rfl (w.heap.size) rfl _ (sz a) _ _ (l0.drew.rowOther (w.heap.size + 1 + 1) (sz 0) (by omega)) Try.underlying52 rfl (by rw [sz_size]; kernel_rfl) ?_; refine hK _ _ ?_; clear hK K
        refine wpAny_ready (rs := [3]) (by kernel_rfl) (by simp) ?_
        refine AllReady.cons rfl (fun K hK => ?_) AllReady.nil
        refine step_store_row rfl 52 _ _ rfl (w.heap.size + 1 + 1 + 1) (sz a) rfl rfl _ _ (l3.drew.rowOther (w.heap.size + 1 + 1) (sz 0) (by omega)) (by rw [sz_size]; kernel_rfl) (by simp) (sz_one _) ?_; refine hK _ _ ?_; clear hK K
        refine wpAny_done (by kernel_rfl) ?_ _
        go_wp2_with fail
        have m2 := (l2.drew.row (sz 0)).rowOther (w.heap.size + 1 + 1 + 1) (sz a) (by omega)
        have m3 := (l3.drew.rowOther (w.heap.size + 1 + 1) (sz 0) (by omega)).row (sz a)
        have h2 := run_loadVar_row (P := Try.prog) _ _ _ 52 _ _ _ m2 Try.underlying52 rfl (by rw [sz_size]; kernel_rfl)
        have h3 := run_loadVar_row (P := Try.prog) _ _ _ 52 _ _ _ m3 Try.underlying52 rfl (by rw [sz_size]; kernel_rfl)
        exact bodyPost_ret (results_cell2 Try.results47 _ _ _ _ _ _ rfl rfl h2 h3) rfl ⟨by rw [Nat.div_eq_of_lt hab, Nat.mod_eq_of_lt hab], below_setRow (below_setRow hB1.drew (by omega) _) (by omega) _⟩
    · refine step_load_row rfl 52 _ rfl (w.heap.size) rfl _ (sz a) _ _ (l0.drew) Try.underlying52 rfl (by rw [sz_size]; kernel_rfl) ?_; refine hK _ _ ?_; clear hK K
      refine wpAny_ready (rs := [0]) (by kernel_rfl) (by simp) ?_
      refine AllReady.cons rfl (fun K hK => ?_) AllReady.nil
      refine step_load_row rfl 52 _ rfl (w.heap.size + 1 + 1 + 1 + 1) rfl _ (sz 0) _ _ (l4.drew) Try.underlying52 rfl (by rw [sz_size]; kernel_rfl) ?_; refine hK _ _ ?_; clear hK K
      refine wpAny_ready (rs := [2]) (by kernel_rfl) (by simp) ?_
      refine AllReady.cons rfl (fun K hK => ?_) AllReady.nil
      refine step_store_row rfl 52 _ _ rfl (w.heap.size + 1 + 1) (sz 0) rfl rfl _ _ (l2.drew) (by rw [sz_size]; kernel_rfl) (by simp) (sz_one _) ?_; refine hK _ _ ?_; clear hK K
      refine wpAny_ready (rs := [3]) (by kernel_rfl) (by simp) ?_
      refine AllReady.cons rfl (fun K hK => ?_) AllReady.nil
      refine step_store_row rfl 52 _ _ rfl (w.heap.size + 1 + 1 + 1) (sz a) rfl rfl _ _ (l3.drew.rowOther (w.heap.size + 1 + 1) (sz 0) (by omega)) (by rw [sz_size]; kernel_rfl) (by simp) (sz_one _) ?_; refine hK _ _ ?_; clear hK K
      refine wpAny_done (by kernel_rfl) ?_ _
      go_wp2_with fail
      have m2 := (l2.drew.row (sz 0)).rowOther (w.heap.size + 1 + 1 + 1) (sz a) (by omega)
      have m3 := (l3.drew.rowOther (w.heap.size + 1 + 1) (sz 0) (by omega)).row (sz a)
      have h2 := run_loadVar_row (P := Try.prog) _ _ _ 52 _ _ _ m2 Try.underlying52 rfl (by rw [sz_size]; kernel_rfl)
      have h3 := run_loadVar_row (P := Try.prog) _ _ _ 52 _ _ _ m3 Try.underlying52 rfl (by rw [sz_size]; kernel_rfl)
      exact bodyPost_ret (results_cell2 Try.results47 _ _ _ _ _ _ rfl rfl h2 h3) rfl ⟨by rw [Nat.div_eq_of_lt hab, Nat.mod_eq_of_lt hab], below_setRow (below_setRow hB1.drew (by omega) _) (by omega) _⟩
  · have hc : decide (cm a b < 0) = false := decide_eq_false (by rw [cm_neg]; exact hab)
    have hn1 := nd_one b hb0 hb
    go_wp2_with fail
    refine (parts_any w.heap.size 0 a _ (Digs.of_sz l0)).mono ?_
    rintro e w' ⟨rfl, rfl⟩
    go_wp2_with fail
    refine (parts_any (w.heap.size + 1) 0 b _ (Digs.of_sz l1)).mono ?_
    rintro e w' ⟨rfl, rfl⟩
    rw [hn1]
    have hna := nd_le a
    have hlt := ndTo_lt a 16 ha
    rw [show ndTo a 16 = nd a from rfl] at hlt
    go_wp2_with fail
    go_loopw [10, 11] (fun l i wr => ∃ n : Nat, n ≤ nd a ∧ i = .int .i64 (n - 1) ∧ l = .int .u64 (rm a b n : Nat) ∧ IsRow wr w.heap.size 52 (sz a) ∧ IsRow wr (w.heap.size + 1) 52 (sz b) ∧ IsRow wr (w.heap.size + 1 + 1) 52 (sz 0) ∧ IsRow wr (w.heap.size + 1 + 1 + 1) 52 (sz 0) ∧ IsRow wr (w.heap.size + 1 + 1 + 1 + 1) 52 (lim 16 (dvTo a b n)) ∧ Below w.heap.size w wr) (fun _ i _ => (intOf i + 1).toNat)
    case atStart =>
      refine ⟨nd a, Nat.le_refl _, rfl, by unfold rm; rw [Nat.div_eq_of_lt hlt, Nat.zero_mod]; rfl, l0, l1, l2, l3, ?_, hB1⟩
      rw [lim_same 16 (dvTo a b (nd a)) (dg 0) (fun j hj => by
        rw [dg_zero]; unfold dvTo
        split
        · exact dg_big _ _ (Nat.lt_of_le_of_lt (Nat.div_le_self _ _) (Nat.lt_of_lt_of_le hlt (Nat.pow_le_pow_right bs_pos (by omega))))
        · rfl)]
      exact l4
    case round =>
      clear l0 l1 l2 l3 l4 hB1 hz1
      obtain ⟨n, hn, rfl, rfl, l0, l1, l2, l3, l4, hB1⟩ := hrel
      match n, hn with
      | 0, hn =>
        rw [lim_same 16 (dvTo a b 0) (dg (a / b)) (fun j hj => by unfold dvTo; rw [if_pos (by omega)])] at l4
        have l4' : IsRow wr (w.heap.size + 1 + 1 + 1 + 1) 52 (sz (a / b)) := l4
        clear l4
        have hrm : rm a b 0 = a % b := by unfold rm; rw [Nat.pow_zero, Nat.div_one]
        have hbm : a % b < 18446744073709551616 := Nat.lt_trans (Nat.mod_lt a hb0) hb
        have hbt : Try.prog.built 52 [(0, .int .u64 ((rm a b 0 : Nat) : Int))] = some (sz (a % b)) := by rw [hrm]; exact built_sz (a % b) hbm
        clear hrm
        go_wp2_with (first | (refine isLoadL (ty := 52) rfl ?_; refine wpList_load_row ?_ 52 _ rfl (w.heap.size + 1 + 1 + 1 + 1) rfl _ (sz (a / b)) _ _ (l4') Try.underlying52 rfl (by rw [sz_size]; kernel_rfl) ?_; (focus rfl)) | (refine isBuildL (ty := 52) rfl ?_; refine wpList_build1 ?_ 52 0 _ rfl (.int .u64 ((rm a b 0 : Nat) : Int)) rfl (sz (a % b)) (hbt) ?_; (focus rfl)) | (refine isStoreL (ty := 52) rfl ?_; refine wpList_store_row ?_ 52 _ _ rfl (w.heap.size + 1 + 1) (sz (a / b)) rfl rfl _ (_) (l2) (by rw [sz_size]; kernel_rfl) (by simp) (sz_one _) ?_; (focus rfl)) | (refine isStoreL (ty := 52) rfl ?_; refine wpList_store_row ?_ 52 _ _ rfl (w.heap.size + 1 + 1 + 1) (sz (a % b)) rfl rfl _ (_) (l3.rowOther (w.heap.size + 1 + 1) (sz (a / b)) (by omega)) (by rw [sz_size]; kernel_rfl) (by simp) (sz_one _) ?_; (focus rfl)) | fail)
        have m2 := (l2.row (sz (a / b))).rowOther (w.heap.size + 1 + 1 + 1) (sz (a % b)) (by omega)
        have m3 := (l3.rowOther (w.heap.size + 1 + 1) (sz (a / b)) (by omega)).row (sz (a % b))
        have h2 := run_loadVar_row (P := Try.prog) _ _ _ 52 _ _ _ m2 Try.underlying52 rfl (by rw [sz_size]; kernel_rfl)
        have h3 := run_loadVar_row (P := Try.prog) _ _ _ 52 _ _ _ m3 Try.underlying52 rfl (by rw [sz_size]; kernel_rfl)
        exact bodyPost_ret (results_cell2 Try.results47 _ _ _ _ _ _ rfl rfl h2 h3) rfl ⟨rfl, below_setRow (below_setRow hB1 (by omega) _) (by omega) _⟩
      | n + 1, hn =>
        have e1 : ((n + 1 : Nat) : Int) - 1 = n := by omega
        rw [e1]
        have i0 : (0 : Int) ≤ (n : Int) := by omega
        have i1 : (n : Int) < 16 := by omega
        have i2 : (n : Int) ≤ 16 := by omega
        have i3 : (n : Int).toNat = n := by omega
        have c0 := l0.cell (sz_get a n (by omega))
        have c1 := l1.cell (sz_get b 0 (by omega))
        rw [show dg b 0 = b from by rw [dg_small b hb]; rfl] at c1
        have c4 := l4.cell (lim_get 16 (dvTo a b (n + 1)) n (by omega))
        have f4 := l4.frozen n
        have hz := hB1.size
        go_wp2_with fail
        go_region_held3 (fun w' => w'.cell? ⟨w.heap.size, n, none⟩ = some (.int .u64 (dg a n : Nat)) ∧ w'.cell? ⟨w.heap.size + 1, 0, none⟩ = some (.int .u64 (b : Nat))) (first | exact ⟨c0, c1⟩ | exact ⟨k0, k1⟩ | (refine ⟨?_, ?_⟩ <;> (repeat (first | with_reducible assumption | with_reducible refine cell_drew_keep ?_ | with_reducible refine cell_alloc_keep ?_ | with_reducible refine cell_set_same ?_ | with_reducible refine cell_set_keep ?_ (by first | (simp only [ne_eq, Addr.mk.injEq, and_true]; omega) | (simp; done) | (simp; omega)))); done) | (go_keep; done))
          (first | (go_at_call 55; refine (H n _ (by omega)).mono ?_; rintro e w1 ⟨rfl, hbw⟩; have m0 := l0.drew.below hbw l0.lt; have m1 := l1.drew.below hbw l1.lt; have m2 := l2.drew.below hbw l2.lt; have m3 := l3.drew.below hbw l3.lt; have m4 := l4.drew.below hbw l4.lt; have hB := hB1.drew.trans (hbw.mono hz); have k0 := m0.cell (sz_get a n (by omega)); have k1 := m1.cell (show (sz b)[0]? = some (.int .u64 (b : Nat)) from by rw [sz_get b 0 (by omega), dg_small b hb]; rfl); have k4 := m4.cell (lim_get 16 (dvTo a b (n + 1)) n (by omega)); have kf := m4.frozen n))
        all_goals
          go_wp2_with fail
          go_roundw
        all_goals first
          | (case measure => simp [intOf])
          | (case rel =>
              refine ⟨n, by omega, rfl, rfl, m0.setOther _ _ (by show w.heap.size + 1 + 1 + 1 + 1 ≠ _; omega), m1.setOther _ _ (by show w.heap.size + 1 + 1 + 1 + 1 ≠ _; omega), m2.setOther _ _ (by show w.heap.size + 1 + 1 + 1 + 1 ≠ _; omega), m3.setOther _ _ (by show w.heap.size + 1 + 1 + 1 + 1 ≠ _; omega), ?_, hB.setCell (by show w.heap.size ≤ w.heap.size + 1 + 1 + 1 + 1; omega) _⟩
              have hs := m4.set n (.int .u64 (dg (a / b) n : Nat))
              rw [lim_set 16 (dvTo a b (n + 1)) (dvTo a b n) n _ (by omega) (by rw [dvTo_at]) (fun j _ hj => dvTo_step a b n j hj)] at hs
              exact hs)
end Go.Proofs.Ytkjeebabcdnjkaa
