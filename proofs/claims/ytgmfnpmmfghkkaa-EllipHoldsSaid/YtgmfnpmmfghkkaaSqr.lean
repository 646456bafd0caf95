/-
  The walks of wide's Sqrt, Cmp, and of root's WideUp, Up.
-/
import Derived.Test.YtgmfnpmmfghkkaaSqz
import Derived.Test.YtgmfnpmmfghkkaaArg
set_option linter.unusedVariables false
set_option linter.unusedSimpArgs false
namespace Go.Proofs.Ytgmfnpmmfghkkaa
open Go Go.RowKit Sx

theorem limL_lit (n : Nat) (f : Nat → Nat) : (limL n f).all lit1 = true := by simp [limL, lit1]
theorem wiL_lit (n o : Bool) (v : Nat) : (wiL n o v).all lit1 = true := by simp [wiL, limL_lit, lit1]
theorem cUpz (i f v k : Nat) (kk : Int) (h : List (Option Chunk)) (h1 : Has h i f v) (hk : k < 64) (e : kk = (k : Nat)) : CallOK Try.prog 70 [.pointer (some ⟨i, f, some 0⟩), .int .i64 kk] h (.agg ⟨limL 16 (dg (v * 2 ^ k))⟩) [] [i] := by
  subst e; exact cUp i f v k h h1 hk
theorem p125 : (2 : Nat) ^ 125 = 42535295865117307932921825928971026432 := by decide
theorem p126 : (2 : Nat) ^ 126 = 85070591730234615865843651857942052864 := by decide
theorem p127 : (2 : Nat) ^ 127 = 170141183460469231731687303715884105728 := by decide
theorem natTop7 {n : Nat} (h : n < 2 ^ 127) : n < Top := Nat.lt_trans h (Nat.pow_lt_pow_right (a := 2) (by decide) (by decide : 127 < TopBits))
theorem natTop {n : Nat} (h : n < 2 ^ 126) : n < Top := natTop7 (by have := p126; have := p127; omega)
theorem isq_small (v : Nat) (hv : v < 2 ^ 126) : isq v < 9223372036854775808 := isq_below (n := 9223372036854775808) (by have := p126; omega)
set_option maxRecDepth 100000 in
set_option maxHeartbeats 1000000 in
theorem sqrt_z (v : Nat) (hv : v < 2 ^ 126) (w : World) : Calls Try.prog 55 #[.agg ⟨wiL false false v⟩] w fun e w' => e = .returned (.tuple #[.agg ⟨wiL false false (isq v)⟩, .int .i64 0]) ∧ Below w.heap.size w w' := by
  have hv16 : v < Bs ^ 16 := Nat.lt_trans (natTop hv) top_lt
  have hbl : bl v ≤ 126 := bl_small v 126 hv16 hv
  have hq := isq_small v hv
  have htop : ∀ x : Nat, x < 18446744073709551616 → x < Top := fun x hx => natTop (by have := p126; omega)
  refine calls_pure (G := tys) w tysOK mixed Try.func55 (by rfl) (by simp [plain_wi]) (by simp [plain3, plain_wi]; rfl) ?_
  by_cases h0 : v = 0
  · subst h0
    repeat' (refine N.go ?_; first | with_reducible refine N.obl (by decide) ?_ | with_reducible refine N.obl (flat_wi _ _ _) ?_ | with_reducible refine N.obl (flat_lim _ _) ?_ | with_reducible refine N.eq ?_ | with_reducible refine N.obl rfl ?_ | with_reducible refine N.obl ⟨by kernel_rfl, by kernel_rfl⟩ ?_ | with_reducible refine N.forkT ?_ | with_reducible refine N.forkF ?_ | with_reducible refine N.bin _ (eq_size0 _ _ _ _ hv16 false rfl) ?_ | refine N.forkNo (by decide) ?_ | refine N.forkYes (by decide) ?_)
    all_goals (rw [show isq 0 = 0 from by decide])
  · have hk : (bl v + 1) / 2 < 64 := by omega
    have hkk : IntKind.i64.wrap ((IntKind.i64.wrap (((bl v : Nat) : Int) + 1)).tdiv 2) = (((bl v + 1) / 2 : Nat) : Int) := by
      rw [IntWalk.i64_in (((bl v : Nat) : Int) + 1) (by omega), Int.tdiv_eq_ediv_of_nonneg (by omega), IntWalk.i64_in _ (by omega)]; omega
    have hst := newton_start v hv16
    have hqp := isq_pos (v := v) (by omega)
    repeat' (refine N.go ?_; first | with_reducible refine N.obl (by decide) ?_ | with_reducible refine N.obl (flat_wi _ _ _) ?_ | with_reducible refine N.obl (flat_lim _ _) ?_ | with_reducible refine N.eq ?_ | with_reducible refine N.obl rfl ?_ | with_reducible refine N.obl ⟨by kernel_rfl, by kernel_rfl⟩ ?_ | with_reducible refine N.forkT ?_ | with_reducible refine N.forkF ?_ | with_reducible refine N.bin _ (eq_size0 _ _ _ _ hv16 false rfl) ?_ | refine N.forkNo (by simp [h0]; first | done | fail) ?_ | refine N.call (cBits _ _ _ _ (has_wi (by rfl))) ?_ | refine N.call (cUpz _ _ 1 ((bl v + 1) / 2) _ _ (has_one (by rfl)) hk hkk) ?_ | refine N.forkNo (by decide) ?_ | refine N.forkYes (by decide) ?_ | refine N.obl (by decide) ?_)
    refine N.go ?_
    refine N.loop (α := Nat) (fun x => 0 < x ∧ x < 18446744073709551616 ∧ isq v ≤ x) (fun x => x) (fun _ => []) (fun x => [(7, ⟨true, 16, [(0, 16, .agg ⟨limL 16 (dg x)⟩)]⟩)]) (1 * 2 ^ ((bl v + 1) / 2)) ⟨by omega, by
      have : 2 ^ ((bl v + 1) / 2) < 2 ^ 64 := Nat.pow_lt_pow_right (by decide) hk
      have e : (2 : Nat) ^ 64 = 18446744073709551616 := by decide
      omega, by omega⟩ ?_ ?_
    · repeat (refine N.go ?_; first | exact N.true | with_reducible refine N.obl rfl ?_ | with_reducible refine N.obl (ChunkLe.refl _) ?_ )
    · intro x hx
      obtain ⟨hx0, hx1, hx2⟩ := hx
      have hng := newton_ge v x hx0
      have hqx : v / x ≤ v := Nat.div_le_self _ _
      have hsum : x + v / x < Bs ^ 16 := Nat.lt_trans (natTop7 (by have := p126; have := p127; omega)) top_lt
      have hy16 : (x + v / x) / 2 < Bs ^ 16 := Nat.lt_of_le_of_lt (Nat.div_le_self _ _) hsum
      have hx16 : x < Bs ^ 16 := Nat.lt_of_le_of_lt (Nat.le_add_right _ _) hsum
      by_cases hge : x ≤ (x + v / x) / 2
      · have he := newton_end v x hx0 hx2 hge
        repeat' (refine N.go ?_; first | with_reducible refine N.obl (by decide) ?_ | with_reducible refine N.obl (flat_wi _ _ _) ?_ | with_reducible refine N.obl (flat_lim _ _) ?_ | with_reducible refine N.eq ?_ | with_reducible refine N.obl rfl ?_ | with_reducible refine N.obl ⟨by kernel_rfl, by kernel_rfl⟩ ?_ | with_reducible refine N.forkT ?_ | with_reducible refine N.forkF ?_ | refine N.call (cDivide _ _ _ hv16 hx0 hx1) ?_ | refine N.call (cAdd _ _ _ _ _ _ _ (has_lim (by rfl)) (has_lim (by rfl))) ?_ | refine N.call (cDown1 _ _ _ _ (by rfl) hsum) ?_ | refine N.call (cCmpS _ _ _ _ _ _ _ (has_lim (by rfl)) (has_lim (by rfl)) hy16 hx16) ?_ | with_reducible refine N.call (cMade _ _ _ (htop _ hx1)) ?_ | refine N.forkYes (by rw [decide_eq_true_eq]; unfold cm; split <;> (try split) <;> omega) ?_)
        all_goals (rw [he]; rfl)
      · repeat' (refine N.go ?_; first | with_reducible refine N.obl (by decide) ?_ | with_reducible refine N.obl (flat_wi _ _ _) ?_ | with_reducible refine N.obl (flat_lim _ _) ?_ | with_reducible refine N.eq ?_ | with_reducible refine N.obl rfl ?_ | with_reducible refine N.obl ⟨by kernel_rfl, by kernel_rfl⟩ ?_ | with_reducible refine N.forkT ?_ | with_reducible refine N.forkF ?_ | refine N.call (cDivide _ _ _ hv16 hx0 hx1) ?_ | refine N.call (cAdd _ _ _ _ _ _ _ (has_lim (by rfl)) (has_lim (by rfl))) ?_ | refine N.call (cDown1 _ _ _ _ (by rfl) hsum) ?_ | refine N.call (cCmpS _ _ _ _ _ _ _ (has_lim (by rfl)) (has_lim (by rfl)) hy16 hx16) ?_ | with_reducible refine N.call (cMade _ _ _ (htop _ hx1)) ?_ | refine N.forkNo (by rw [decide_eq_false_iff_not]; unfold cm; split <;> (try split) <;> omega) ?_)
        refine N.go ?_
        refine N.next ((x + v / x) / 2) ⟨⟨by omega, by omega, hng⟩, by omega⟩ ?_
        repeat (refine N.go ?_; first | exact N.true | with_reducible refine N.obl rfl ?_ | with_reducible refine N.obl (ChunkLe.refl _) ?_ | with_reducible refine N.obl (safe_agg (limL_lit _ _)) ?_ | with_reducible refine N.obl (safe_agg (wiL_lit _ _ _)) ?_ | with_reducible refine N.obl (safe_row (limL_len _ _) (limL_lit _ _)) ?_ | with_reducible refine N.obl (safe_row (wiL_len _ _ _) (wiL_lit _ _ _)) ?_ | refine N.obl True.intro ?_ | refine N.obl (show filB _ _ = true from rfl) ?_ | refine N.obl (safe_agg (by rfl)) ?_ | refine N.obl (safe_row rfl (by rfl)) ?_)
theorem wzn (n : Nat) : wz (n : Int) = .agg ⟨wiL false false n⟩ := by unfold wz; rw [decide_eq_false (by omega), Int.natAbs_natCast]
theorem cSqrtz (v : Nat) (h : List (Option Chunk)) (hv : v < 2 ^ 126) : CallOK Try.prog 55 [wz (v : Int)] h (.tuple #[wz (isq v : Nat), .int .i64 0]) [] [] :=
  call_pure (by simp [plain_wz]) (by simp [plain3, plain_wz]; rfl) (Try.call55 _) fun w => by
    have := sqrt_z v hv w
    rw [wzn, wzn]; exact this
def cmz (a b : Int) : Int := if a < b then -1 else if b < a then 1 else 0
set_option maxRecDepth 100000 in
theorem cmp_ff_x (v u : Nat) (hv : v < Top) (hu : u < Top) (w : World) : Calls Try.prog 56 #[.agg ⟨wiL false false v⟩, .agg ⟨wiL false false u⟩] w fun e w' => e = .returned (.tuple #[.int .i64 (cm v u), .bool true]) ∧ Below w.heap.size w w' := by
  have hv16 := Nat.lt_trans hv top_lt
  have hu16 := Nat.lt_trans hu top_lt
  refine calls_pure (G := tys) w tysOK mixed Try.func56 (by rfl) (by first | rfl | (simp only [List.all_cons, List.all_nil, plain_wz, plain_lim, plain_wi]; rfl)) (by first | exact plain3_wz _ | exact plain3_wi _ _ _ | rfl | (simp only [plain3, List.all_cons, List.all_nil, plain_wz, plain_lim, plain_wi]; rfl)) ?_
  repeat' (refine N.go ?_; first | with_reducible refine N.obl (by decide) ?_ | with_reducible refine N.obl (flat_wi _ _ _) ?_ | with_reducible refine N.obl (flat_lim _ _) ?_ | with_reducible refine N.eq ?_ | with_reducible refine N.obl rfl ?_ | with_reducible refine N.obl ⟨by kernel_rfl, by kernel_rfl⟩ ?_ | with_reducible refine N.forkT ?_ | with_reducible refine N.forkF ?_ | refine N.call (cCmpS _ _ _ _ _ _ _ (has_wi (by rfl)) (has_wi (by rfl)) hv16 hu16) ?_ | refine N.call (cCmpS _ _ _ _ _ _ _ (has_wi (by rfl)) (has_wi (by rfl)) hu16 hv16) ?_ | refine N.forkNo (by decide) ?_ | refine N.forkYes (by decide) ?_)
  all_goals rfl
set_option maxRecDepth 100000 in
theorem cmp_tt_x (v u : Nat) (hv : v < Top) (hu : u < Top) (w : World) : Calls Try.prog 56 #[.agg ⟨wiL true false v⟩, .agg ⟨wiL true false u⟩] w fun e w' => e = .returned (.tuple #[.int .i64 (cm u v), .bool true]) ∧ Below w.heap.size w w' := by
  have hv16 := Nat.lt_trans hv top_lt
  have hu16 := Nat.lt_trans hu top_lt
  refine calls_pure (G := tys) w tysOK mixed Try.func56 (by rfl) (by first | rfl | (simp only [List.all_cons, List.all_nil, plain_wz, plain_lim, plain_wi]; rfl)) (by first | exact plain3_wz _ | exact plain3_wi _ _ _ | rfl | (simp only [plain3, List.all_cons, List.all_nil, plain_wz, plain_lim, plain_wi]; rfl)) ?_
  repeat' (refine N.go ?_; first | with_reducible refine N.obl (by decide) ?_ | with_reducible refine N.obl (flat_wi _ _ _) ?_ | with_reducible refine N.obl (flat_lim _ _) ?_ | with_reducible refine N.eq ?_ | with_reducible refine N.obl rfl ?_ | with_reducible refine N.obl ⟨by kernel_rfl, by kernel_rfl⟩ ?_ | with_reducible refine N.forkT ?_ | with_reducible refine N.forkF ?_ | refine N.call (cCmpS _ _ _ _ _ _ _ (has_wi (by rfl)) (has_wi (by rfl)) hv16 hu16) ?_ | refine N.call (cCmpS _ _ _ _ _ _ _ (has_wi (by rfl)) (has_wi (by rfl)) hu16 hv16) ?_ | refine N.forkNo (by decide) ?_ | refine N.forkYes (by decide) ?_)
  all_goals rfl
set_option maxRecDepth 100000 in
theorem cmp_tf_x (v u : Nat) (hv : v < Top) (hu : u < Top) (w : World) : Calls Try.prog 56 #[.agg ⟨wiL true false v⟩, .agg ⟨wiL false false u⟩] w fun e w' => e = .returned (.tuple #[.int .i64 (-1), .bool true]) ∧ Below w.heap.size w w' := by
  have hv16 := Nat.lt_trans hv top_lt
  have hu16 := Nat.lt_trans hu top_lt
  refine calls_pure (G := tys) w tysOK mixed Try.func56 (by rfl) (by first | rfl | (simp only [List.all_cons, List.all_nil, plain_wz, plain_lim, plain_wi]; rfl)) (by first | exact plain3_wz _ | exact plain3_wi _ _ _ | rfl | (simp only [plain3, List.all_cons, List.all_nil, plain_wz, plain_lim, plain_wi]; rfl)) ?_
  repeat' (refine N.go ?_; first | with_reducible refine N.obl (by decide) ?_ | with_reducible refine N.obl (flat_wi _ _ _) ?_ | with_reducible refine N.obl (flat_lim _ _) ?_ | with_reducible refine N.eq ?_ | with_reducible refine N.obl rfl ?_ | with_reducible refine N.obl ⟨by kernel_rfl, by kernel_rfl⟩ ?_ | with_reducible refine N.forkT ?_ | with_reducible refine N.forkF ?_ | refine N.forkNo (by decide) ?_ | refine N.forkYes (by decide) ?_)
  all_goals rfl
set_option maxRecDepth 100000 in
theorem cmp_ft_x (v u : Nat) (hv : v < Top) (hu : u < Top) (w : World) : Calls Try.prog 56 #[.agg ⟨wiL false false v⟩, .agg ⟨wiL true false u⟩] w fun e w' => e = .returned (.tuple #[.int .i64 (1), .bool true]) ∧ Below w.heap.size w w' := by
  have hv16 := Nat.lt_trans hv top_lt
  have hu16 := Nat.lt_trans hu top_lt
  refine calls_pure (G := tys) w tysOK mixed Try.func56 (by rfl) (by first | rfl | (simp only [List.all_cons, List.all_nil, plain_wz, plain_lim, plain_wi]; rfl)) (by first | exact plain3_wz _ | exact plain3_wi _ _ _ | rfl | (simp only [plain3, List.all_cons, List.all_nil, plain_wz, plain_lim, plain_wi]; rfl)) ?_
  repeat' (refine N.go ?_; first | with_reducible refine N.obl (by decide) ?_ | with_reducible refine N.obl (flat_wi _ _ _) ?_ | with_reducible refine N.obl (flat_lim _ _) ?_ | with_reducible refine N.eq ?_ | with_reducible refine N.obl rfl ?_ | with_reducible refine N.obl ⟨by kernel_rfl, by kernel_rfl⟩ ?_ | with_reducible refine N.forkT ?_ | with_reducible refine N.forkF ?_ | refine N.forkNo (by decide) ?_ | refine N.forkYes (by decide) ?_)
  all_goals rfl
theorem cmp_z (a b : Int) (ha : a.natAbs < Top) (hb : b.natAbs < Top) (w : World) : Calls Try.prog 56 #[wz a, wz b] w fun e w' => e = .returned (.tuple #[.int .i64 (cmz a b), .bool true]) ∧ Below w.heap.size w w' := by
  by_cases h1 : a < 0 <;> by_cases h2 : b < 0
  · rw [wz_neg h1, wz_neg h2]
    have := cmp_tt_x a.natAbs b.natAbs ha hb w
    rwa [show cm b.natAbs a.natAbs = cmz a b from by unfold cm cmz; split <;> split <;> (try split) <;> (try split) <;> omega] at this
  · rw [wz_neg h1, wz_pos (by omega : 0 ≤ b)]
    have := cmp_tf_x a.natAbs b.natAbs ha hb w
    rwa [show (-1 : Int) = cmz a b from by unfold cmz; rw [if_pos (by omega)]] at this
  · rw [wz_pos (by omega : 0 ≤ a), wz_neg h2]
    have := cmp_ft_x a.natAbs b.natAbs ha hb w
    rwa [show Value.int .i64 1 = .int .i64 (cmz a b) from by unfold cmz; rw [if_neg (by omega), if_pos (by omega)]] at this
  · rw [wz_pos (by omega : 0 ≤ a), wz_pos (by omega : 0 ≤ b)]
    have := cmp_ff_x a.natAbs b.natAbs ha hb w
    rwa [show cm a.natAbs b.natAbs = cmz a b from by unfold cm cmz; split <;> split <;> (try split) <;> (try split) <;> omega] at this
theorem cCmpz (a b : Int) (h : List (Option Chunk)) (ha : a.natAbs < Top) (hb : b.natAbs < Top) : CallOK Try.prog 56 [wz a, wz b] h (.tuple #[.int .i64 (cmz a b), .bool true]) [] [] :=
  call_pure (by simp [plain_wz]) rfl (Try.call56 _) (cmp_z a b ha hb)
/-- The root, up. -/
def usq (n : Nat) : Nat := if isq n * isq n < n then isq n + 1 else isq n
theorem usq_ge (n : Nat) : n ≤ usq n * usq n := by
  unfold usq
  have := isq_lt n
  split <;> omega
theorem usq_le {n m : Nat} (h : n ≤ m * m) : usq n ≤ m := by
  unfold usq
  have h1 := isq_le n
  split
  · rename_i h2
    exact sq_mono (Nat.lt_of_lt_of_le h2 h)
  · have : isq n * isq n ≤ m * m := by omega
    rcases Nat.lt_or_ge m (isq n) with h3 | h3
    · have := Nat.mul_lt_mul'' h3 h3; omega
    · exact h3
set_option maxRecDepth 100000 in
theorem wideup_x (n : Nat) (hn5 : n < 2 ^ 125) (w : World) : Calls Try.prog 40 #[wz (n : Int)] w fun e w' => e = .returned (.tuple #[.int .i64 (usq n : Nat), .int .i64 0]) ∧ Below w.heap.size w w' := by
  have hn : n < 2 ^ 126 := by have := p125; have := p126; omega
  have hq := isq_small n hn
  have hle := isq_le n
  have hqt : ((isq n : Nat) : Int).natAbs < Top := by rw [Int.natAbs_natCast]; exact natTop (by have := p126; omega)
  have hq16 := Nat.lt_trans hqt top_lt
  have hmt : (((isq n : Nat) : Int) * ((isq n : Nat) : Int)).natAbs < Top := by rw [← Int.natCast_mul, Int.natAbs_natCast]; exact natTop (Nat.lt_of_le_of_lt hle hn)
  have hnt : ((n : Nat) : Int).natAbs < Top := by rw [Int.natAbs_natCast]; exact natTop hn
  have h1t : (1 : Int).natAbs < Top := natTop (n := 1) (by decide)
  have hst : (((isq n : Nat) : Int) + 1).natAbs < Top := by
    rw [show ((isq n : Nat) : Int) + 1 = ((isq n + 1 : Nat) : Int) from rfl, Int.natAbs_natCast]
    exact natTop (by have := p126; omega)
  obtain ⟨a1, a2⟩ := n64_in (z := ((isq n : Nat) : Int)) (by clear hmt hnt hst hle; omega)
  obtain ⟨b1, b2⟩ := n64_in (z := ((isq n : Nat) : Int) + 1) (by clear hmt hnt hst hle; have : isq n < 9223372036854775807 := isq_below (by have := p125; omega); omega)
  have a3 : e64 ((isq n : Nat) : Int) = 0 := by unfold e64; rw [a1]; rfl
  have b3 : e64 (((isq n : Nat) : Int) + 1) = 0 := by unfold e64; rw [b1]; rfl
  have hcm : cmz (((isq n : Nat) : Int) * ((isq n : Nat) : Int)) (n : Int) < 0 ↔ isq n * isq n < n := by
    have : ((isq n * isq n : Nat) : Int) = ((isq n : Nat) : Int) * ((isq n : Nat) : Int) := Int.natCast_mul _ _
    clear hqt hq16 hmt hnt h1t hst hle
    generalize ((isq n : Nat) : Int) * ((isq n : Nat) : Int) = A at *
    generalize isq n * isq n = B at *
    unfold cmz; split <;> (try split) <;> omega
  refine calls_pure (G := tys) w tysOK mixed Try.func40 (by rfl) (by first | rfl | (simp only [List.all_cons, List.all_nil, plain_wz, plain_lim, plain_wi]; rfl)) (by first | exact plain3_wz _ | exact plain3_wi _ _ _ | rfl | (simp only [plain3, List.all_cons, List.all_nil, plain_wz, plain_lim, plain_wi]; rfl)) ?_
  repeat' (refine N.go ?_; first | with_reducible refine N.obl (by decide) ?_ | with_reducible refine N.obl (flat_wi _ _ _) ?_ | with_reducible refine N.obl (flat_lim _ _) ?_ | with_reducible refine N.eq ?_ | with_reducible refine N.obl rfl ?_ | with_reducible refine N.obl ⟨by kernel_rfl, by kernel_rfl⟩ ?_ | with_reducible refine N.forkT ?_ | with_reducible refine N.forkF ?_ | with_reducible refine N.call (cSqrtz _ _ hn) ?_ | with_reducible refine N.call (cMulz _ _ _ hq16 hq16 hmt) ?_ | with_reducible refine N.call (cCmpz _ _ _ hmt hnt) ?_ | with_reducible refine N.call (cOfz _ _ (by decide) (by decide)) ?_ | with_reducible refine N.call (cAddz _ _ _ hqt h1t hst) ?_ | with_reducible refine N.call (cNarrow _ _ hqt) ?_ | with_reducible refine N.call (cNarrow _ _ hst) ?_ | refine N.forkNo (by decide) ?_ | refine N.forkYes (by decide) ?_ | with_reducible refine N.fork (fun hb => ?_) (fun hb => ?_))
  · rw [decide_eq_true_eq] at hb
    rw [b2, b3]; unfold usq; rw [if_pos (hcm.1 hb)]; rfl
  · rw [decide_eq_false_iff_not] at hb
    rw [a2, a3]; unfold usq; rw [if_neg (fun h => hb (hcm.2 h))]
theorem cWideup (n : Nat) (h : List (Option Chunk)) (hn : n < 2 ^ 125) : CallOK Try.prog 40 [wz (n : Int)] h (.tuple #[.int .i64 (usq n : Nat), .int .i64 0]) [] [] :=
  call_pure (by simp [plain_wz]) rfl (Try.call40 _) (wideup_x n hn)
theorem cWideupz (z : Int) (n : Nat) (h : List (Option Chunk)) (e : z = (n : Nat)) (hn : n < 2 ^ 125) : CallOK Try.prog 40 [wz z] h (.tuple #[.int .i64 (usq n : Nat), .int .i64 0]) [] [] := by
  subst e; exact cWideup n h hn
set_option maxRecDepth 100000 in
theorem up_x (n : Int) (h1 : n < 9223372036854775808) (w : World) : Calls Try.prog 36 #[.int .i64 n] w fun e w' => e = .returned (.int .i64 (usq n.toNat : Nat)) ∧ Below w.heap.size w w' := by
  have e : max 0 n = ((n.toNat : Nat) : Int) := by omega
  have hn : n.toNat < 2 ^ 125 := by
    have := p125
    omega
  refine calls_pure (G := tys) w tysOK mixed Try.func36 (by rfl) (by first | rfl | (simp only [List.all_cons, List.all_nil, plain_wz, plain_lim, plain_wi]; rfl)) (by first | exact plain3_wz _ | exact plain3_wi _ _ _ | rfl | (simp only [plain3, List.all_cons, List.all_nil, plain_wz, plain_lim, plain_wi]; rfl)) ?_
  repeat' (refine N.go ?_; first | with_reducible refine N.obl (by decide) ?_ | with_reducible refine N.obl (flat_wi _ _ _) ?_ | with_reducible refine N.obl (flat_lim _ _) ?_ | with_reducible refine N.eq ?_ | with_reducible refine N.obl rfl ?_ | with_reducible refine N.obl ⟨by kernel_rfl, by kernel_rfl⟩ ?_ | with_reducible refine N.forkT ?_ | with_reducible refine N.forkF ?_ | with_reducible refine N.min2 ?_ | with_reducible refine N.max2 ?_ | with_reducible refine N.call (cOfz _ _ (by omega) (by omega)) ?_ | with_reducible refine N.call (cWideupz _ _ _ e hn) ?_ | refine N.forkNo (by decide) ?_ | refine N.forkYes (by decide) ?_)
  all_goals rfl
theorem cUpr (n : Int) (h : List (Option Chunk)) (h1 : n < 9223372036854775808) : CallOK Try.prog 36 [.int .i64 n] h (.int .i64 (usq n.toNat : Nat)) [] [] :=
  call_pure rfl rfl (Try.call36 _) (up_x n h1)
end Go.Proofs.Ytgmfnpmmfghkkaa
