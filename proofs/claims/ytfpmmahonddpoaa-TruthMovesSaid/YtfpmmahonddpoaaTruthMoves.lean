/-
  The statement TruthMoves: for every input the law returns true.
-/
import Derived.Test.YtfpmmahonddpoaaTr10
set_option linter.unusedVariables false
set_option linter.unusedSimpArgs false
namespace Go.Proofs.Ytfpmmahonddpoaa.truthMoves
open Go Go.ChangeShapes Go.WideShapes Go.ChangeAt Go.RowKit Sx

theorem row6 {n i p : Nat} {f : Nat → Value} {cl : Nat → Nat → Int} (hf : ∀ i, i < n → ∀ j, j < 6 → f (i * 6 + j) = .int .i64 (cl i j)) (hi : i < n) (hp : p = i * 6) :
    Reads ⟨false, n * 6, [(0, n * 6, .agg ⟨segL (n * 6) f⟩)]⟩ p true 6 (.agg ⟨[.int .i64 (cl i 0), .int .i64 (cl i 1), .int .i64 (cl i 2), .int .i64 (cl i 3), .int .i64 (cl i 4), .int .i64 (cl i 5)]⟩) := by
  subst hp
  refine reads_seg _ (by omega) rfl fun j hj => ?_
  rw [hf i hi j hj]
  match j, hj with
  | 0, _ => rfl
  | 1, _ => rfl
  | 2, _ => rfl
  | 3, _ => rfl
  | 4, _ => rfl
  | 5, _ => rfl
theorem seg_same {ix : List (Nat × Nat)} {n : Nat} {f : Nat → Value} (hl : ∀ j, j < n → lit1 (f j) = true) : ChunkReLe ix (segC n f) (segC n f) := ⟨id, Nat.le_refl _, fun j hj => by
  have hj : j < n := hj
  rw [seg_at hj]; exact .plain (lit1_plain (hl j hj))⟩
theorem mv8 {ix : List (Nat × Nat)} {o : Bool} {ps : List (Nat × Nat × Value)} (ho : o = true) (h : cellOf ps 0 = .bool false ∧ cellOf ps 1 = .bool false ∧ cellOf ps 2 = .bool false ∧ cellOf ps 3 = .bool false ∧ cellOf ps 4 = .bool false ∧ cellOf ps 5 = .bool false ∧ cellOf ps 6 = .bool false ∧ cellOf ps 7 = .bool false) : ChunkReLe ix (mvP true 8 (fun _ => false)) ⟨o, 8, ps⟩ := ⟨fun _ => ho, Nat.le_refl _, fun j hj => by
  have hj : j < 8 := hj
  rw [seg_at hj]
  obtain ⟨h0, h1, h2, h3, h4, h5, h6, h7⟩ := h
  have e : cellOf ps j = .bool false := by
    match j, hj with
    | 0, _ => exact h0
    | 1, _ => exact h1
    | 2, _ => exact h2
    | 3, _ => exact h3
    | 4, _ => exact h4
    | 5, _ => exact h5
    | 6, _ => exact h6
    | 7, _ => exact h7
  show Re1 _ _ (cellOf ps j)
  rw [e]; exact .plain rfl⟩
theorem sq_in {z m : Int} (hm : 0 ≤ m) (h : z * z ≤ m * m) : -m ≤ z ∧ z ≤ m := by
  have e1 : z * z = ((z.natAbs * z.natAbs : Nat) : Int) := (Int.natAbs_mul_self' z).symm.trans (Int.natCast_mul _ _).symm
  have e2 : m * m = ((m.natAbs * m.natAbs : Nat) : Int) := (Int.natAbs_mul_self' m).symm.trans (Int.natCast_mul _ _).symm
  have h3 : z.natAbs * z.natAbs ≤ m.natAbs * m.natAbs := by omega
  have h4 : z.natAbs ≤ m.natAbs := by
    rcases Nat.lt_or_ge m.natAbs z.natAbs with h5 | h5
    · have := Nat.mul_lt_mul'' h5 h5; omega
    · exact h5
  omega
theorem cPlaceK (c : Nat → Int) (n cap i j k : Nat) (P : Nat → Int) (M : Nat → Bool) (tm st : Int) (o1 o2 o3 : Bool) (p : Nat) (X Y : Int) (h : List (Option Chunk)) (hi : h[i]? = some (some (wcc o1 c n cap j k tm st))) (hj : h[j]? = some (some (ptP o2 n P))) (hk : h[k]? = some (some (mvP o3 n M))) (hp : p < n) (hX : P (p * 2) = X) (hY : P (p * 2 + 1) = Y) :
    CallOK Try.prog 11 [.pointer (some ⟨i, 0, some 0⟩), .int .i64 (p : Int)] h (.tuple #[.agg #[.int .i64 X, .int .i64 Y], .bool true]) [] [i, j, k] := by
  subst hX hY
  exact cPlaceY c n cap i j k P M tm st o1 o2 o3 p h hi hj hk hp
theorem and7 (x : Int) : ∃ p : Nat, IntKind.i64.wrap ((BitVec.ofInt IntKind.i64.bits x &&& BitVec.ofInt IntKind.i64.bits 7).toNat : Nat) = (p : Int) ∧ p < 8 := by
  have h : (BitVec.ofInt IntKind.i64.bits x &&& BitVec.ofInt IntKind.i64.bits 7).toNat ≤ 7 := by
    rw [BitVec.toNat_and]; exact Nat.le_trans Nat.and_le_right (by decide)
  exact ⟨_, i64s _ (by omega) (by omega), by omega⟩
theorem sq_nn (z : Int) : 0 ≤ z * z := by
  have e1 : z * z = ((z.natAbs * z.natAbs : Nat) : Int) := (Int.natAbs_mul_self' z).symm.trans (Int.natCast_mul _ _).symm
  omega
structure LS where
  x : Nat
  tm : Int
  P : Nat → Int
  M : Nat → Bool
def lsOK (len : Nat) (q : LS) : Prop := 0 ≤ q.tm ∧ q.tm ≤ 100 ∧ q.tm ≤ q.x ∧ q.x ≤ len ∧ ∀ p, p < 8 → wiB (q.P (p * 2)) (q.P (p * 2 + 1)) 4194304
set_option maxRecDepth 100000 in
set_option maxHeartbeats 2000000 in
theorem walk (sp er : Int) (a : Addr) (len lcap : Nat) (f : Nat → Value) (cl : Nat → Nat → Int) (w : World) (hlen : len ≤ 9223372036854775807) (hsn : SeenIn w ⟨a, len * 6, f⟩) (hf : ∀ i, i < len → ∀ j, j < 6 → f (i * 6 + j) = .int .i64 (cl i j)) :
    Calls Try.prog 3 #[.int .i64 sp, .int .i64 er, .slice (some a) len lcap] w fun e w' => e = .returned (.bool true) ∧ Below w.heap.size w w' := by
  have hl : ∀ j, j < len * 6 → lit1 (f j) = true := rows_lit (by decide) fun i hi j hj => by rw [hf i hi j hj]; rfl
  have u1 := um_in sp 40 (by decide)
  have u2 := um_in er 10 (by decide)
  have hc : mayC (cfgF (1 + um 7 8) (1 + um 1 6) (um sp 40) (um er 10) (1 + um 1 6) (1 + um 1 8)) := may_cfg (by decide) (by decide) (by omega) (by omega) (by decide) (by decide)
  refine calls_args (G := tys) (vs := [.int .i64 sp, .int .i64 er, .slice (some ⟨0, 0, some 0⟩) len lcap]) [⟨a, len * 6, f⟩] w tysOK mixed Try.func3 (by rfl) (by simpa using hsn) ⟨.plain rfl, .plain rfl, .slice rfl, trivial⟩ rfl ?_
  repeat' (refine N.go ?_; first | with_reducible refine N.obl (by decide) ?_ | with_reducible refine N.obl (flat_wi _ _ _) ?_ | with_reducible refine N.obl (flat_lim _ _) ?_ | with_reducible refine N.eq ?_ | with_reducible refine N.obl rfl ?_ | with_reducible refine N.obl ⟨by kernel_rfl, by kernel_rfl⟩ ?_ | with_reducible refine N.forkT ?_ | with_reducible refine N.forkF ?_ | refine N.call (cConfig _ _ _ _ _ _ _) ?_ | refine N.forkNo (by decide) ?_ | fail_if_success skip)
  refine N.go ?_
  refine N.callAll (cNewW (cfgF (1 + um 7 8) (1 + um 1 6) (um sp 40) (um er 10) (1 + um 1 6) (1 + um 1 8)) 7 8 _ hc rfl rfl rfl rfl) fun v ms hR => ?_
  obtain ⟨s, ⟨hs1, hs2⟩, rfl, rfl⟩ := hR
  repeat' (refine N.go ?_; first | with_reducible refine N.obl (by decide) ?_ | with_reducible refine N.obl (flat_wi _ _ _) ?_ | with_reducible refine N.obl (flat_lim _ _) ?_ | with_reducible refine N.eq ?_ | with_reducible refine N.obl rfl ?_ | with_reducible refine N.obl ⟨by kernel_rfl, by kernel_rfl⟩ ?_ | with_reducible refine N.forkT ?_ | with_reducible refine N.forkF ?_ | refine N.forkNo (by decide) ?_ | fail_if_success skip)
  refine N.go ?_
  refine N.loopR (α := LS) (lsOK len) (fun q => len - q.x) (fun q => [(31, .int .i64 (q.x : Int))]) (fun q => [(7, wcc true (cfgF (1 + um 7 8) (1 + um 1 6) (um sp 40) (um er 10) (1 + um 1 6) (1 + um 1 8)) 8 s.cap 8 9 q.tm 0), (8, ptP true 8 q.P), (9, mvP true 8 q.M), (10, mvP true 8 q.M)]) ⟨0, 0, pos0, fun _ => false⟩ [(0, 0), (5, 5), (7, 7), (8, 8), (9, 9), (10, 10)] ⟨by decide, by decide, by decide, Nat.zero_le _, fun p hp => pos0_wi p (by omega)⟩ ?_ ?_
  · repeat' (refine N.go ?_; first | exact N.true | refine N.obl (.plain (by rfl)) ?_ | refine N.obl (.one (.ptr rfl)) ?_ | refine N.obl (.one (.slice rfl)) ?_ | refine N.obl (ChunkReLe.same (agg_plain (by rfl) (by rfl))) ?_ | refine N.obl (seg_same hl) ?_ | refine N.obl ⟨id, Nat.le_refl _, ptP_re⟩ ?_ | refine N.obl ⟨id, Nat.le_refl _, mvP_re⟩ ?_ | refine N.obl (mv8 rfl ⟨rfl, rfl, rfl, rfl, rfl, rfl, rfl, rfl⟩) ?_ | refine N.obl ⟨id, Nat.le_refl _, wcc_re rfl rfl⟩ ?_ | refine N.obl ⟨id, Nat.le_refl _, wcc_re (j := 8) (k := 9) (j' := 8) (k' := 12) (by rfl) (by rfl)⟩ ?_ | fail_if_success skip)
  · intro q hq
    obtain ⟨q1, q2, q3, q4, qP⟩ := hq
    by_cases hlt : q.x < len
    · refine N.go ?_
      refine N.forkYes (by simpa using hlt) ?_
      refine N.go ?_
      refine N.idx q.x 1 rfl hlt ?_
      refine N.go ?_
      refine N.load _ (row6 hf hlt (by first | rfl | (show 0 + q.x * 6 = q.x * 6; omega))) ?_
      by_cases h100 : 100 ≤ q.x
      · repeat' (refine N.go ?_; first | with_reducible refine N.obl (by decide) ?_ | with_reducible refine N.obl (flat_wi _ _ _) ?_ | with_reducible refine N.obl (flat_lim _ _) ?_ | with_reducible refine N.eq ?_ | with_reducible refine N.obl rfl ?_ | with_reducible refine N.obl ⟨by kernel_rfl, by kernel_rfl⟩ ?_ | with_reducible refine N.forkT ?_ | with_reducible refine N.forkF ?_ | with_reducible refine N.call (cAwake24 _) ?_ | refine N.forkNo (by rw [decide_eq_false_iff_not]; omega) ?_ | refine N.forkYes (by rw [decide_eq_true_eq]; omega) ?_ | refine N.forkNo (by decide) ?_ | fail_if_success skip)
        all_goals rfl
      · by_cases hdo : cl q.x 0 = 1
        · repeat' (refine N.go ?_; first | with_reducible refine N.obl (by decide) ?_ | with_reducible refine N.obl (flat_wi _ _ _) ?_ | with_reducible refine N.obl (flat_lim _ _) ?_ | with_reducible refine N.eq ?_ | with_reducible refine N.obl rfl ?_ | with_reducible refine N.obl ⟨by kernel_rfl, by kernel_rfl⟩ ?_ | with_reducible refine N.forkT ?_ | with_reducible refine N.forkF ?_ | refine N.call (cTickY (cfgF (1 + um 7 8) (1 + um 1 6) (um sp 40) (um er 10) (1 + um 1 6) (1 + um 1 8)) 8 s.cap 7 8 9 12 q.P q.M q.tm 0 _ _ _ (by rfl) (by rfl) (by rfl) (by rfl) (by decide) (by decide) (by decide) (by omega)) ?_ | refine N.forkNo (by rw [decide_eq_false_iff_not]; omega) ?_ | refine N.forkYes (by rw [decide_eq_true_eq]; omega) ?_ | refine N.forkYes (by rw [hdo]; rfl) ?_ | refine N.forkNo (by rw [beq_eq_false_iff_ne]; exact hdo) ?_ | refine N.forkNo (by decide) ?_ | fail_if_success skip)
          refine N.go ?_
          refine N.nextR (α := LS) ⟨q.x + 1, (q.tm + 1), q.P, (fun _ => false)⟩ [(0, 0), (5, 5), (7, 7), (8, 8), (12, 9), (10, 10)] ⟨⟨by show 0 ≤ (q.tm + 1); omega, by show (q.tm + 1) ≤ 100; omega, by show (q.tm + 1) ≤ ((q.x + 1 : Nat) : Int); omega, by show q.x + 1 ≤ len; omega, qP⟩, by show len - (q.x + 1) < len - q.x; omega⟩ ?_
          repeat' (refine N.go ?_; first | exact N.true | refine N.obl (.plain (by rfl)) ?_ | refine N.obl (.one (.ptr rfl)) ?_ | refine N.obl (.one (.slice rfl)) ?_ | refine N.obl (ChunkReLe.same (agg_plain (by rfl) (by rfl))) ?_ | refine N.obl (seg_same hl) ?_ | refine N.obl ⟨id, Nat.le_refl _, ptP_re⟩ ?_ | refine N.obl ⟨id, Nat.le_refl _, mvP_re⟩ ?_ | refine N.obl (mv8 rfl ⟨rfl, rfl, rfl, rfl, rfl, rfl, rfl, rfl⟩) ?_ | refine N.obl ⟨id, Nat.le_refl _, wcc_re rfl rfl⟩ ?_ | refine N.obl ⟨id, Nat.le_refl _, wcc_re (j := 8) (k := 9) (j' := 8) (k' := 12) (by rfl) (by rfl)⟩ ?_ | refine N.obl (re_eq (int_eq (by rw [i64s ((q.x : Int) + 1) (by omega) (by omega)]; rfl)) rfl) ?_ | fail_if_success skip)
        · repeat' (refine N.go ?_; first | with_reducible refine N.obl (by decide) ?_ | with_reducible refine N.obl (flat_wi _ _ _) ?_ | with_reducible refine N.obl (flat_lim _ _) ?_ | with_reducible refine N.eq ?_ | with_reducible refine N.obl rfl ?_ | with_reducible refine N.obl ⟨by kernel_rfl, by kernel_rfl⟩ ?_ | with_reducible refine N.forkT ?_ | with_reducible refine N.forkF ?_ | refine N.forkNo (by rw [decide_eq_false_iff_not]; omega) ?_ | refine N.forkYes (by rw [decide_eq_true_eq]; omega) ?_ | refine N.forkYes (by rw [hdo]; rfl) ?_ | refine N.forkNo (by rw [beq_eq_false_iff_ne]; exact hdo) ?_ | refine N.forkNo (by decide) ?_ | fail_if_success skip)
          refine N.go ?_
          obtain ⟨p, hp, hpn⟩ := and7 (cl q.x 1)
          generalize IntKind.i64.wrap ((BitVec.ofInt IntKind.i64.bits (cl q.x 1) &&& BitVec.ofInt IntKind.i64.bits 7).toNat : Nat) = z at hp ⊢
          subst hp
          have hw := qP p hpn
          have hb := hw
          unfold wiB at hb
          rcases move_two (cfgF (1 + um 7 8) (1 + um 1 6) (um sp 40) (um er 10) (1 + um 1 6) (1 + um 1 8)) 8 7 8 9 q.P q.M p (cl q.x 2) (cl q.x 3) (cl q.x 4) (cl q.x 5) hpn (show 0 ≤ um sp 40 ∧ um sp 40 ≤ 1000 by omega) (show 0 ≤ um er 10 ∧ um er 10 ≤ 1000 by omega) (by decide) (by decide) (by decide) hw with ⟨e, he, H⟩ | ⟨hm, H⟩
          · have e1 : IntKind.i64.wrap (q.P (p * 2) - q.P (p * 2)) = 0 := by rw [Int.sub_self]; rfl
            have e2 : IntKind.i64.wrap (q.P (p * 2 + 1) - q.P (p * 2 + 1)) = 0 := by rw [Int.sub_self]; rfl
            repeat' (refine N.go ?_; first | with_reducible refine N.obl (by decide) ?_ | with_reducible refine N.obl (flat_wi _ _ _) ?_ | with_reducible refine N.obl (flat_lim _ _) ?_ | with_reducible refine N.eq ?_ | with_reducible refine N.obl rfl ?_ | with_reducible refine N.obl ⟨by kernel_rfl, by kernel_rfl⟩ ?_ | with_reducible refine N.forkT ?_ | with_reducible refine N.forkF ?_ | refine N.call (cPlaceK (cfgF (1 + um 7 8) (1 + um 1 6) (um sp 40) (um er 10) (1 + um 1 6) (1 + um 1 8)) 8 s.cap 7 8 9 q.P q.M q.tm 0 true true true p _ _ _ (by rfl) (by rfl) (by rfl) hpn rfl rfl) ?_ | refine N.call (H s.cap q.tm 0 true _ (by rfl) (by rfl) (by rfl)) ?_ | with_reducible refine N.bin _ (ne_point _ _ _ _ _ _) ?_ | refine N.forkYes (by simpa using he) ?_ | refine N.forkNo (by rw [e1, e2]; rfl) ?_ | refine N.forkNo (by decide) ?_ | fail_if_success skip)
            refine N.go ?_
            refine N.nextR (α := LS) ⟨q.x + 1, q.tm, q.P, q.M⟩ [(0, 0), (5, 5), (7, 7), (8, 8), (9, 9), (10, 10)] ⟨⟨by show 0 ≤ q.tm; omega, by show q.tm ≤ 100; omega, by show q.tm ≤ ((q.x + 1 : Nat) : Int); omega, by show q.x + 1 ≤ len; omega, qP⟩, by show len - (q.x + 1) < len - q.x; omega⟩ ?_
            repeat' (refine N.go ?_; first | exact N.true | refine N.obl (.plain (by rfl)) ?_ | refine N.obl (.one (.ptr rfl)) ?_ | refine N.obl (.one (.slice rfl)) ?_ | refine N.obl (ChunkReLe.same (agg_plain (by rfl) (by rfl))) ?_ | refine N.obl (seg_same hl) ?_ | refine N.obl ⟨id, Nat.le_refl _, ptP_re⟩ ?_ | refine N.obl ⟨id, Nat.le_refl _, mvP_re⟩ ?_ | refine N.obl (mv8 rfl ⟨rfl, rfl, rfl, rfl, rfl, rfl, rfl, rfl⟩) ?_ | refine N.obl ⟨id, Nat.le_refl _, wcc_re rfl rfl⟩ ?_ | refine N.obl ⟨id, Nat.le_refl _, wcc_re (j := 8) (k := 9) (j' := 8) (k' := 12) (by rfl) (by rfl)⟩ ?_ | refine N.obl (re_eq (int_eq (by rw [i64s ((q.x : Int) + 1) (by omega) (by omega)]; rfl)) rfl) ?_ | fail_if_success skip)
          · obtain ⟨m1, m2, m3, m4, m5, m6⟩ := hm
            generalize hX : q.P (p * 2) = X at *
            generalize hY : q.P (p * 2 + 1) = Y at *
            generalize hpx : cl q.x 2 = px at *
            generalize hpy : cl q.x 3 = py at *
            generalize hqx : cl q.x 4 = qx at *
            generalize hqy : cl q.x 5 = qy at *
            have m2 : px * px + py * py ≤ um sp 40 * um sp 40 := m2
            have m4 : (qx - px) * (qx - px) + (qy - py) * (qy - py) ≤ um er 10 * um er 10 := m4
            have c1 : um sp 40 * um sp 40 ≤ 39 * 39 := Int.mul_le_mul (by omega) (by omega) (by omega) (by omega)
            have c2 : um er 10 * um er 10 ≤ 9 * 9 := Int.mul_le_mul (by omega) (by omega) (by omega) (by omega)
            have c3 : 0 ≤ um sp 40 * um sp 40 := Int.mul_nonneg (by omega) (by omega)
            have c4 : 0 ≤ um er 10 * um er 10 := Int.mul_nonneg (by omega) (by omega)
            have s1 := sq_nn px
            have s2 := sq_nn py
            have s3 := sq_nn (qx - px)
            have s4 := sq_nn (qy - py)
            have b1 := sq_in (z := px) (m := 39) (by decide) (by omega)
            have b2 := sq_in (z := py) (m := 39) (by decide) (by omega)
            have b3 := sq_in (z := qx - px) (m := 9) (by decide) (by omega)
            have b4 := sq_in (z := qy - py) (m := 9) (by decide) (by omega)
            have e1 : IntKind.i64.wrap (X + px - X) = px := by rw [show X + px - X = px from by omega]; exact i64s _ (by omega) (by omega)
            have e2 : IntKind.i64.wrap (Y + py - Y) = py := by rw [show Y + py - Y = py from by omega]; exact i64s _ (by omega) (by omega)
            have hsp : IntKind.i64.wrap (IntKind.i64.wrap (px * px) + IntKind.i64.wrap (py * py)) = px * px + py * py := by rw [i64s (px * px) (by omega) (by omega), i64s (py * py) (by omega) (by omega)]; exact i64s _ (by omega) (by omega)
            have e5 : IntKind.i64.wrap (qx - IntKind.i64.wrap (X + px - X)) = qx - px := by rw [e1]; exact i64s _ (by omega) (by omega)
            have e6 : IntKind.i64.wrap (qy - IntKind.i64.wrap (Y + py - Y)) = qy - py := by rw [e2]; exact i64s _ (by omega) (by omega)
            generalize qx - px = ux at *
            generalize qy - py = uy at *
            have hsu : IntKind.i64.wrap (IntKind.i64.wrap (ux * ux) + IntKind.i64.wrap (uy * uy)) = ux * ux + uy * uy := by rw [i64s (ux * ux) (by omega) (by omega), i64s (uy * uy) (by omega) (by omega)]; exact i64s _ (by omega) (by omega)
            repeat' (refine N.go ?_; first | with_reducible refine N.obl (by decide) ?_ | with_reducible refine N.obl (flat_wi _ _ _) ?_ | with_reducible refine N.obl (flat_lim _ _) ?_ | with_reducible refine N.eq ?_ | with_reducible refine N.obl rfl ?_ | with_reducible refine N.obl ⟨by kernel_rfl, by kernel_rfl⟩ ?_ | with_reducible refine N.forkT ?_ | with_reducible refine N.forkF ?_ | refine N.call (cPlaceK (cfgF (1 + um 7 8) (1 + um 1 6) (um sp 40) (um er 10) (1 + um 1 6) (1 + um 1 8)) 8 s.cap 7 8 9 (movP q.P p (X + px) (Y + py)) (movM q.M p) q.tm 0 true true true p _ _ _ (by rfl) (by rfl) (by rfl) hpn (movP_at _ _ _ _).1 (movP_at _ _ _ _).2) ?_ | refine N.call (cPlaceK (cfgF (1 + um 7 8) (1 + um 1 6) (um sp 40) (um er 10) (1 + um 1 6) (1 + um 1 8)) 8 s.cap 7 8 9 q.P q.M q.tm 0 true true true p _ _ _ (by rfl) (by rfl) (by rfl) hpn hX hY) ?_ | refine N.call (H s.cap q.tm 0 true _ (by rfl) (by rfl) (by rfl)) ?_ | with_reducible refine N.bin _ (ne_point _ _ _ _ _ _) ?_ | refine N.idx p 1 rfl hpn ?_ | refine N.load _ (reads_mv hpn) ?_ | refine N.store _ (writes_mv hpn) ?_ | refine N.forkNo (by exact m5) ?_ | refine N.forkNo (by rw [e1, e2]; simp only [beq_self_eq_true, Bool.and_self, Bool.not_true]) ?_ | refine N.forkNo (by rw [decide_eq_false_iff_not, e1, e2, hsp]; show ¬ (_ > IntKind.i64.wrap (um sp 40 * um sp 40)); rw [i64s _ (by omega) (by omega)]; omega) ?_ | refine N.forkNo (by rw [decide_eq_false_iff_not, e5]; omega) ?_ | refine N.forkNo (by rw [decide_eq_false_iff_not, e6]; omega) ?_ | refine N.forkNo (by rw [decide_eq_false_iff_not, e5, i64s _ (by omega) (by omega)]; omega) ?_ | refine N.forkNo (by rw [decide_eq_false_iff_not, e6, i64s _ (by omega) (by omega)]; omega) ?_ | refine N.forkNo (by rw [decide_eq_false_iff_not, e5, e6, hsu]; show ¬ (_ > IntKind.i64.wrap (um er 10 * um er 10)); rw [i64s _ (by omega) (by omega)]; omega) ?_ | refine N.forkNo (by decide) ?_ | fail_if_success skip)
            refine N.go ?_
            refine N.nextR (α := LS) ⟨q.x + 1, q.tm, (movP q.P p (X + px) (Y + py)), (movM q.M p)⟩ [(0, 0), (5, 5), (7, 7), (8, 8), (9, 9), (10, 10)] ⟨⟨by show 0 ≤ q.tm; omega, by show q.tm ≤ 100; omega, by show q.tm ≤ ((q.x + 1 : Nat) : Int); omega, by show q.x + 1 ≤ len; omega, (movP_wi qP m6)⟩, by show len - (q.x + 1) < len - q.x; omega⟩ ?_
            repeat' (refine N.go ?_; first | exact N.true | refine N.obl (.plain (by rfl)) ?_ | refine N.obl (.one (.ptr rfl)) ?_ | refine N.obl (.one (.slice rfl)) ?_ | refine N.obl (ChunkReLe.same (agg_plain (by rfl) (by rfl))) ?_ | refine N.obl (seg_same hl) ?_ | refine N.obl ⟨id, Nat.le_refl _, ptP_re⟩ ?_ | refine N.obl ⟨id, Nat.le_refl _, mvP_re⟩ ?_ | refine N.obl (mv8 rfl ⟨rfl, rfl, rfl, rfl, rfl, rfl, rfl, rfl⟩) ?_ | refine N.obl ⟨id, Nat.le_refl _, wcc_re rfl rfl⟩ ?_ | refine N.obl ⟨id, Nat.le_refl _, wcc_re (j := 8) (k := 9) (j' := 8) (k' := 12) (by rfl) (by rfl)⟩ ?_ | refine N.obl (re_eq (int_eq (by rw [i64s ((q.x : Int) + 1) (by omega) (by omega)]; rfl)) rfl) ?_ | fail_if_success skip)
    · refine N.go ?_
      refine N.forkNo (by simpa using hlt) ?_
      repeat' (refine N.go ?_; first | with_reducible refine N.obl (by decide) ?_ | with_reducible refine N.obl (flat_wi _ _ _) ?_ | with_reducible refine N.obl (flat_lim _ _) ?_ | with_reducible refine N.eq ?_ | with_reducible refine N.obl rfl ?_ | with_reducible refine N.obl ⟨by kernel_rfl, by kernel_rfl⟩ ?_ | with_reducible refine N.forkT ?_ | with_reducible refine N.forkF ?_ | with_reducible refine N.call (cAwake24 _) ?_ | refine N.forkNo (by rw [decide_eq_false_iff_not]; omega) ?_ | refine N.forkYes (by rw [decide_eq_true_eq]; omega) ?_ | refine N.forkNo (by decide) ?_ | fail_if_success skip)
      all_goals rfl
set_option maxRecDepth 100000 in
set_option maxHeartbeats 2000000 in
theorem walk0 (sp er : Int) (w : World) : Calls Try.prog 3 #[.int .i64 sp, .int .i64 er, .slice none 0 0] w fun e w' => e = .returned (.bool true) ∧ Below w.heap.size w w' := by
  have u1 := um_in sp 40 (by decide)
  have u2 := um_in er 10 (by decide)
  have hc : mayC (cfgF (1 + um 7 8) (1 + um 1 6) (um sp 40) (um er 10) (1 + um 1 6) (1 + um 1 8)) := may_cfg (by decide) (by decide) (by omega) (by omega) (by decide) (by decide)
  refine calls_pure (G := tys) w tysOK mixed Try.func3 (by rfl) (by rfl) (by rfl) ?_
  repeat' (refine N.go ?_; first | with_reducible refine N.obl (by decide) ?_ | with_reducible refine N.obl (flat_wi _ _ _) ?_ | with_reducible refine N.obl (flat_lim _ _) ?_ | with_reducible refine N.eq ?_ | with_reducible refine N.obl rfl ?_ | with_reducible refine N.obl ⟨by kernel_rfl, by kernel_rfl⟩ ?_ | with_reducible refine N.forkT ?_ | with_reducible refine N.forkF ?_ | refine N.call (cConfig _ _ _ _ _ _ _) ?_ | refine N.forkNo (by decide) ?_ | fail_if_success skip)
  refine N.go ?_
  refine N.callAll (cNewW (cfgF (1 + um 7 8) (1 + um 1 6) (um sp 40) (um er 10) (1 + um 1 6) (1 + um 1 8)) 6 8 _ hc rfl rfl rfl rfl) fun v ms hR => ?_
  obtain ⟨s, ⟨hs1, hs2⟩, rfl, rfl⟩ := hR
  repeat' (refine N.go ?_; first | with_reducible refine N.obl (by decide) ?_ | with_reducible refine N.obl (flat_wi _ _ _) ?_ | with_reducible refine N.obl (flat_lim _ _) ?_ | with_reducible refine N.eq ?_ | with_reducible refine N.obl rfl ?_ | with_reducible refine N.obl ⟨by kernel_rfl, by kernel_rfl⟩ ?_ | with_reducible refine N.forkT ?_ | with_reducible refine N.forkF ?_ | with_reducible refine N.call (cAwake24 _) ?_ | refine N.roll 1 ?_ | refine N.forkNo (by rw [decide_eq_false_iff_not]; omega) ?_ | refine N.forkYes (by rw [decide_eq_true_eq]; omega) ?_ | refine N.forkNo (by decide) ?_ | fail_if_success skip)
  all_goals rfl
set_option maxRecDepth 100000 in
theorem open_calls {H : Type} {enc : TypeId × Value → H} {W : World} {r : Reach} {base : Nat} {v : Value} {d : DataW H} {p : List MemPlace}
    (hv : Value.okWide Try.prog W r base 22 v) (h : DataW.Trod enc Try.prog W 0 (fun _ => true) true 22 v d p) :
    v = .slice none 0 0 ∨ ∃ (a : Addr) (n cap : Nat) (f : Nat → Value) (cl : Nat → Nat → Int), v = .slice (some a) n cap ∧ n ≤ 9223372036854775807 ∧ SeenIn W ⟨a, n * 6, f⟩ ∧ ∀ i, i < n → ∀ j, j < 6 → f (i * 6 + j) = .int .i64 (cl i j) := by
  have hsh := slice_shape Try.underlying22 hv
  obtain ⟨A, n, cap, f, rfl, hl, hm, hd, hseg, hrow⟩ := open_rows (C := 6) Try.underlying22 (by kernel_rfl) h hsh
  cases A with
  | none =>
    obtain ⟨rfl, rfl⟩ := okWide_nil Try.underlying22 hv
    exact .inl rfl
  | some a =>
    have hf : ∀ i, i < n → ∀ j, j < 6 → f (i * 6 + j) = .int .i64 (intOf (f (i * 6 + j))) := by
      intro i hi j hj
      obtain ⟨x, fuel, cs, ht, hcl, hc⟩ := hrow i hi
      match j, hj with
      | 0, _ => exact (leaf_int (d := 3) (l := 3) (j := 0) (by kernel_rfl) (@Try.underlying3) (hc 0 (by omega)) ht).1
      | 1, _ => exact (leaf_int (d := 3) (l := 3) (j := 1) (by kernel_rfl) (@Try.underlying3) (hc 1 (by omega)) ht).1
      | 2, _ => exact (leaf_int (d := 3) (l := 2) (j := 2) (by kernel_rfl) (@Try.underlying2) (hc 2 (by omega)) ht).1
      | 3, _ => exact (leaf_int (d := 3) (l := 2) (j := 3) (by kernel_rfl) (@Try.underlying2) (hc 3 (by omega)) ht).1
      | 4, _ => exact (leaf_int (d := 3) (l := 2) (j := 4) (by kernel_rfl) (@Try.underlying2) (hc 4 (by omega)) ht).1
      | 5, _ => exact (leaf_int (d := 3) (l := 2) (j := 5) (by kernel_rfl) (@Try.underlying2) (hc 5 (by omega)) ht).1
    have hlit := rows_lit (f := f) (n := n) (k := 6) (by decide) fun i hi j hj => by rw [hf i hi j hj]; rfl
    exact .inr ⟨a, n, cap, f, fun i j => intOf (f (i * 6 + j)), rfl, by simp only [maxLen] at hm; omega, SeenIn.some Try.underlying22 hv hseg hlit, hf⟩
set_option maxRecDepth 100000 in
theorem lifted (os : Os) (started : os.Started) (H : Type) (enc : TypeId × Value → H) :
    ReturnsInHanded {} Try.checked os 3 .any (Rows.truthMovesSpec.pre6 enc Try.prog Try.f3 Rows.truthMovesRow.domain false) (Rows.truthMovesSpec.post enc Try.prog Try.f3 false true false false) := by
  refine law_lifted (C := Try.checked) (tb := 4) Try.own started (by kernel_rfl) Try.func3 Try.laidOut (by kernel_rfl) rfl Try.underlying4 rfl
    (fun ds hds => by match ds, hds with | [_, _, _], _ => rfl)
    (ChangeSpec.witness6 (enc := enc) (C := Try.checked) false ⟨#[], #[.int .i64 0, .int .i64 0, .slice none 0 0], []⟩ 8 (by kernel_rfl) (by kernel_rfl) (by kernel_rfl) (by kernel_rfl)) ?_
  intro W base args ds p hval0 hA0 hsz0
  have hval : ∀ (j : Nat) t v, Try.f3.params[j]? = some t → args[j]? = some v → Value.okWide Try.prog W .any base t v := hval0
  have hA : DataW.TrodAll enc Try.prog W 0 (fun _ => true) true Try.f3.params.toList args.toList ds p := hA0
  have hsz : (DataW.weightsEach Try.prog Try.f3.params.toList ds).all (· ≤ reachBytes) = true := hsz0
  rw [Try.params3] at hA hval hsz
  obtain ⟨v0, vs0, d0, ds0, p0, q0, hargs, rfl, rfl, h0, r0⟩ := trodAll_cons hA
  obtain ⟨v1, vs1, d1, ds1, p1, q1, rfl, rfl, rfl, h1, r1⟩ := trodAll_cons r0
  obtain ⟨v2, vs2, d2, ds2, p2, q2, rfl, rfl, rfl, h2, r2⟩ := trodAll_cons r1
  obtain ⟨rfl, rfl, rfl⟩ := trodAll_nil r2
  obtain rfl : args = #[v0, v1, v2] := by cases args; simp_all
  obtain ⟨a0, rfl, rfl, rfl, w0⟩ := open_int Try.underlying3 (hval 0 _ v0 rfl rfl) h0
  obtain ⟨a1, rfl, rfl, rfl, w1⟩ := open_int Try.underlying3 (hval 1 _ v1 rfl rfl) h1
  rcases open_calls (hval 2 _ v2 rfl rfl) h2 with rfl | ⟨a, n, cap, f, cl, rfl, hn, hs, hf⟩
  · exact walk0 a0 a1 W
  exact walk a0 a1 a n cap f cl W hn hs hf

theorem proved : Rows.TruthMovesSaid :=
  OpenClaim.holds_of_wide 3 Try.f3 rfl rfl rfl rfl rfl rfl rfl ⟨rfl, rfl, rfl, rfl, rfl⟩ rfl rfl rfl rfl rfl (by kernel_rfl) Try.func3 (by kernel_rfl)
    (of_decide_eq_true (by kernel_rfl)) (by unfold Func.isWrapper; rw [if_neg (by decide +kernel)]; exact ⟨rfl, rfl⟩)
    (fun os started H enc _ => lifted os started H enc)
#print axioms proved
end Go.Proofs.Ytfpmmahonddpoaa.truthMoves
