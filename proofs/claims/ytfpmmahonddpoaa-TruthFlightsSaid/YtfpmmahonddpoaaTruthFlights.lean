/-
  The statement TruthFlights: for every input the law returns true.
-/
import Derived.Test.YtfpmmahonddpoaaTr10
set_option linter.unusedVariables false
set_option linter.unusedSimpArgs false
namespace Go.Proofs.Ytfpmmahonddpoaa.truthFlights
open Go Go.ChangeShapes Go.WideShapes Go.ChangeAt Go.RowKit Sx

theorem row6 {n i p : Nat} {f : Nat → Value} {cl : Nat → Nat → Int} (hf : ∀ i, i < n → ∀ j, j < 6 → f (i * 6 + j) = .int .i64 (cl i j)) (hi : i < n) (hp : p = i * 6) :
    Reads ⟨false, n * 6, [(0, n * 6, .agg ⟨segL (n * 6) f⟩)]⟩ p true 6 (.agg ⟨[.int .i64 (cl i 0), .int .i64 (cl i 1), .int .i64 (cl i 2), .int .i64 (cl i 3), .int .i64 (cl i 4), .int .i64 (cl i 5)]⟩) := by
  subst hp
  refine reads_seg _ (by omega) rfl fun j hj => ?_
  rw [hf i hi j hj]
  match j, hj with
  | 0, _ => rfl
  | 1, _ => rfl
  | 2, _ => rfl
  | 3, _ => rfl
  | 4, _ => rfl
  | 5, _ => rfl
theorem seg_same {ix : List (Nat × Nat)} {n : Nat} {f : Nat → Value} (hl : ∀ j, j < n → lit1 (f j) = true) : ChunkReLe ix (segC n f) (segC n f) := ⟨id, Nat.le_refl _, fun j hj => by
  have hj : j < n := hj
  rw [seg_at hj]; exact .plain (lit1_plain (hl j hj))⟩
structure LS where
  x : Nat
  tm : Int
  P : Nat → Int
def lsOK (n len : Nat) (q : LS) : Prop := 0 ≤ q.tm ∧ q.tm ≤ 60 ∧ q.tm ≤ q.x ∧ q.x ≤ len ∧ ∀ p, p < n → wiB (q.P (p * 2)) (q.P (p * 2 + 1)) 4194304
set_option maxRecDepth 100000 in
set_option maxHeartbeats 2000000 in
theorem cFlightM (c : Nat → Int) (n cap i j k : Nat) (P : Nat → Int) (M : Nat → Bool) (tm st : Int) (o1 o2 o3 : Bool) (p : Nat) (y : Int) (h : List (Option Chunk)) (hi : h[i]? = some (some (wcc o1 c n cap j k tm st))) (hj : h[j]? = some (some (ptP o2 n P))) (hk : h[k]? = some (some (mvP o3 n M))) (hp : p < n) (hx : ¬ (0 ≤ y ∧ y < (n : Int))) :
    CallOK Try.prog 15 [.pointer (some ⟨i, 0, some 0⟩), .int .i64 (p : Int), .int .i64 y] h (.int .i64 0) [] [i, j, k] := by
  refine call_sub (G := tys) [⟨i, _, wcc false c n cap 1 2 tm st, ⟨false, 0, []⟩⟩, ⟨j, _, ptP false n P, ⟨false, 0, []⟩⟩, ⟨k, _, mvP false n M, ⟨false, 0, []⟩⟩] [] [.pointer (some ⟨0, 0, some 0⟩), .int .i64 (p : Int), .int .i64 y] tysOK mixed Try.func15 (by rfl) (Try.call15) ⟨hi, hj, hk, trivial⟩ ⟨⟨fun h => (by cases h), Nat.le_refl _, wcc_re rfl rfl⟩, ⟨fun h => (by cases h), Nat.le_refl _, ptP_re⟩, ⟨fun h => (by cases h), Nat.le_refl _, mvP_re⟩, trivial⟩ (by simp [Apart]) trivial ⟨.ptr rfl, .plain rfl, .plain rfl, trivial⟩ ?_
  repeat' (refine N.go ?_; first | with_reducible refine N.obl (by decide) ?_ | with_reducible refine N.obl (flat_wi _ _ _) ?_ | with_reducible refine N.obl (flat_lim _ _) ?_ | with_reducible refine N.eq ?_ | with_reducible refine N.obl rfl ?_ | with_reducible refine N.obl ⟨by kernel_rfl, by kernel_rfl⟩ ?_ | with_reducible refine N.forkT ?_ | with_reducible refine N.forkF ?_ | refine N.call (cHas c n cap _ _ _ P M tm st _ _ _ _ _ (by rfl) (by rfl) (by rfl)) ?_ | refine N.forkNo (by simp only [decide_eq_true_eq, decide_eq_false_iff_not, Bool.not_eq_eq_eq_not, Bool.not_true, Bool.not_false]; omega) ?_ | refine N.forkYes (by simp only [decide_eq_true_eq, decide_eq_false_iff_not, Bool.not_eq_eq_eq_not, Bool.not_true, Bool.not_false]; omega) ?_ | refine N.obl trivial ?_ | exact N.true | refine N.obl (.plain rfl) ?_)
set_option maxRecDepth 100000 in
set_option maxHeartbeats 2000000 in
theorem walk (c : Nat → Int) (a : Addr) (len lcap : Nat) (f : Nat → Value) (cl : Nat → Nat → Int) (i j k : Int) (w : World) (hlen : len ≤ 9223372036854775807) (hsn : SeenIn w ⟨a, len * 6, f⟩) (hf : ∀ i, i < len → ∀ j, j < 6 → f (i * 6 + j) = .int .i64 (cl i j)) :
    Calls Try.prog 4 #[cfgV c, .slice (some a) len lcap, .int .i64 i, .int .i64 j, .int .i64 k] w fun e w' => e = .returned (.bool true) ∧ Below w.heap.size w w' := by
  have hl : ∀ j, j < len * 6 → lit1 (f j) = true := rows_lit (by decide) fun i hi j hj => by rw [hf i hi j hj]; rfl
  by_cases hc : mayC c
  · obtain ⟨n, hn⟩ := Int.eq_ofNat_of_zero_le (show 0 ≤ c 0 by have := hc.1; omega)
    have hn1 : 1 ≤ n ∧ n ≤ 64 := by have := hc.1; omega
    have hc2 : 0 ≤ c 2 ∧ c 2 ≤ 1000 := hc.2.2.1
    have hc3 : 0 ≤ c 3 ∧ c 3 ≤ 1000 := hc.2.2.2.1
    refine calls_args (G := tys) (vs := [cfgV c, .slice (some ⟨0, 0, some 0⟩) len lcap, .int .i64 i, .int .i64 j, .int .i64 k]) [⟨a, len * 6, f⟩] w tysOK mixed Try.func4 (by rfl) (by simpa using hsn) ⟨.plain rfl, .slice rfl, .plain rfl, .plain rfl, .plain rfl, trivial⟩ rfl ?_
    repeat' (refine N.go ?_; first | with_reducible refine N.obl (by decide) ?_ | with_reducible refine N.obl (flat_wi _ _ _) ?_ | with_reducible refine N.obl (flat_lim _ _) ?_ | with_reducible refine N.eq ?_ | with_reducible refine N.obl rfl ?_ | with_reducible refine N.obl ⟨by kernel_rfl, by kernel_rfl⟩ ?_ | with_reducible refine N.forkT ?_ | with_reducible refine N.forkF ?_ | fail_if_success skip)
    refine N.go ?_
    refine N.callAll (cNewW c 3 n _ hc hn rfl rfl rfl) fun v ms hR => ?_
    obtain ⟨s, ⟨hs1, hs2⟩, rfl, rfl⟩ := hR
    repeat' (refine N.go ?_; first | with_reducible refine N.obl (by decide) ?_ | with_reducible refine N.obl (flat_wi _ _ _) ?_ | with_reducible refine N.obl (flat_lim _ _) ?_ | with_reducible refine N.eq ?_ | with_reducible refine N.obl rfl ?_ | with_reducible refine N.obl ⟨by kernel_rfl, by kernel_rfl⟩ ?_ | with_reducible refine N.forkT ?_ | with_reducible refine N.forkF ?_ | fail_if_success skip)
    refine N.go ?_
    refine N.loopR (α := LS) (lsOK n len) (fun q => len - q.x) (fun q => [(27, .int .i64 (q.x : Int))]) (fun q => [(3, wcc true c n s.cap 4 5 q.tm 0), (4, ptP true n q.P), (5, mvP true n (fun _ => false))]) ⟨0, 0, pos0⟩ [(0, 0), (1, 1), (3, 3), (4, 4), (5, 5)] ⟨by decide, by decide, by decide, Nat.zero_le _, fun p hp => pos0_wi p (by omega)⟩ ?_ ?_
    · repeat' (refine N.go ?_; first | exact N.true | refine N.obl (.plain (by rfl)) ?_ | refine N.obl (.one (.ptr rfl)) ?_ | refine N.obl (.one (.slice rfl)) ?_ | refine N.obl (ChunkReLe.same (agg_plain (by rfl) (by rfl))) ?_ | refine N.obl (seg_same hl) ?_ | refine N.obl ⟨id, Nat.le_refl _, ptP_re⟩ ?_ | refine N.obl ⟨id, Nat.le_refl _, mvP_re⟩ ?_ | refine N.obl ⟨id, Nat.le_refl _, wcc_re rfl rfl⟩ ?_ | refine N.obl ⟨id, Nat.le_refl _, wcc_re (j := 4) (k := 5) (j' := 4) (k' := 7) (by rfl) (by rfl)⟩ ?_ | fail_if_success skip)
    · intro q hq
      obtain ⟨q1, q2, q3, q4, qP⟩ := hq
      by_cases hlt : q.x < len
      · refine N.go ?_
        refine N.forkYes (by simpa using hlt) ?_
        refine N.go ?_
        refine N.idx q.x 1 rfl hlt ?_
        refine N.go ?_
        refine N.load _ (row6 hf hlt (by first | rfl | (show 0 + q.x * 6 = q.x * 6; omega))) ?_
        by_cases h60 : q.x < 60
        · by_cases hin : 0 ≤ cl q.x 1 ∧ cl q.x 1 < (n : Int)
          · obtain ⟨p, hp⟩ := Int.eq_ofNat_of_zero_le hin.1
            have hpn : p < n := by omega
            rcases move_two c n 3 4 5 q.P (fun _ => false) p (cl q.x 2) (cl q.x 3) (cl q.x 4) (cl q.x 5) hpn hc2 hc3 (by decide) (by decide) (by decide) (qP p hpn) with ⟨e, _, H⟩ | ⟨hm, H⟩
            · repeat' (refine N.go ?_; first | with_reducible refine N.obl (by decide) ?_ | with_reducible refine N.obl (flat_wi _ _ _) ?_ | with_reducible refine N.obl (flat_lim _ _) ?_ | with_reducible refine N.eq ?_ | with_reducible refine N.obl rfl ?_ | with_reducible refine N.obl ⟨by kernel_rfl, by kernel_rfl⟩ ?_ | with_reducible refine N.forkT ?_ | with_reducible refine N.forkF ?_ | refine N.call (show CallOK Try.prog 12 [.pointer (some ⟨3, 0, some 0⟩), .int .i64 (cl q.x 1), .agg #[.int .i64 (cl q.x 2), .int .i64 (cl q.x 3)], .agg #[.int .i64 (cl q.x 4), .int .i64 (cl q.x 5)]] _ _ _ _ from by rw [hp]; exact H s.cap q.tm 0 true _ (by rfl) (by rfl) (by rfl)) ?_ | refine N.call (cTickY c n s.cap 3 4 5 7 q.P (fun _ => false) q.tm 0 _ _ _ (by rfl) (by rfl) (by rfl) (by rfl) (by decide) (by decide) hn1 (by omega)) ?_ | refine N.forkNo (by rw [decide_eq_false_iff_not]; omega) ?_ | refine N.forkYes (by rw [decide_eq_true_eq]; omega) ?_ | fail_if_success skip)
              refine N.go ?_
              refine N.nextR (α := LS) ⟨q.x + 1, q.tm + 1, q.P⟩ [(0, 0), (1, 1), (3, 3), (4, 4), (7, 5)] ⟨⟨by show 0 ≤ q.tm + 1; omega, by show q.tm + 1 ≤ 60; omega, by show q.tm + 1 ≤ ((q.x + 1 : Nat) : Int); omega, by show q.x + 1 ≤ len; omega, qP⟩, by show len - (q.x + 1) < len - q.x; omega⟩ ?_
              repeat' (refine N.go ?_; first | exact N.true | refine N.obl (.plain (by rfl)) ?_ | refine N.obl (.one (.ptr rfl)) ?_ | refine N.obl (.one (.slice rfl)) ?_ | refine N.obl (ChunkReLe.same (agg_plain (by rfl) (by rfl))) ?_ | refine N.obl (seg_same hl) ?_ | refine N.obl ⟨id, Nat.le_refl _, ptP_re⟩ ?_ | refine N.obl ⟨id, Nat.le_refl _, mvP_re⟩ ?_ | refine N.obl ⟨id, Nat.le_refl _, wcc_re rfl rfl⟩ ?_ | refine N.obl ⟨id, Nat.le_refl _, wcc_re (j := 4) (k := 5) (j' := 4) (k' := 7) (by rfl) (by rfl)⟩ ?_ | refine N.obl (re_eq (int_eq (by rw [i64s ((q.x : Int) + 1) (by omega) (by omega)]; rfl)) rfl) ?_ | fail_if_success skip)
            · repeat' (refine N.go ?_; first | with_reducible refine N.obl (by decide) ?_ | with_reducible refine N.obl (flat_wi _ _ _) ?_ | with_reducible refine N.obl (flat_lim _ _) ?_ | with_reducible refine N.eq ?_ | with_reducible refine N.obl rfl ?_ | with_reducible refine N.obl ⟨by kernel_rfl, by kernel_rfl⟩ ?_ | with_reducible refine N.forkT ?_ | with_reducible refine N.forkF ?_ | refine N.call (show CallOK Try.prog 12 [.pointer (some ⟨3, 0, some 0⟩), .int .i64 (cl q.x 1), .agg #[.int .i64 (cl q.x 2), .int .i64 (cl q.x 3)], .agg #[.int .i64 (cl q.x 4), .int .i64 (cl q.x 5)]] _ _ _ _ from by rw [hp]; exact H s.cap q.tm 0 true _ (by rfl) (by rfl) (by rfl)) ?_ | refine N.call (cTickY c n s.cap 3 4 5 7 (movP q.P p (q.P (p * 2) + cl q.x 2) (q.P (p * 2 + 1) + cl q.x 3)) (movM (fun _ => false) p) q.tm 0 _ _ _ (by rfl) (by rfl) (by rfl) (by rfl) (by decide) (by decide) hn1 (by omega)) ?_ | refine N.forkNo (by rw [decide_eq_false_iff_not]; omega) ?_ | refine N.forkYes (by rw [decide_eq_true_eq]; omega) ?_ | fail_if_success skip)
              refine N.go ?_
              refine N.nextR (α := LS) ⟨q.x + 1, q.tm + 1, (movP q.P p (q.P (p * 2) + cl q.x 2) (q.P (p * 2 + 1) + cl q.x 3))⟩ [(0, 0), (1, 1), (3, 3), (4, 4), (7, 5)] ⟨⟨by show 0 ≤ q.tm + 1; omega, by show q.tm + 1 ≤ 60; omega, by show q.tm + 1 ≤ ((q.x + 1 : Nat) : Int); omega, by show q.x + 1 ≤ len; omega, (movP_wi qP hm.2.2.2.2.2)⟩, by show len - (q.x + 1) < len - q.x; omega⟩ ?_
              repeat' (refine N.go ?_; first | exact N.true | refine N.obl (.plain (by rfl)) ?_ | refine N.obl (.one (.ptr rfl)) ?_ | refine N.obl (.one (.slice rfl)) ?_ | refine N.obl (ChunkReLe.same (agg_plain (by rfl) (by rfl))) ?_ | refine N.obl (seg_same hl) ?_ | refine N.obl ⟨id, Nat.le_refl _, ptP_re⟩ ?_ | refine N.obl ⟨id, Nat.le_refl _, mvP_re⟩ ?_ | refine N.obl ⟨id, Nat.le_refl _, wcc_re rfl rfl⟩ ?_ | refine N.obl ⟨id, Nat.le_refl _, wcc_re (j := 4) (k := 5) (j' := 4) (k' := 7) (by rfl) (by rfl)⟩ ?_ | refine N.obl (re_eq (int_eq (by rw [i64s ((q.x : Int) + 1) (by omega) (by omega)]; rfl)) rfl) ?_ | fail_if_success skip)
          · repeat' (refine N.go ?_; first | with_reducible refine N.obl (by decide) ?_ | with_reducible refine N.obl (flat_wi _ _ _) ?_ | with_reducible refine N.obl (flat_lim _ _) ?_ | with_reducible refine N.eq ?_ | with_reducible refine N.obl rfl ?_ | with_reducible refine N.obl ⟨by kernel_rfl, by kernel_rfl⟩ ?_ | with_reducible refine N.forkT ?_ | with_reducible refine N.forkF ?_ | refine N.call (cMoveX c n s.cap 3 4 5 q.P (fun _ => false) q.tm 0 true true true (cl q.x 1) _ _ _ _ _ (by rfl) (by rfl) (by rfl) hin) ?_ | refine N.call (cTickY c n s.cap 3 4 5 7 q.P (fun _ => false) q.tm 0 _ _ _ (by rfl) (by rfl) (by rfl) (by rfl) (by decide) (by decide) hn1 (by omega)) ?_ | refine N.forkNo (by rw [decide_eq_false_iff_not]; omega) ?_ | refine N.forkYes (by rw [decide_eq_true_eq]; omega) ?_ | fail_if_success skip)
            refine N.go ?_
            refine N.nextR (α := LS) ⟨q.x + 1, q.tm + 1, q.P⟩ [(0, 0), (1, 1), (3, 3), (4, 4), (7, 5)] ⟨⟨by show 0 ≤ q.tm + 1; omega, by show q.tm + 1 ≤ 60; omega, by show q.tm + 1 ≤ ((q.x + 1 : Nat) : Int); omega, by show q.x + 1 ≤ len; omega, qP⟩, by show len - (q.x + 1) < len - q.x; omega⟩ ?_
            repeat' (refine N.go ?_; first | exact N.true | refine N.obl (.plain (by rfl)) ?_ | refine N.obl (.one (.ptr rfl)) ?_ | refine N.obl (.one (.slice rfl)) ?_ | refine N.obl (ChunkReLe.same (agg_plain (by rfl) (by rfl))) ?_ | refine N.obl (seg_same hl) ?_ | refine N.obl ⟨id, Nat.le_refl _, ptP_re⟩ ?_ | refine N.obl ⟨id, Nat.le_refl _, mvP_re⟩ ?_ | refine N.obl ⟨id, Nat.le_refl _, wcc_re rfl rfl⟩ ?_ | refine N.obl ⟨id, Nat.le_refl _, wcc_re (j := 4) (k := 5) (j' := 4) (k' := 7) (by rfl) (by rfl)⟩ ?_ | refine N.obl (re_eq (int_eq (by rw [i64s ((q.x : Int) + 1) (by omega) (by omega)]; rfl)) rfl) ?_ | fail_if_success skip)
        · repeat' (refine N.go ?_; first | with_reducible refine N.obl (by decide) ?_ | with_reducible refine N.obl (flat_wi _ _ _) ?_ | with_reducible refine N.obl (flat_lim _ _) ?_ | with_reducible refine N.eq ?_ | with_reducible refine N.obl rfl ?_ | with_reducible refine N.obl ⟨by kernel_rfl, by kernel_rfl⟩ ?_ | with_reducible refine N.forkT ?_ | with_reducible refine N.forkF ?_ | refine N.forkNo (by rw [decide_eq_false_iff_not]; omega) ?_ | refine N.forkYes (by rw [decide_eq_true_eq]; omega) ?_ | fail_if_success skip)
          refine N.go ?_
          refine N.nextR (α := LS) ⟨q.x + 1, q.tm, q.P⟩ [(0, 0), (1, 1), (3, 3), (4, 4), (5, 5)] ⟨⟨q1, q2, by show q.tm ≤ ((q.x + 1 : Nat) : Int); omega, by show q.x + 1 ≤ len; omega, qP⟩, by show len - (q.x + 1) < len - q.x; omega⟩ ?_
          repeat' (refine N.go ?_; first | exact N.true | refine N.obl (.plain (by rfl)) ?_ | refine N.obl (.one (.ptr rfl)) ?_ | refine N.obl (.one (.slice rfl)) ?_ | refine N.obl (ChunkReLe.same (agg_plain (by rfl) (by rfl))) ?_ | refine N.obl (seg_same hl) ?_ | refine N.obl ⟨id, Nat.le_refl _, ptP_re⟩ ?_ | refine N.obl ⟨id, Nat.le_refl _, mvP_re⟩ ?_ | refine N.obl ⟨id, Nat.le_refl _, wcc_re rfl rfl⟩ ?_ | refine N.obl ⟨id, Nat.le_refl _, wcc_re (j := 4) (k := 5) (j' := 4) (k' := 7) (by rfl) (by rfl)⟩ ?_ | refine N.obl (re_eq (int_eq (by rw [i64s ((q.x : Int) + 1) (by omega) (by omega)]; rfl)) rfl) ?_ | fail_if_success skip)
      · refine N.go ?_
        refine N.forkNo (by simpa using hlt) ?_
        repeat' (refine N.go ?_; first | with_reducible refine N.obl (by decide) ?_ | with_reducible refine N.obl (flat_wi _ _ _) ?_ | with_reducible refine N.obl (flat_lim _ _) ?_ | with_reducible refine N.eq ?_ | with_reducible refine N.obl rfl ?_ | with_reducible refine N.obl ⟨by kernel_rfl, by kernel_rfl⟩ ?_ | with_reducible refine N.forkT ?_ | with_reducible refine N.forkF ?_ | refine N.obl (by rw [hn]; simp only [IntKind.wrap_i64, IntKind.wrap_u64]; omega) ?_ | refine N.forkNo (by rw [decide_eq_false_iff_not]; omega) ?_ | refine N.forkYes (by rw [decide_eq_true_eq]; omega) ?_ | fail_if_success skip)
        refine N.go ?_
        obtain ⟨pi', hpi', pi'n⟩ : ∃ p : Nat, IntKind.i64.wrap ((IntKind.u64.wrap i).tmod (IntKind.u64.wrap (c 0))) = (p : Int) ∧ p < n := by
          have h := u64mod i n (by omega) (by omega)
          have e : IntKind.u64.wrap (c 0) = n := by rw [IntKind.wrap_u64]; omega
          rw [e]
          exact ⟨(IntKind.i64.wrap ((IntKind.u64.wrap i).tmod n)).toNat, by omega, by omega⟩
        generalize IntKind.i64.wrap ((IntKind.u64.wrap i).tmod (IntKind.u64.wrap (c 0))) = zpi' at hpi' ⊢
        subst hpi'
        obtain ⟨pj', hpj', pj'n⟩ : ∃ p : Nat, IntKind.i64.wrap ((IntKind.u64.wrap j).tmod (IntKind.u64.wrap (c 0))) = (p : Int) ∧ p < n := by
          have h := u64mod j n (by omega) (by omega)
          have e : IntKind.u64.wrap (c 0) = n := by rw [IntKind.wrap_u64]; omega
          rw [e]
          exact ⟨(IntKind.i64.wrap ((IntKind.u64.wrap j).tmod n)).toNat, by omega, by omega⟩
        generalize IntKind.i64.wrap ((IntKind.u64.wrap j).tmod (IntKind.u64.wrap (c 0))) = zpj' at hpj' ⊢
        subst hpj'
        obtain ⟨pk', hpk', pk'n⟩ : ∃ p : Nat, IntKind.i64.wrap ((IntKind.u64.wrap k).tmod (IntKind.u64.wrap (c 0))) = (p : Int) ∧ p < n := by
          have h := u64mod k n (by omega) (by omega)
          have e : IntKind.u64.wrap (c 0) = n := by rw [IntKind.wrap_u64]; omega
          rw [e]
          exact ⟨(IntKind.i64.wrap ((IntKind.u64.wrap k).tmod n)).toNat, by omega, by omega⟩
        generalize IntKind.i64.wrap ((IntKind.u64.wrap k).tmod (IntKind.u64.wrap (c 0))) = zpk' at hpk' ⊢
        subst hpk'
        have wi' := qP pi' pi'n
        have wj' := qP pj' pj'n
        have wk' := qP pk' pk'n
        obtain ⟨A, B, C, d1, d2, d3, d4, d5, d6, d7, d8, d9⟩ := tri22 _ _ _ _ _ _ wi' wj' wk'
        repeat' (refine N.go ?_; first | with_reducible refine N.obl (by decide) ?_ | with_reducible refine N.obl (flat_wi _ _ _) ?_ | with_reducible refine N.obl (flat_lim _ _) ?_ | with_reducible refine N.eq ?_ | with_reducible refine N.obl rfl ?_ | with_reducible refine N.obl ⟨by kernel_rfl, by kernel_rfl⟩ ?_ | with_reducible refine N.forkT ?_ | with_reducible refine N.forkF ?_ | refine N.call (cFlightY c n s.cap 3 4 5 q.P (fun _ => false) q.tm 0 true true true _ _ _ (by rfl) (by rfl) (by rfl) (by assumption) (by assumption)) ?_ | refine N.call (cFlightM c n s.cap 3 4 5 q.P (fun _ => false) q.tm 0 true true true _ _ _ (by rfl) (by rfl) (by rfl) (by assumption) (by omega)) ?_ | refine N.forkYes (by decide) ?_ | with_reducible refine N.call (cAwake24 _) ?_ | refine N.forkYes (by rw [d9]; rfl) ?_ | refine N.forkYes (by rw [d1, d4]; exact beq_self_eq_true _) ?_ | refine N.forkYes (decide_eq_true (by rw [d3, d1, d2, i64s ((A : Int) + B) (by omega) (by omega), i64s ((A : Int) + B + 1) (by omega) (by omega)]; omega)) ?_ | fail_if_success skip)
        all_goals rfl
  · refine calls_args (G := tys) (vs := [cfgV c, .slice (some ⟨0, 0, some 0⟩) len lcap, .int .i64 i, .int .i64 j, .int .i64 k]) [⟨a, len * 6, f⟩] w tysOK mixed Try.func4 (by rfl) (by simpa using hsn) ⟨.plain rfl, .slice rfl, .plain rfl, .plain rfl, .plain rfl, trivial⟩ rfl ?_
    repeat' (refine N.go ?_; first | with_reducible refine N.obl (by decide) ?_ | with_reducible refine N.obl (flat_wi _ _ _) ?_ | with_reducible refine N.obl (flat_lim _ _) ?_ | with_reducible refine N.eq ?_ | with_reducible refine N.obl rfl ?_ | with_reducible refine N.obl ⟨by kernel_rfl, by kernel_rfl⟩ ?_ | with_reducible refine N.forkT ?_ | with_reducible refine N.forkF ?_ | with_reducible refine N.call (cNewNil _ _ hc) ?_ | with_reducible refine N.call (cTmay _ _) ?_ | with_reducible refine N.call (cAwake24 _) ?_ | refine N.forkNo (by rw [decide_eq_true (by assumption)]; rfl) ?_ | refine N.forkYes (by rw [decide_eq_false (by assumption)]; rfl) ?_ | refine N.forkYes (decide_eq_true (by assumption)) ?_ | refine N.forkNo (decide_eq_false (by assumption)) ?_ | refine N.forkNo (by decide) ?_ | refine N.forkYes (by decide) ?_)
    all_goals rfl
set_option maxRecDepth 100000 in
set_option maxHeartbeats 2000000 in
theorem walk0 (c : Nat → Int) (i j k : Int) (w : World) : Calls Try.prog 4 #[cfgV c, .slice none 0 0, .int .i64 i, .int .i64 j, .int .i64 k] w fun e w' => e = .returned (.bool true) ∧ Below w.heap.size w w' := by
  by_cases hc : mayC c
  · obtain ⟨n, hn⟩ := Int.eq_ofNat_of_zero_le (show 0 ≤ c 0 by have := hc.1; omega)
    have hn1 : 1 ≤ n ∧ n ≤ 64 := by have := hc.1; omega
    refine calls_pure (G := tys) w tysOK mixed Try.func4 (by rfl) (by rfl) (by rfl) ?_
    repeat' (refine N.go ?_; first | with_reducible refine N.obl (by decide) ?_ | with_reducible refine N.obl (flat_wi _ _ _) ?_ | with_reducible refine N.obl (flat_lim _ _) ?_ | with_reducible refine N.eq ?_ | with_reducible refine N.obl rfl ?_ | with_reducible refine N.obl ⟨by kernel_rfl, by kernel_rfl⟩ ?_ | with_reducible refine N.forkT ?_ | with_reducible refine N.forkF ?_ | fail_if_success skip)
    refine N.go ?_
    refine N.callAll (cNewW c 2 n _ hc hn rfl rfl rfl) fun v ms hR => ?_
    obtain ⟨s, ⟨hs1, hs2⟩, rfl, rfl⟩ := hR
    repeat' (refine N.go ?_; first | with_reducible refine N.obl (by decide) ?_ | with_reducible refine N.obl (flat_wi _ _ _) ?_ | with_reducible refine N.obl (flat_lim _ _) ?_ | with_reducible refine N.eq ?_ | with_reducible refine N.obl rfl ?_ | with_reducible refine N.obl ⟨by kernel_rfl, by kernel_rfl⟩ ?_ | with_reducible refine N.forkT ?_ | with_reducible refine N.forkF ?_ | refine N.forkNo (by decide) ?_ | refine N.obl (by rw [hn]; simp only [IntKind.wrap_i64, IntKind.wrap_u64]; omega) ?_ | fail_if_success skip)
    refine N.go ?_
    refine N.roll 1 ?_
    repeat' (refine N.go ?_; first | with_reducible refine N.obl (by decide) ?_ | with_reducible refine N.obl (flat_wi _ _ _) ?_ | with_reducible refine N.obl (flat_lim _ _) ?_ | with_reducible refine N.eq ?_ | with_reducible refine N.obl rfl ?_ | with_reducible refine N.obl ⟨by kernel_rfl, by kernel_rfl⟩ ?_ | with_reducible refine N.forkT ?_ | with_reducible refine N.forkF ?_ | refine N.forkNo (by decide) ?_ | refine N.obl (by rw [hn]; simp only [IntKind.wrap_i64, IntKind.wrap_u64]; omega) ?_ | fail_if_success skip)
    refine N.go ?_
    obtain ⟨pi', hpi', pi'n⟩ : ∃ p : Nat, IntKind.i64.wrap ((IntKind.u64.wrap i).tmod (IntKind.u64.wrap (c 0))) = (p : Int) ∧ p < n := by
      have h := u64mod i n (by omega) (by omega)
      have e : IntKind.u64.wrap (c 0) = n := by rw [IntKind.wrap_u64]; omega
      rw [e]
      exact ⟨(IntKind.i64.wrap ((IntKind.u64.wrap i).tmod n)).toNat, by omega, by omega⟩
    generalize IntKind.i64.wrap ((IntKind.u64.wrap i).tmod (IntKind.u64.wrap (c 0))) = zpi' at hpi' ⊢
    subst hpi'
    obtain ⟨pj', hpj', pj'n⟩ : ∃ p : Nat, IntKind.i64.wrap ((IntKind.u64.wrap j).tmod (IntKind.u64.wrap (c 0))) = (p : Int) ∧ p < n := by
      have h := u64mod j n (by omega) (by omega)
      have e : IntKind.u64.wrap (c 0) = n := by rw [IntKind.wrap_u64]; omega
      rw [e]
      exact ⟨(IntKind.i64.wrap ((IntKind.u64.wrap j).tmod n)).toNat, by omega, by omega⟩
    generalize IntKind.i64.wrap ((IntKind.u64.wrap j).tmod (IntKind.u64.wrap (c 0))) = zpj' at hpj' ⊢
    subst hpj'
    obtain ⟨pk', hpk', pk'n⟩ : ∃ p : Nat, IntKind.i64.wrap ((IntKind.u64.wrap k).tmod (IntKind.u64.wrap (c 0))) = (p : Int) ∧ p < n := by
      have h := u64mod k n (by omega) (by omega)
      have e : IntKind.u64.wrap (c 0) = n := by rw [IntKind.wrap_u64]; omega
      rw [e]
      exact ⟨(IntKind.i64.wrap ((IntKind.u64.wrap k).tmod n)).toNat, by omega, by omega⟩
    generalize IntKind.i64.wrap ((IntKind.u64.wrap k).tmod (IntKind.u64.wrap (c 0))) = zpk' at hpk' ⊢
    subst hpk'
    have wi' := pos0_wi pi' (by omega)
    have wj' := pos0_wi pj' (by omega)
    have wk' := pos0_wi pk' (by omega)
    obtain ⟨A, B, C, d1, d2, d3, d4, d5, d6, d7, d8, d9⟩ := tri22 _ _ _ _ _ _ wi' wj' wk'
    repeat' (refine N.go ?_; first | with_reducible refine N.obl (by decide) ?_ | with_reducible refine N.obl (flat_wi _ _ _) ?_ | with_reducible refine N.obl (flat_lim _ _) ?_ | with_reducible refine N.eq ?_ | with_reducible refine N.obl rfl ?_ | with_reducible refine N.obl ⟨by kernel_rfl, by kernel_rfl⟩ ?_ | with_reducible refine N.forkT ?_ | with_reducible refine N.forkF ?_ | refine N.call (cFlightY c n s.cap 2 3 4 pos0 (fun _ => false) 0 0 true true true _ _ _ (by rfl) (by rfl) (by rfl) (by assumption) (by assumption)) ?_ | refine N.call (cFlightM c n s.cap 2 3 4 pos0 (fun _ => false) 0 0 true true true _ _ _ (by rfl) (by rfl) (by rfl) (by assumption) (by omega)) ?_ | refine N.forkYes (by decide) ?_ | with_reducible refine N.call (cAwake24 _) ?_ | refine N.forkYes (by rw [d9]; rfl) ?_ | refine N.forkYes (by rw [d1, d4]; exact beq_self_eq_true _) ?_ | refine N.forkYes (decide_eq_true (by rw [d3, d1, d2, i64s ((A : Int) + B) (by omega) (by omega), i64s ((A : Int) + B + 1) (by omega) (by omega)]; omega)) ?_ | fail_if_success skip)
    all_goals rfl
  · refine calls_pure (G := tys) w tysOK mixed Try.func4 (by rfl) (by rfl) (by rfl) ?_
    repeat' (refine N.go ?_; first | with_reducible refine N.obl (by decide) ?_ | with_reducible refine N.obl (flat_wi _ _ _) ?_ | with_reducible refine N.obl (flat_lim _ _) ?_ | with_reducible refine N.eq ?_ | with_reducible refine N.obl rfl ?_ | with_reducible refine N.obl ⟨by kernel_rfl, by kernel_rfl⟩ ?_ | with_reducible refine N.forkT ?_ | with_reducible refine N.forkF ?_ | with_reducible refine N.call (cNewNil _ _ hc) ?_ | with_reducible refine N.call (cTmay _ _) ?_ | with_reducible refine N.call (cAwake24 _) ?_ | refine N.forkNo (by rw [decide_eq_true (by assumption)]; rfl) ?_ | refine N.forkYes (by rw [decide_eq_false (by assumption)]; rfl) ?_ | refine N.forkYes (decide_eq_true (by assumption)) ?_ | refine N.forkNo (decide_eq_false (by assumption)) ?_ | refine N.forkNo (by decide) ?_ | refine N.forkYes (by decide) ?_)
    all_goals rfl
set_option maxRecDepth 100000 in
theorem open_calls {H : Type} {enc : TypeId × Value → H} {W : World} {r : Reach} {base : Nat} {v : Value} {d : DataW H} {p : List MemPlace}
    (hv : Value.okWide Try.prog W r base 22 v) (h : DataW.Trod enc Try.prog W 0 (fun _ => true) true 22 v d p) :
    v = .slice none 0 0 ∨ ∃ (a : Addr) (n cap : Nat) (f : Nat → Value) (cl : Nat → Nat → Int), v = .slice (some a) n cap ∧ n ≤ 9223372036854775807 ∧ SeenIn W ⟨a, n * 6, f⟩ ∧ ∀ i, i < n → ∀ j, j < 6 → f (i * 6 + j) = .int .i64 (cl i j) := by
  have hsh := slice_shape Try.underlying22 hv
  obtain ⟨A, n, cap, f, rfl, hl, hm, hd, hseg, hrow⟩ := open_rows (C := 6) Try.underlying22 (by kernel_rfl) h hsh
  cases A with
  | none =>
    obtain ⟨rfl, rfl⟩ := okWide_nil Try.underlying22 hv
    exact .inl rfl
  | some a =>
    have hf : ∀ i, i < n → ∀ j, j < 6 → f (i * 6 + j) = .int .i64 (intOf (f (i * 6 + j))) := by
      intro i hi j hj
      obtain ⟨x, fuel, cs, ht, hcl, hc⟩ := hrow i hi
      match j, hj with
      | 0, _ => exact (leaf_int (d := 3) (l := 3) (j := 0) (by kernel_rfl) (@Try.underlying3) (hc 0 (by omega)) ht).1
      | 1, _ => exact (leaf_int (d := 3) (l := 3) (j := 1) (by kernel_rfl) (@Try.underlying3) (hc 1 (by omega)) ht).1
      | 2, _ => exact (leaf_int (d := 3) (l := 2) (j := 2) (by kernel_rfl) (@Try.underlying2) (hc 2 (by omega)) ht).1
      | 3, _ => exact (leaf_int (d := 3) (l := 2) (j := 3) (by kernel_rfl) (@Try.underlying2) (hc 3 (by omega)) ht).1
      | 4, _ => exact (leaf_int (d := 3) (l := 2) (j := 4) (by kernel_rfl) (@Try.underlying2) (hc 4 (by omega)) ht).1
      | 5, _ => exact (leaf_int (d := 3) (l := 2) (j := 5) (by kernel_rfl) (@Try.underlying2) (hc 5 (by omega)) ht).1
    have hlit := rows_lit (f := f) (n := n) (k := 6) (by decide) fun i hi j hj => by rw [hf i hi j hj]; rfl
    exact .inr ⟨a, n, cap, f, fun i j => intOf (f (i * 6 + j)), rfl, by simp only [maxLen] at hm; omega, SeenIn.some Try.underlying22 hv hseg hlit, hf⟩
set_option maxRecDepth 100000 in
theorem lifted (os : Os) (started : os.Started) (H : Type) (enc : TypeId × Value → H) :
    ReturnsInHanded {} Try.checked os 4 .any (Rows.truthFlightsSpec.pre6 enc Try.prog Try.f4 Rows.truthFlightsRow.domain false) (Rows.truthFlightsSpec.post enc Try.prog Try.f4 false true false false) := by
  refine law_lifted (C := Try.checked) (tb := 4) Try.own started (by kernel_rfl) Try.func4 Try.laidOut (by kernel_rfl) rfl Try.underlying4 rfl
    (fun ds hds => by match ds, hds with | [_, _, _, _, _], _ => rfl)
    (ChangeSpec.witness6 (enc := enc) (C := Try.checked) false ⟨#[], #[.agg #[.int .i64 0, .int .i64 0, .int .i64 0, .int .i64 0, .int .i64 0, .int .i64 0, .int .i64 0, .int .i64 0, .int .i64 0, .int .i64 0, .int .i64 0], .slice none 0 0, .int .i64 0, .int .i64 0, .int .i64 0], []⟩ 8 (by kernel_rfl) (by kernel_rfl) (by kernel_rfl) (by kernel_rfl)) ?_
  intro W base args ds p hval0 hA0 hsz0
  have hval : ∀ (j : Nat) t v, Try.f4.params[j]? = some t → args[j]? = some v → Value.okWide Try.prog W .any base t v := hval0
  have hA : DataW.TrodAll enc Try.prog W 0 (fun _ => true) true Try.f4.params.toList args.toList ds p := hA0
  have hsz : (DataW.weightsEach Try.prog Try.f4.params.toList ds).all (· ≤ reachBytes) = true := hsz0
  rw [Try.params4] at hA hval hsz
  obtain ⟨v0, vs0, d0, ds0, p0, q0, hargs, rfl, rfl, h0, r0⟩ := trodAll_cons hA
  obtain ⟨v1, vs1, d1, ds1, p1, q1, rfl, rfl, rfl, h1, r1⟩ := trodAll_cons r0
  obtain ⟨v2, vs2, d2, ds2, p2, q2, rfl, rfl, rfl, h2, r2⟩ := trodAll_cons r1
  obtain ⟨v3, vs3, d3, ds3, p3, q3, rfl, rfl, rfl, h3, r3⟩ := trodAll_cons r2
  obtain ⟨v4, vs4, d4, ds4, p4, q4, rfl, rfl, rfl, h4, r4⟩ := trodAll_cons r3
  obtain ⟨rfl, rfl, rfl⟩ := trodAll_nil r4
  obtain rfl : args = #[v0, v1, v2, v3, v4] := by cases args; simp_all
  obtain ⟨f0_0, f0_1, f0_2, f0_3, f0_4, f0_5, f0_6, f0_7, f0_8, f0_9, f0_10, rfl⟩ := open_config (hval 0 _ v0 rfl rfl) h0
  obtain ⟨a2, rfl, rfl, rfl, w2⟩ := open_int Try.underlying3 (hval 2 _ v2 rfl rfl) h2
  obtain ⟨a3, rfl, rfl, rfl, w3⟩ := open_int Try.underlying3 (hval 3 _ v3 rfl rfl) h3
  obtain ⟨a4, rfl, rfl, rfl, w4⟩ := open_int Try.underlying3 (hval 4 _ v4 rfl rfl) h4
  rcases open_calls (hval 1 _ v1 rfl rfl) h1 with rfl | ⟨a, n, cap, f, cl, rfl, hn, hs, hf⟩
  · exact walk0 (fun j => [f0_0, f0_1, f0_2, f0_3, f0_4, f0_5, f0_6, f0_7, f0_8, f0_9, f0_10].getD j 0) a2 a3 a4 W
  exact walk (fun j => [f0_0, f0_1, f0_2, f0_3, f0_4, f0_5, f0_6, f0_7, f0_8, f0_9, f0_10].getD j 0) a n cap f cl a2 a3 a4 W hn hs hf

theorem proved : Rows.TruthFlightsSaid :=
  OpenClaim.holds_of_wide 4 Try.f4 rfl rfl rfl rfl rfl rfl rfl ⟨rfl, rfl, rfl, rfl, rfl⟩ rfl rfl rfl rfl rfl (by kernel_rfl) Try.func4 (by kernel_rfl)
    (of_decide_eq_true (by kernel_rfl)) (by unfold Func.isWrapper; rw [if_neg (by decide +kernel)]; exact ⟨rfl, rfl⟩)
    (fun os started H enc _ => lifted os started H enc)
#print axioms proved
end Go.Proofs.Ytfpmmahonddpoaa.truthFlights
