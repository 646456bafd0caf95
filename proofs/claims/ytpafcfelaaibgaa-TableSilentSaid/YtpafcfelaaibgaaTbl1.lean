/-
  The walks of window: behind, Hear, New.
-/
import Derived.Test.YtpafcfelaaibgaaTbl0
import Derived.Test.YtpafcfelaaibgaaFam
set_option linter.unusedVariables false
set_option linter.unusedSimpArgs false
namespace Go.Proofs.Ytpafcfelaaibgaa
open Go Go.RowKit Sx

theorem bv_nat {a : Nat} (h : a < 18446744073709551616) : (BitVec.ofInt IntKind.u64.bits (a : Int)).toNat = a := by
  rw [BitVec.toNat_ofInt]
  show ((a : Int) % 18446744073709551616).toNat = a
  omega
theorem wrap_nat {a : Nat} (h : a < 18446744073709551616) : IntKind.u64.wrap ((a : Nat) : Int) = a := by
  rw [IntKind.wrap_u64]; omega
theorem or_u {a b : Nat} (ha : a < 18446744073709551616) (hb : b < 18446744073709551616) : IntKind.u64.wrap ((BitVec.ofInt IntKind.u64.bits (a : Int) ||| BitVec.ofInt IntKind.u64.bits (b : Int)).toNat : Nat) = ((a ||| b : Nat) : Int) := by
  rw [BitVec.toNat_or, bv_nat ha, bv_nat hb]
  exact wrap_nat (Nat.or_lt_two_pow (n := 64) ha hb)
theorem and_u {a b : Nat} (ha : a < 18446744073709551616) (hb : b < 18446744073709551616) : IntKind.u64.wrap ((BitVec.ofInt IntKind.u64.bits (a : Int) &&& BitVec.ofInt IntKind.u64.bits (b : Int)).toNat : Nat) = ((a &&& b : Nat) : Int) := by
  rw [BitVec.toNat_and, bv_nat ha, bv_nat hb]
  exact wrap_nat (Nat.lt_of_le_of_lt Nat.and_le_left ha)
theorem shl_u (a n : Nat) : IntKind.u64.wrap ((a : Int) * 2 ^ n) = ((a * 2 ^ n % 18446744073709551616 : Nat) : Int) := by
  rw [IntKind.wrap_u64]
  have : ((a : Int) * 2 ^ n) = ((a * 2 ^ n : Nat) : Int) := by rw [Int.natCast_mul, Int.natCast_pow]; rfl
  rw [this]; omega
theorem and_pow (s d : Nat) : s &&& 2 ^ d = if s.testBit d then 2 ^ d else 0 := by
  apply Nat.eq_of_testBit_eq
  intro i
  rw [Nat.testBit_and, Nat.testBit_two_pow]
  by_cases e : d = i
  · subst e; cases h : s.testBit d <;> simp
  · cases h : s.testBit d <;> simp [e]

abbrev noC : Chunk := ⟨false, 0, []⟩
/-- A window: is anything heard, the last one, what was heard. -/
abbrev wnC (o a : Bool) (l : Int) (s : Nat) : Chunk := ⟨o, 3, [(0, 3, .agg ⟨[.bool a, .int .i64 l, .int .u64 (s : Int)]⟩)]⟩
def bitW (l q : Int) : Nat := if -serD l q < 0 ∨ -serD l q ≥ 64 then 0 else 2 ^ (-serD l q).toNat
theorem bitW_lt (l q : Int) : bitW l q < 18446744073709551616 := by
  unfold bitW
  split
  · decide
  · have : (-serD l q).toNat < 64 := by omega
    exact Nat.pow_lt_pow_right (by decide) this
structure Win where
  any : Bool
  last : Int
  seen : Nat
def Win.zero : Win := ⟨false, 0, 0⟩
/-- What is answered when a number is heard, and the window then. -/
def whear (W : Win) (q : Int) : Int × Win :=
  if W.any = false then (0, ⟨true, q, 1⟩)
  else if serD W.last q = 32768 then (9, W)
  else if 0 < serD W.last q then (0, ⟨true, q, (W.seen * 2 ^ (serD W.last q).toNat % 18446744073709551616) ||| 1⟩)
  else if bitW W.last q = 0 ∨ W.seen &&& bitW W.last q ≠ 0 then (9, W)
  else (0, ⟨true, W.last, W.seen ||| bitW W.last q⟩)
abbrev winC (o : Bool) (W : Win) : Chunk := wnC o W.any W.last W.seen
abbrev winX (x : Ext) (W : Win) : Chunk := @Chunk.mk x true 3 [(0, 3, .agg ⟨[.bool W.any, .int .i64 W.last, .int .u64 (W.seen : Int)]⟩)]
theorem wx_re {ix : List (Nat × Nat)} {x y : Ext} {W : Win} : ChunkRe ix (winX x W) (winX y W) := fun j hj => by
  match j, hj with
  | 0, _ => exact .plain rfl
  | 1, _ => exact .plain rfl
  | 2, _ => exact .plain rfl
theorem wn_re {ix : List (Nat × Nat)} {o o' a : Bool} {l : Int} {s : Nat} : ChunkRe ix (wnC o a l s) (wnC o' a l s) := fun j hj => by
  match j, hj with
  | 0, _ => exact .plain rfl
  | 1, _ => exact .plain rfl
  | 2, _ => exact .plain rfl
theorem wx_wn {ix : List (Nat × Nat)} {x : Ext} {o a : Bool} {l : Int} {s : Nat} : ChunkRe ix (winX x ⟨a, l, s⟩) (wnC o a l s) := fun j hj => by
  match j, hj with
  | 0, _ => exact .plain rfl
  | 1, _ => exact .plain rfl
  | 2, _ => exact .plain rfl
theorem wn_post {ix : List (Nat × Nat)} {a : Bool} {l : Int} {s : Nat} {hp : List (Option Chunk)} {n : Nat} {c : Chunk} {x : Ext} (hh : hp[n]? = some (some c)) (ho : c.own = true) (hn : 3 ≤ c.n) (h0 : c.f 0 = .bool a) (h1 : c.f 1 = .int .i64 l) (h2 : c.f 2 = .int .u64 (s : Int)) : PostC ix hp n (winX x ⟨a, l, s⟩) :=
  ⟨_, hh, fun _ => ho, hn, fun j hj => by
    match j, hj with
    | 0, _ => rw [h0]; exact .plain rfl
    | 1, _ => rw [h1]; exact .plain rfl
    | 2, _ => rw [h2]; exact .plain rfl⟩
set_option maxRecDepth 100000 in
set_option maxHeartbeats 1000000 in
theorem cBehind (x : Ext) (W : Win) (q : Int) (i : Nat) (h : List (Option Chunk)) (hi : h[i]? = some (some (winX x W))) :
    CallOK Try.prog 37 [.pointer (some ⟨i, 0, some 0⟩), .int .i64 q] h (.int .u64 (bitW W.last q : Int)) [] [i] := by
  obtain ⟨a, l, s⟩ := W
  show CallOK _ _ _ h (.int .u64 (bitW l q : Int)) [] [i]
  refine call_sub (G := tys) [⟨i, _, wnC false a l s, noC⟩] [] [.pointer (some ⟨0, 0, some 0⟩), .int .i64 q] tysOK mixed Try.func37 (by rfl) (Try.call37) ⟨hi, trivial⟩ ⟨⟨fun h => (by cases h), Nat.le_refl _, wx_wn⟩, trivial⟩ (by simp [Apart]) trivial ⟨.ptr rfl, .plain rfl, trivial⟩ ?_
  have hd := serD_in l q
  have en : IntKind.i64.wrap (0 - serD l q) = -serD l q := by rw [IntKind.wrap_i64]; omega
  repeat' (refine N.go ?_; first | with_reducible refine N.obl (by decide) ?_ | with_reducible refine N.obl (flat_wi _ _ _) ?_ | with_reducible refine N.obl (flat_lim _ _) ?_ | with_reducible refine N.eq ?_ | with_reducible refine N.obl rfl ?_ | with_reducible refine N.obl ⟨by kernel_rfl, by kernel_rfl⟩ ?_ | with_reducible refine N.forkT ?_ | with_reducible refine N.forkF ?_ | refine N.call (cDiff _ _ _) ?_ | with_reducible refine N.fork (fun hb => ?_) (fun hb => ?_) | refine N.obl (.plain rfl) ?_ | refine N.obl trivial ?_ | exact N.true | fail_if_success skip)
  · refine N.go ?_
    simp only [en, decide_eq_true_eq] at hb
    have e : bitW l q = 0 := by unfold bitW; rw [if_pos (by omega)]
    rw [e]
    repeat' (refine N.go ?_; first | with_reducible refine N.obl (by decide) ?_ | with_reducible refine N.obl (flat_wi _ _ _) ?_ | with_reducible refine N.obl (flat_lim _ _) ?_ | with_reducible refine N.eq ?_ | with_reducible refine N.obl rfl ?_ | with_reducible refine N.obl ⟨by kernel_rfl, by kernel_rfl⟩ ?_ | with_reducible refine N.forkT ?_ | with_reducible refine N.forkF ?_ | refine N.call (cDiff _ _ _) ?_ | with_reducible refine N.fork (fun hb => ?_) (fun hb => ?_) | refine N.obl (.plain rfl) ?_ | refine N.obl trivial ?_ | exact N.true | fail_if_success skip)
  · refine N.go ?_
    rename_i hb1
    simp only [en, decide_eq_true_eq, decide_eq_false_iff_not] at hb hb1
    have e : bitW l q = 0 := by unfold bitW; rw [if_pos (by omega)]
    rw [e]
    repeat' (refine N.go ?_; first | with_reducible refine N.obl (by decide) ?_ | with_reducible refine N.obl (flat_wi _ _ _) ?_ | with_reducible refine N.obl (flat_lim _ _) ?_ | with_reducible refine N.eq ?_ | with_reducible refine N.obl rfl ?_ | with_reducible refine N.obl ⟨by kernel_rfl, by kernel_rfl⟩ ?_ | with_reducible refine N.forkT ?_ | with_reducible refine N.forkF ?_ | refine N.call (cDiff _ _ _) ?_ | with_reducible refine N.fork (fun hb => ?_) (fun hb => ?_) | refine N.obl (.plain rfl) ?_ | refine N.obl trivial ?_ | exact N.true | fail_if_success skip)
  · refine N.go ?_
    rename_i hb1
    simp only [en, decide_eq_true_eq, decide_eq_false_iff_not] at hb hb1
    refine N.obl (by rw [en]; omega) ?_
    have e : IntKind.u64.wrap (1 * 2 ^ sh (IntKind.i64.wrap (0 - serD l q)) IntKind.u64) = (bitW l q : Int) := by
      rw [en]
      have e1 : sh (-serD l q) IntKind.u64 = (-serD l q).toNat := by show min (-serD l q).toNat 64 = _; omega
      have e2 : bitW l q = 2 ^ (-serD l q).toNat := by unfold bitW; rw [if_neg (by omega)]
      have e3 := shl_u 1 (-serD l q).toNat
      rw [e1]
      have hlt := bitW_lt l q
      rw [e2] at hlt ⊢
      rw [Nat.one_mul, Nat.mod_eq_of_lt hlt] at e3
      exact e3
    rw [e]
    repeat' (refine N.go ?_; first | with_reducible refine N.obl (by decide) ?_ | with_reducible refine N.obl (flat_wi _ _ _) ?_ | with_reducible refine N.obl (flat_lim _ _) ?_ | with_reducible refine N.eq ?_ | with_reducible refine N.obl rfl ?_ | with_reducible refine N.obl ⟨by kernel_rfl, by kernel_rfl⟩ ?_ | with_reducible refine N.forkT ?_ | with_reducible refine N.forkF ?_ | refine N.call (cDiff _ _ _) ?_ | with_reducible refine N.fork (fun hb => ?_) (fun hb => ?_) | refine N.obl (.plain rfl) ?_ | refine N.obl trivial ?_ | exact N.true | fail_if_success skip)
set_option maxRecDepth 100000 in
set_option maxHeartbeats 1000000 in
theorem cWHear (x : Ext) (W W' : Win) (q e : Int) (i : Nat) (hs : W.seen < 18446744073709551616) (hq : serOK q) (he : whear W q = (e, W')) (h : List (Option Chunk)) (hi : h[i]? = some (some (winX x W))) :
    CallOK Try.prog 25 [.pointer (some ⟨i, 0, some 0⟩), .int .i64 q] h (.int .i64 e) [(i, winX x W')] [] := by
  refine call_res (G := tys) (fun _ : Unit => True) (fun _ => _) [⟨i, _, winX x W, winX x W'⟩] [] [.pointer (some ⟨0, 0, some 0⟩), .int .i64 q] tysOK mixed Try.func25 (by rfl) (Try.call25) ⟨hi, trivial⟩ ⟨⟨fun h => ⟨rfl, Nat.le_refl _⟩, Nat.le_refl _, wx_re⟩, trivial⟩ (by simp [Apart]) ⟨.inr ⟨rfl, rfl⟩, trivial⟩ trivial ⟨.ptr rfl, .plain rfl, trivial⟩ Opens.same ?_
  rintro ⟨⟩ -
  have hd := serD_in W.last q
  have hbw := bitW_lt W.last q
  repeat' (refine N.go ?_; first | with_reducible refine N.obl (by decide) ?_ | with_reducible refine N.obl (flat_wi _ _ _) ?_ | with_reducible refine N.obl (flat_lim _ _) ?_ | with_reducible refine N.eq ?_ | with_reducible refine N.obl rfl ?_ | with_reducible refine N.obl ⟨by kernel_rfl, by kernel_rfl⟩ ?_ | with_reducible refine N.forkT ?_ | with_reducible refine N.forkF ?_ | refine N.forkNo (by simp only [decide_eq_true hq]; rfl) ?_ | refine N.call (cMay _ _) ?_ | refine N.call (cDiff _ _ _) ?_ | refine N.call (cBehind _ _ _ _ _ (by rfl)) ?_ | with_reducible refine N.fork (fun hb => ?_) (fun hb => ?_) | fail_if_success skip)
  · simp only [Bool.not_eq_eq_eq_not, Bool.not_true] at hb
    have e1 : whear W q = (0, ⟨true, q, 1⟩) := by unfold whear; rw [if_pos hb]
    rw [e1] at he
    obtain ⟨rfl, rfl⟩ := Prod.mk.inj he
    repeat' (refine N.go ?_; first | with_reducible refine N.obl (by decide) ?_ | with_reducible refine N.obl (flat_wi _ _ _) ?_ | with_reducible refine N.obl (flat_lim _ _) ?_ | with_reducible refine N.eq ?_ | with_reducible refine N.obl rfl ?_ | with_reducible refine N.obl ⟨by kernel_rfl, by kernel_rfl⟩ ?_ | with_reducible refine N.forkT ?_ | with_reducible refine N.forkF ?_ | refine N.endSame ?_ | refine N.obl (.plain rfl) ?_ | refine N.obl ⟨wn_post (by rfl) rfl (Nat.le_refl _) (by rfl) (by rfl) (by rfl), trivial⟩ ?_ | refine N.obl trivial ?_ | refine N.obl ⟨⟨.inr ⟨_, rfl, rfl⟩, trivial⟩, trivial⟩ ?_ | exact N.true | fail_if_success skip)
  · rename_i hb1
    simp only [Bool.not_eq_eq_eq_not, Bool.not_false, beq_iff_eq] at hb hb1
    have e1 : whear W q = (9, W) := by unfold whear; rw [if_neg (by rw [hb1]; decide), if_pos hb]
    rw [e1] at he
    obtain ⟨rfl, rfl⟩ := Prod.mk.inj he
    repeat' (refine N.go ?_; first | with_reducible refine N.obl (by decide) ?_ | with_reducible refine N.obl (flat_wi _ _ _) ?_ | with_reducible refine N.obl (flat_lim _ _) ?_ | with_reducible refine N.eq ?_ | with_reducible refine N.obl rfl ?_ | with_reducible refine N.obl ⟨by kernel_rfl, by kernel_rfl⟩ ?_ | with_reducible refine N.forkT ?_ | with_reducible refine N.forkF ?_ | refine N.endSame ?_ | refine N.obl (.plain rfl) ?_ | refine N.obl ⟨wn_post (by rfl) rfl (Nat.le_refl _) (by rfl) (by rfl) (by rfl), trivial⟩ ?_ | refine N.obl trivial ?_ | refine N.obl ⟨⟨.inr ⟨_, rfl, rfl⟩, trivial⟩, trivial⟩ ?_ | exact N.true | fail_if_success skip)
  · rename_i hb2 hb1
    simp only [Bool.not_eq_eq_eq_not, Bool.not_false, beq_iff_eq, beq_eq_false_iff_ne, decide_eq_true_eq, gt_iff_lt] at hb hb1 hb2
    have e1 : whear W q = (0, ⟨true, q, (W.seen * 2 ^ (serD W.last q).toNat % 18446744073709551616) ||| 1⟩) := by unfold whear; rw [if_neg (by rw [hb2]; decide), if_neg hb1, if_pos hb]
    rw [e1] at he
    obtain ⟨rfl, rfl⟩ := Prod.mk.inj he
    refine N.go ?_
    refine N.obl (by omega) ?_
    have e2 : IntKind.u64.wrap ((W.seen : Int) * 2 ^ sh (serD W.last q) IntKind.u64) = ((W.seen * 2 ^ (serD W.last q).toNat % 18446744073709551616 : Nat) : Int) := by
      rcases Int.le_total (serD W.last q) 64 with h64 | h64
      · have e3 : sh (serD W.last q) IntKind.u64 = (serD W.last q).toNat := by show min (serD W.last q).toNat 64 = _; omega
        rw [e3]; exact shl_u _ _
      · have e3 : sh (serD W.last q) IntKind.u64 = 64 := by show min (serD W.last q).toNat 64 = _; omega
        rw [e3, shl_u]
        have e4 : ∀ m : Nat, 64 ≤ m → W.seen * 2 ^ m % 18446744073709551616 = 0 := fun m hm => by
          obtain ⟨r, rfl⟩ := Nat.exists_eq_add_of_le hm
          rw [Nat.pow_add, show (2 : Nat) ^ 64 = 18446744073709551616 from by decide, ← Nat.mul_assoc, Nat.mul_right_comm]
          exact Nat.mul_mod_left _ _
        rw [e4 64 (Nat.le_refl _), e4 _ (by omega)]
    rw [e2]
    have e5 : IntKind.u64.wrap ((BitVec.ofInt IntKind.u64.bits ((W.seen * 2 ^ (serD W.last q).toNat % 18446744073709551616 : Nat) : Int) ||| BitVec.ofInt IntKind.u64.bits 1).toNat : Nat) = ((W.seen * 2 ^ (serD W.last q).toNat % 18446744073709551616 ||| 1 : Nat) : Int) := or_u (b := 1) (Nat.mod_lt _ (by decide)) (by decide)
    repeat' (refine N.go ?_; first | with_reducible refine N.obl (by decide) ?_ | with_reducible refine N.obl (flat_wi _ _ _) ?_ | with_reducible refine N.obl (flat_lim _ _) ?_ | with_reducible refine N.eq ?_ | with_reducible refine N.obl rfl ?_ | with_reducible refine N.obl ⟨by kernel_rfl, by kernel_rfl⟩ ?_ | with_reducible refine N.forkT ?_ | with_reducible refine N.forkF ?_ | refine N.endSame ?_ | refine N.obl (.plain rfl) ?_ | refine N.obl ⟨wn_post (by rfl) rfl (Nat.le_refl _) (by exact congrArg Value.bool hb2) (by rfl) (by exact congrArg (Value.int IntKind.u64) e5), trivial⟩ ?_ | refine N.obl trivial ?_ | refine N.obl ⟨⟨.inr ⟨_, rfl, rfl⟩, trivial⟩, trivial⟩ ?_ | exact N.true | fail_if_success skip)
  · rename_i hb3 hb2 hb1
    simp only [Bool.not_eq_eq_eq_not, Bool.not_false, beq_iff_eq, beq_eq_false_iff_ne, decide_eq_true_eq, decide_eq_false_iff_not, gt_iff_lt] at hb hb1 hb2 hb3
    have hz : bitW W.last q = 0 := by omega
    have e1 : whear W q = (9, W) := by unfold whear; rw [if_neg (by rw [hb3]; decide), if_neg hb2, if_neg hb1, if_pos (.inl hz)]
    rw [e1] at he
    obtain ⟨rfl, rfl⟩ := Prod.mk.inj he
    repeat' (refine N.go ?_; first | with_reducible refine N.obl (by decide) ?_ | with_reducible refine N.obl (flat_wi _ _ _) ?_ | with_reducible refine N.obl (flat_lim _ _) ?_ | with_reducible refine N.eq ?_ | with_reducible refine N.obl rfl ?_ | with_reducible refine N.obl ⟨by kernel_rfl, by kernel_rfl⟩ ?_ | with_reducible refine N.forkT ?_ | with_reducible refine N.forkF ?_ | refine N.endSame ?_ | refine N.obl (.plain rfl) ?_ | refine N.obl ⟨wn_post (by rfl) rfl (Nat.le_refl _) (by rfl) (by rfl) (by rfl), trivial⟩ ?_ | refine N.obl trivial ?_ | refine N.obl ⟨⟨.inr ⟨_, rfl, rfl⟩, trivial⟩, trivial⟩ ?_ | exact N.true | fail_if_success skip)
  · rename_i hb4 hb3 hb2 hb1
    simp only [Bool.not_eq_eq_eq_not, Bool.not_false, beq_iff_eq, beq_eq_false_iff_ne, decide_eq_true_eq, decide_eq_false_iff_not, gt_iff_lt, bne_iff_ne, ne_eq] at hb hb1 hb2 hb3 hb4
    rw [and_u hs hbw] at hb
    have e1 : whear W q = (9, W) := by unfold whear; rw [if_neg (by rw [hb4]; decide), if_neg hb3, if_neg hb2, if_pos (.inr (by omega))]
    rw [e1] at he
    obtain ⟨rfl, rfl⟩ := Prod.mk.inj he
    repeat' (refine N.go ?_; first | with_reducible refine N.obl (by decide) ?_ | with_reducible refine N.obl (flat_wi _ _ _) ?_ | with_reducible refine N.obl (flat_lim _ _) ?_ | with_reducible refine N.eq ?_ | with_reducible refine N.obl rfl ?_ | with_reducible refine N.obl ⟨by kernel_rfl, by kernel_rfl⟩ ?_ | with_reducible refine N.forkT ?_ | with_reducible refine N.forkF ?_ | refine N.endSame ?_ | refine N.obl (.plain rfl) ?_ | refine N.obl ⟨wn_post (by rfl) rfl (Nat.le_refl _) (by rfl) (by rfl) (by rfl), trivial⟩ ?_ | refine N.obl trivial ?_ | refine N.obl ⟨⟨.inr ⟨_, rfl, rfl⟩, trivial⟩, trivial⟩ ?_ | exact N.true | fail_if_success skip)
  · rename_i hb4 hb3 hb2 hb1
    simp only [Bool.not_eq_eq_eq_not, Bool.not_false, beq_iff_eq, beq_eq_false_iff_ne, decide_eq_true_eq, decide_eq_false_iff_not, gt_iff_lt, bne_eq_false_iff_eq, ne_eq] at hb hb1 hb2 hb3 hb4
    rw [and_u hs hbw] at hb
    have e1 : whear W q = (0, ⟨true, W.last, W.seen ||| bitW W.last q⟩) := by unfold whear; rw [if_neg (by rw [hb4]; decide), if_neg hb3, if_neg hb2, if_neg (by omega)]
    rw [e1] at he
    obtain ⟨rfl, rfl⟩ := Prod.mk.inj he
    have e5 := or_u hs hbw
    repeat' (refine N.go ?_; first | with_reducible refine N.obl (by decide) ?_ | with_reducible refine N.obl (flat_wi _ _ _) ?_ | with_reducible refine N.obl (flat_lim _ _) ?_ | with_reducible refine N.eq ?_ | with_reducible refine N.obl rfl ?_ | with_reducible refine N.obl ⟨by kernel_rfl, by kernel_rfl⟩ ?_ | with_reducible refine N.forkT ?_ | with_reducible refine N.forkF ?_ | refine N.endSame ?_ | refine N.obl (.plain rfl) ?_ | refine N.obl ⟨wn_post (by rfl) rfl (Nat.le_refl _) (by exact congrArg Value.bool hb4) (by rfl) (by exact congrArg (Value.int IntKind.u64) e5), trivial⟩ ?_ | refine N.obl trivial ?_ | refine N.obl ⟨⟨.inr ⟨_, rfl, rfl⟩, trivial⟩, trivial⟩ ?_ | exact N.true | fail_if_success skip)
end Go.Proofs.Ytpafcfelaaibgaa
