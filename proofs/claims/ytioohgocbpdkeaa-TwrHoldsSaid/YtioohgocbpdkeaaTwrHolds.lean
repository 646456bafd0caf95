/-
  The statement TwrHolds: for every input the law returns true.
-/
import Derived.Test.YtioohgocbpdkeaaSesY
set_option linter.unusedVariables false
set_option linter.unusedSimpArgs false
namespace Go.Proofs.Ytioohgocbpdkeaa.twrHolds
open Go Go.ChangeShapes Go.WideShapes Go.ChangeAt Go.RowKit Sx

theorem spans (dr m o g d : Int) (hm : 0 ≤ m ∧ m ≤ 1000) (hdr : -m ≤ dr ∧ dr ≤ m) (hg : 0 ≤ g ∧ g < 35184372088832) (hd : 0 ≤ d ∧ d < 35184372088832) :
    ((0 ≤ fineN dr o (g + d) - fineN dr o g ∧ fineN dr o (g + d) - fineN dr o g ≤ 70368744177664) ∧ (o ≤ fineN dr o g ∧ fineN dr o g ≤ o + 70368744177664 ∧ fineN dr o (g + d) ≤ o + 140737488355328)) ∧ spLo (fineN dr o (g + d) - fineN dr o g) m ≤ d ∧ d ≤ spHi (fineN dr o (g + d) - fineN dr o g) m := by
  unfold fineN spLo spHi
  have a1 := Int.ediv_mul_le (g * (1000000 + dr)) (by decide : (1000000 : Int) ≠ 0)
  have a2 := Int.lt_ediv_add_one_mul_self (g * (1000000 + dr)) (by decide : (0 : Int) < 1000000)
  have b1 := Int.ediv_mul_le ((g + d) * (1000000 + dr)) (by decide : (1000000 : Int) ≠ 0)
  have b2 := Int.lt_ediv_add_one_mul_self ((g + d) * (1000000 + dr)) (by decide : (0 : Int) < 1000000)
  have c0 : 0 ≤ d * (1000000 + dr) := Int.mul_nonneg (by omega) (by omega)
  have c1 : 0 ≤ g * (1000000 + dr) := Int.mul_nonneg (by omega) (by omega)
  have c2 : d * (1000000 + dr) ≤ 35184372088832 * 1001000 := Int.mul_le_mul (by omega) (by omega) (by omega) (by omega)
  have c3 : g * (1000000 + dr) ≤ 35184372088832 * 1001000 := Int.mul_le_mul (by omega) (by omega) (by omega) (by omega)
  have c4 : d * (1000000 + dr) ≤ d * (1000000 + m) := Int.mul_le_mul_of_nonneg_left (by omega) hd.1
  have c5 : d * (1000000 - m) ≤ d * (1000000 + dr) := Int.mul_le_mul_of_nonneg_left (by omega) hd.1
  have e : (g + d) * (1000000 + dr) = g * (1000000 + dr) + d * (1000000 + dr) := Int.add_mul _ _ _
  rw [e] at b1 b2 ⊢
  generalize g * (1000000 + dr) / 1000000 = A at *
  generalize (g * (1000000 + dr) + d * (1000000 + dr)) / 1000000 = B at *
  have hlo : (max 0 (B + o - (A + o) - 1)) * 1000000 ≤ d * (1000000 + m) := by omega
  have hhi : -((B + o - (A + o) + 1) * 1000000) ≤ -d * (1000000 - m) := by rw [Int.neg_mul]; omega
  refine ⟨⟨⟨by omega, by omega⟩, by omega, by omega, by omega⟩, (quot_le d (Int.mul_nonneg (by omega) (by omega)) (by omega) hlo).2, ?_⟩
  have := Int.ediv_le_of_le_mul (by omega : 0 < 1000000 - m) hhi
  omega
theorem u64modv (x k : Int) (h0 : 0 ≤ k) (h1 : k ≤ 1000) : -k ≤ IntKind.i64.wrap (IntKind.i64.wrap ((IntKind.u64.wrap x).tmod (IntKind.u64.wrap (IntKind.i64.wrap (IntKind.i64.wrap (2 * k) + 1)))) - k) ∧ IntKind.i64.wrap (IntKind.i64.wrap ((IntKind.u64.wrap x).tmod (IntKind.u64.wrap (IntKind.i64.wrap (IntKind.i64.wrap (2 * k) + 1)))) - k) ≤ k := by
  rw [wsmall (2 * k) (by omega) (by omega), wsmall (2 * k + 1) (by omega) (by omega), show IntKind.u64.wrap (2 * k + 1) = 2 * k + 1 from by rw [IntKind.wrap_u64]; omega]
  have := u64mod x (2 * k + 1) (by omega) (by omega)
  generalize IntKind.i64.wrap ((IntKind.u64.wrap x).tmod (2 * k + 1)) = q at *
  rw [wsmall _ (by omega) (by omega)]; omega
theorem fineR (dr o t : Int) (hdr : -1000 ≤ dr ∧ dr ≤ 1000) (ho : 0 ≤ o ∧ o < 1099511627776) (ht : 0 ≤ t ∧ t < 8796093022208) : 0 ≤ fineN dr o t ∧ fineN dr o t ≤ 17592186044416 := by
  unfold fineN
  have c1 : 0 ≤ t * (1000000 + dr) := Int.mul_nonneg (by omega) (by omega)
  have c3 : t * (1000000 + dr) ≤ 8796093022208 * 1001000 := Int.mul_le_mul (by omega) (by omega) (by omega) (by omega)
  omega
theorem diff (dr m o g h : Int) (hm : 0 ≤ m ∧ m ≤ 1000) (hdr : -m ≤ dr ∧ dr ≤ m) (hg : 0 ≤ g) (hgh : g ≤ h) (hh : h < 8796093022208) :
    0 ≤ fineN dr o h - fineN dr o g ∧ fineN dr o h - fineN dr o g ≤ 70368744177664 ∧ spLo (fineN dr o h - fineN dr o g) m ≤ h - g ∧ h - g ≤ spHi (fineN dr o h - fineN dr o g) m := by
  have := spans dr m o g (h - g) hm hdr (by omega) (by omega)
  rw [show g + (h - g) = h from by omega] at this
  exact ⟨this.1.1.1, this.1.1.2, this.2⟩
theorem ring (ra db da rb m sl f1 f2 f3 w1 w2 : Int) (h1 : spLo ra m ≤ f1 + w1 + f2) (h1' : f1 + w1 + f2 ≤ spHi ra m) (h2 : spLo db m ≤ w1) (h2' : w1 ≤ spHi db m) (h3 : spLo da m ≤ w2) (h3' : w2 ≤ spHi da m)
    (h4 : spLo rb m ≤ f2 + w2 + f3) (h4' : f2 + w2 + f3 ≤ spHi rb m) (a1 : f3 - sl ≤ f1) (a2 : f1 ≤ f3 + sl) (b1 : f3 - sl ≤ f2) (b2 : f2 ≤ f3 + sl) (hf : 0 ≤ f3) : rgLo ra db da rb m sl ≤ f3 ∧ f3 + 1 ≤ rgHi ra db da rb m sl := by
  unfold rgLo rgHi; omega
def nearV (F S x : Int) : Int := max 0 (F - S + (IntKind.u64.wrap x).tmod (2 * S + 1))
theorem tmodP (x S : Int) (hS : 0 ≤ S ∧ S < 10000) : 0 ≤ (IntKind.u64.wrap x).tmod (2 * S + 1) ∧ (IntKind.u64.wrap x).tmod (2 * S + 1) ≤ 2 * S := by
  have e : 0 ≤ IntKind.u64.wrap x := by rw [IntKind.wrap_u64]; omega
  rw [Int.tmod_eq_emod_of_nonneg e]
  have a := Int.emod_nonneg (IntKind.u64.wrap x) (by omega : 2 * S + 1 ≠ 0)
  have b := Int.emod_lt_of_pos (IntKind.u64.wrap x) (by omega : 0 < 2 * S + 1)
  omega
theorem nearR (F S x : Int) (hF : 0 ≤ F) (hS : 0 ≤ S ∧ S < 10000) : 0 ≤ nearV F S x ∧ F - S ≤ nearV F S x ∧ nearV F S x ≤ F + S := by
  have := tmodP x S hS
  unfold nearV; omega
abbrev one (x : Int) : Chunk := ⟨true, 1, [(0, 1, .int .i64 x)]⟩
abbrev oneR (x : Int) : Chunk := ⟨false, 1, [(0, 1, .int .i64 x)]⟩
theorem lt1 {p : Nat → Prop} (h0 : p 0) : ∀ j, j < 1 → p j := fun j hj => by
  match j, hj with
  | 0, _ => exact h0
theorem oneRe (ix : List (Nat × Nat)) (x : Int) : ((oneR x).own = true → (one x).own = true ∧ (one x).n ≤ (one x).n) ∧ (oneR x).n ≤ (one x).n ∧ ChunkRe ix (one x) (oneR x) :=
  ⟨fun h => (by cases h), Nat.le_refl _, lt1 (.plain rfl)⟩
set_option maxRecDepth 100000 in
theorem cNear (i j : Nat) (x F S : Int) (h : List (Option Chunk)) (hi : h[i]? = some (some (one F))) (hj : h[j]? = some (some (one S))) (hF : 0 ≤ F ∧ F < 1000000) (hS : 0 ≤ S ∧ S < 10000) :
    CallOK Try.prog 36 [.int .i64 x, .pointer (some ⟨i, 0, some 0⟩), .pointer (some ⟨j, 0, some 0⟩)] h (.int .i64 (nearV F S x)) [] [i, j] := by
  have T := tmodP x S hS
  refine call_sub (G := tys) [⟨i, one F, oneR F, one F⟩, ⟨j, one S, oneR S, one S⟩] [] [.int .i64 x, .pointer (some ⟨0, 0, some 0⟩), .pointer (some ⟨1, 0, some 0⟩)] tysOK mixed Try.func36 (by rfl) (Try.call36) ⟨hi, hj, trivial⟩ ⟨oneRe _ _, oneRe _ _, trivial⟩ (by simp [Apart]) trivial ⟨.plain rfl, .ptr rfl, .ptr rfl, trivial⟩ ?_
  repeat' (refine N.go ?_; first | with_reducible refine N.obl (by decide) ?_ | with_reducible refine N.obl (flat_wi _ _ _) ?_ | with_reducible refine N.obl (flat_lim _ _) ?_ | with_reducible refine N.eq ?_ | with_reducible refine N.obl rfl ?_ | with_reducible refine N.obl ⟨by kernel_rfl, by kernel_rfl⟩ ?_ | with_reducible refine N.forkT ?_ | with_reducible refine N.forkF ?_ | exact N.true | refine N.obl trivial ?_ | refine N.obl (by simp only [IntKind.wrap_i64, IntKind.wrap_u64]; omega) ?_ | with_reducible refine N.min2 ?_ | with_reducible refine N.max2 ?_)
  refine N.obl ?_ ?_
  · rw [wsmall (2 * S) (by omega) (by omega), wsmall (2 * S + 1) (by omega) (by omega), show IntKind.u64.wrap (2 * S + 1) = 2 * S + 1 from by rw [IntKind.wrap_u64]; omega, wsmall (F - S) (by omega) (by omega), wsmall ((IntKind.u64.wrap x).tmod (2 * S + 1)) (by omega) (by omega), wsmall _ (by omega) (by omega)]
    exact .plain rfl
  repeat' (refine N.go ?_; first | with_reducible refine N.obl (by decide) ?_ | with_reducible refine N.obl (flat_wi _ _ _) ?_ | with_reducible refine N.obl (flat_lim _ _) ?_ | with_reducible refine N.eq ?_ | with_reducible refine N.obl rfl ?_ | with_reducible refine N.obl ⟨by kernel_rfl, by kernel_rfl⟩ ?_ | with_reducible refine N.forkT ?_ | with_reducible refine N.forkF ?_ | exact N.true | refine N.obl trivial ?_)
set_option maxRecDepth 100000 in
theorem cClk2 (i j : Nat) (t t' d o : Int) (h : List (Option Chunk)) (hi : h[i]? = some (some (one d))) (hj : h[j]? = some (some (one o))) (e : t' = t) (ho : fineOK d o t) :
    CallOK Try.prog 37 [.int .i64 t', .pointer (some ⟨i, 0, some 0⟩), .pointer (some ⟨j, 0, some 0⟩)] h (.int .i64 (fineN d o t)) [] [i, j] := by
  subst e
  refine call_sub (G := tys) [⟨i, one d, oneR d, one d⟩, ⟨j, one o, oneR o, one o⟩] [] [.int .i64 t', .pointer (some ⟨0, 0, some 0⟩), .pointer (some ⟨1, 0, some 0⟩)] tysOK mixed Try.func37 (by rfl) (Try.call37) ⟨hi, hj, trivial⟩ ⟨oneRe _ _, oneRe _ _, trivial⟩ (by simp [Apart]) trivial ⟨.plain rfl, .ptr rfl, .ptr rfl, trivial⟩ ?_
  repeat' (refine N.go ?_; first | with_reducible refine N.obl (by decide) ?_ | with_reducible refine N.obl (flat_wi _ _ _) ?_ | with_reducible refine N.obl (flat_lim _ _) ?_ | with_reducible refine N.eq ?_ | with_reducible refine N.obl rfl ?_ | with_reducible refine N.obl ⟨by kernel_rfl, by kernel_rfl⟩ ?_ | with_reducible refine N.forkT ?_ | with_reducible refine N.forkF ?_ | exact N.true | refine N.obl trivial ?_ | refine N.obl (.plain rfl) ?_ | with_reducible refine N.call (cFine1 _ _ _ _ ho) ?_)
set_option maxRecDepth 100000 in
theorem cClk3 (i j : Nat) (t t' d o : Int) (h : List (Option Chunk)) (hi : h[i]? = some (some (one d))) (hj : h[j]? = some (some (one o))) (e : t' = t) (ho : fineOK d o t) :
    CallOK Try.prog 38 [.int .i64 t', .pointer (some ⟨i, 0, some 0⟩), .pointer (some ⟨j, 0, some 0⟩)] h (.int .i64 (fineN d o t)) [] [i, j] := by
  subst e
  refine call_sub (G := tys) [⟨i, one d, oneR d, one d⟩, ⟨j, one o, oneR o, one o⟩] [] [.int .i64 t', .pointer (some ⟨0, 0, some 0⟩), .pointer (some ⟨1, 0, some 0⟩)] tysOK mixed Try.func38 (by rfl) (Try.call38) ⟨hi, hj, trivial⟩ ⟨oneRe _ _, oneRe _ _, trivial⟩ (by simp [Apart]) trivial ⟨.plain rfl, .ptr rfl, .ptr rfl, trivial⟩ ?_
  repeat' (refine N.go ?_; first | with_reducible refine N.obl (by decide) ?_ | with_reducible refine N.obl (flat_wi _ _ _) ?_ | with_reducible refine N.obl (flat_lim _ _) ?_ | with_reducible refine N.eq ?_ | with_reducible refine N.obl rfl ?_ | with_reducible refine N.obl ⟨by kernel_rfl, by kernel_rfl⟩ ?_ | with_reducible refine N.forkT ?_ | with_reducible refine N.forkF ?_ | exact N.true | refine N.obl trivial ?_ | refine N.obl (.plain rfl) ?_ | with_reducible refine N.call (cFine1 _ _ _ _ ho) ?_)
theorem cRg0 (ra db da rb dr sl ra' db' da' rb' : Int) (h : List (Option Chunk)) (e1 : ra' = ra) (e2 : db' = db) (e3 : da' = da) (e4 : rb' = rb) (ho : rgE ra db da rb dr sl = 0) : CallOK Try.prog 20 [.agg #[.int .i64 ra', .int .i64 db', .int .i64 da', .int .i64 rb'], .int .i64 dr, .int .i64 sl] h (.tuple #[.int .i64 (rgLo ra db da rb dr sl), .int .i64 (rgHi ra db da rb dr sl), .int .i64 0]) [] [] := by
  subst e1 e2 e3 e4
  have := cRange ra' db' da' rb' dr sl h
  unfold rgV at this
  rw [ho] at this
  exact this
theorem cRg2 (ra db da rb dr sl ra' db' da' rb' : Int) (h : List (Option Chunk)) (e1 : ra' = ra) (e2 : db' = db) (e3 : da' = da) (e4 : rb' = rb) (ho : rgE ra db da rb dr sl = 2) : CallOK Try.prog 20 [.agg #[.int .i64 ra', .int .i64 db', .int .i64 da', .int .i64 rb'], .int .i64 dr, .int .i64 sl] h (.tuple #[.int .i64 (0), .int .i64 (0), .int .i64 2]) [] [] := by
  subst e1 e2 e3 e4
  have := cRange ra' db' da' rb' dr sl h
  unfold rgV at this
  rw [ho] at this
  exact this
set_option maxRecDepth 100000 in
set_option maxHeartbeats 8000000 in
theorem walk (most da db oa ob st f1 f2 f3 w1 w2 sl : Int) (w : World) :
    Calls Try.prog 12 #[.agg #[.int .i64 most, .int .i64 da, .int .i64 db, .int .i64 oa, .int .i64 ob, .int .i64 st, .int .i64 f1, .int .i64 f2, .int .i64 f3, .int .i64 w1, .int .i64 w2, .int .i64 sl]] w fun o w' => o = .returned (.bool true) ∧ Below w.heap.size w w' := by
  have hm := u64mod most 1001 (by decide) (by decide)
  have hs := u64mod sl 10000 (by decide) (by decide)
  have hf := u64mod f3 1000000 (by decide) (by decide)
  have hoa := u64mod oa 1099511627776 (by decide) (by decide)
  have hob := u64mod ob 1099511627776 (by decide) (by decide)
  have hw1 := u64mod w1 1099511627776 (by decide) (by decide)
  have hw2 := u64mod w2 1099511627776 (by decide) (by decide)
  have hst := u64mod st 1099511627776 (by decide) (by decide)
  refine calls_pure (G := tys) w tysOK mixed Try.func12 (by rfl) (by rfl) (by rfl) ?_
  repeat' (refine N.go ?_; first | with_reducible refine N.obl (by decide) ?_ | with_reducible refine N.obl (flat_wi _ _ _) ?_ | with_reducible refine N.obl (flat_lim _ _) ?_ | with_reducible refine N.eq ?_ | with_reducible refine N.obl rfl ?_ | with_reducible refine N.obl ⟨by kernel_rfl, by kernel_rfl⟩ ?_ | with_reducible refine N.forkT ?_ | with_reducible refine N.forkF ?_)
  refine N.go ?_
  generalize IntKind.i64.wrap ((IntKind.u64.wrap most).tmod 1001) = m1 at hm ⊢
  have hda := u64modv da m1 (by omega) (by omega)
  have hdb := u64modv db m1 (by omega) (by omega)
  repeat' (refine N.go ?_; first | with_reducible refine N.obl (by decide) ?_ | with_reducible refine N.obl (flat_wi _ _ _) ?_ | with_reducible refine N.obl (flat_lim _ _) ?_ | with_reducible refine N.eq ?_ | with_reducible refine N.obl rfl ?_ | with_reducible refine N.obl ⟨by kernel_rfl, by kernel_rfl⟩ ?_ | with_reducible refine N.forkT ?_ | with_reducible refine N.forkF ?_ | refine N.obl (by simp only [IntKind.wrap_i64, IntKind.wrap_u64]; omega) ?_)
  refine N.go ?_
  generalize IntKind.i64.wrap (IntKind.i64.wrap ((IntKind.u64.wrap da).tmod (IntKind.u64.wrap (IntKind.i64.wrap (IntKind.i64.wrap (2 * m1) + 1)))) - m1) = d1 at hda ⊢
  generalize IntKind.i64.wrap (IntKind.i64.wrap ((IntKind.u64.wrap db).tmod (IntKind.u64.wrap (IntKind.i64.wrap (IntKind.i64.wrap (2 * m1) + 1)))) - m1) = d2 at hdb ⊢
  generalize IntKind.i64.wrap ((IntKind.u64.wrap sl).tmod 10000) = s1 at hs ⊢
  generalize IntKind.i64.wrap ((IntKind.u64.wrap f3).tmod 1000000) = g3 at hf ⊢
  have n1 := nearR g3 s1 f1 hf.1 hs
  have n2 := nearR g3 s1 f2 hf.1 hs
  repeat' (refine N.go ?_; first | with_reducible refine N.obl (by decide) ?_ | with_reducible refine N.obl (flat_wi _ _ _) ?_ | with_reducible refine N.obl (flat_lim _ _) ?_ | with_reducible refine N.eq ?_ | with_reducible refine N.obl rfl ?_ | with_reducible refine N.obl ⟨by kernel_rfl, by kernel_rfl⟩ ?_ | with_reducible refine N.forkT ?_ | with_reducible refine N.forkF ?_ | refine N.call (cNear _ _ _ g3 s1 _ (by rfl) (by rfl) hf hs) ?_ | refine N.call (cNew 0 _ (by rfl)) ?_ | refine N.call (cNew 1 _ (by rfl)) ?_ | refine N.call (cNew 2 _ (by rfl)) ?_ | refine N.call (cNew 3 _ (by rfl)) ?_ | refine N.call (cNew 4 _ (by rfl)) ?_ | refine N.call (cNew 5 _ (by rfl)) ?_ | refine N.call (cNew 6 _ (by rfl)) ?_ | refine N.call (cNew 7 _ (by rfl)) ?_ | refine N.call (cNew 8 _ (by rfl)) ?_ | refine N.call (cNew 9 _ (by rfl)) ?_ | refine N.call (cNew 10 _ (by rfl)) ?_ | refine N.call (cNew 11 _ (by rfl)) ?_ | refine N.call (cNew 12 _ (by rfl)) ?_ | refine N.call (cNew 13 _ (by rfl)) ?_ | refine N.call (cNew 14 _ (by rfl)) ?_ | refine N.call (cNew 15 _ (by rfl)) ?_)
  refine N.go ?_
  generalize IntKind.i64.wrap ((IntKind.u64.wrap oa).tmod 1099511627776) = o1 at hoa ⊢
  generalize IntKind.i64.wrap ((IntKind.u64.wrap ob).tmod 1099511627776) = o2 at hob ⊢
  generalize IntKind.i64.wrap ((IntKind.u64.wrap w1).tmod 1099511627776) = v1 at hw1 ⊢
  generalize IntKind.i64.wrap ((IntKind.u64.wrap w2).tmod 1099511627776) = v2 at hw2 ⊢
  generalize IntKind.i64.wrap ((IntKind.u64.wrap st).tmod 1099511627776) = t1 at hst ⊢
  generalize nearV g3 s1 f1 = x1 at n1 ⊢
  generalize nearV g3 s1 f2 = x2 at n2 ⊢
  have e2 : IntKind.i64.wrap (t1 + x1) = t1 + x1 := wsmall _ (by omega) (by omega)
  have e3 : IntKind.i64.wrap (IntKind.i64.wrap (t1 + x1) + v1) = t1 + x1 + v1 := by rw [e2]; exact wsmall _ (by omega) (by omega)
  have e4 : IntKind.i64.wrap (IntKind.i64.wrap (IntKind.i64.wrap (t1 + x1) + v1) + x2) = t1 + x1 + v1 + x2 := by rw [e3]; exact wsmall _ (by omega) (by omega)
  have e5 : IntKind.i64.wrap (IntKind.i64.wrap (IntKind.i64.wrap (IntKind.i64.wrap (t1 + x1) + v1) + x2) + v2) = t1 + x1 + v1 + x2 + v2 := by rw [e4]; exact wsmall _ (by omega) (by omega)
  have e6 : IntKind.i64.wrap (IntKind.i64.wrap (IntKind.i64.wrap (IntKind.i64.wrap (IntKind.i64.wrap (t1 + x1) + v1) + x2) + v2) + g3) = t1 + x1 + v1 + x2 + v2 + g3 := by rw [e5]; exact wsmall _ (by omega) (by omega)
  have A1 := fineR d1 o1 t1 (by omega) hoa (by omega)
  have A4 := fineR d1 o1 (t1 + x1 + v1 + x2) (by omega) hoa (by omega)
  have A5 := fineR d1 o1 (t1 + x1 + v1 + x2 + v2) (by omega) hoa (by omega)
  have B2 := fineR d2 o2 (t1 + x1) (by omega) hob (by omega)
  have B3 := fineR d2 o2 (t1 + x1 + v1) (by omega) hob (by omega)
  have B6 := fineR d2 o2 (t1 + x1 + v1 + x2 + v2 + g3) (by omega) hob (by omega)
  have D1 := diff d1 m1 o1 t1 (t1 + x1 + v1 + x2) (by omega) hda (by omega) (by omega) (by omega)
  have D2 := diff d2 m1 o2 (t1 + x1) (t1 + x1 + v1) (by omega) hdb (by omega) (by omega) (by omega)
  have D3 := diff d1 m1 o1 (t1 + x1 + v1 + x2) (t1 + x1 + v1 + x2 + v2) (by omega) hda (by omega) (by omega) (by omega)
  have D4 := diff d2 m1 o2 (t1 + x1 + v1) (t1 + x1 + v1 + x2 + v2 + g3) (by omega) hdb (by omega) (by omega) (by omega)
  have R := ring (fineN d1 o1 (t1 + x1 + v1 + x2) - fineN d1 o1 t1) (fineN d2 o2 (t1 + x1 + v1) - fineN d2 o2 (t1 + x1)) (fineN d1 o1 (t1 + x1 + v1 + x2 + v2) - fineN d1 o1 (t1 + x1 + v1 + x2)) (fineN d2 o2 (t1 + x1 + v1 + x2 + v2 + g3) - fineN d2 o2 (t1 + x1 + v1)) m1 s1 x1 x2 g3 v1 v2
    (by omega) (by omega) (by omega) (by omega) (by omega) (by omega) (by omega) (by omega) (by omega) (by omega) (by omega) (by omega) (by omega)
  have ho : rgOK (fineN d1 o1 (t1 + x1 + v1 + x2) - fineN d1 o1 t1) (fineN d2 o2 (t1 + x1 + v1) - fineN d2 o2 (t1 + x1)) (fineN d1 o1 (t1 + x1 + v1 + x2 + v2) - fineN d1 o1 (t1 + x1 + v1 + x2)) (fineN d2 o2 (t1 + x1 + v1 + x2 + v2 + g3) - fineN d2 o2 (t1 + x1 + v1)) m1 s1 :=
    ⟨⟨by omega, by omega⟩, ⟨⟨by omega, by omega⟩, by omega, by omega⟩, ⟨⟨by omega, by omega⟩, by omega, by omega⟩, ⟨⟨by omega, by omega⟩, by omega, by omega⟩, ⟨⟨by omega, by omega⟩, by omega, by omega⟩⟩
  by_cases hE : rgHi (fineN d1 o1 (t1 + x1 + v1 + x2) - fineN d1 o1 t1) (fineN d2 o2 (t1 + x1 + v1) - fineN d2 o2 (t1 + x1)) (fineN d1 o1 (t1 + x1 + v1 + x2 + v2) - fineN d1 o1 (t1 + x1 + v1 + x2)) (fineN d2 o2 (t1 + x1 + v1 + x2 + v2 + g3) - fineN d2 o2 (t1 + x1 + v1)) m1 s1 > 4194304
  · have hE2 : rgE (fineN d1 o1 (t1 + x1 + v1 + x2) - fineN d1 o1 t1) (fineN d2 o2 (t1 + x1 + v1) - fineN d2 o2 (t1 + x1)) (fineN d1 o1 (t1 + x1 + v1 + x2 + v2) - fineN d1 o1 (t1 + x1 + v1 + x2)) (fineN d2 o2 (t1 + x1 + v1 + x2 + v2 + g3) - fineN d2 o2 (t1 + x1 + v1)) m1 s1 = 2 := by unfold rgE; rw [if_pos ho, if_neg (by omega), if_pos hE]
    repeat' (refine N.go ?_; first | with_reducible refine N.obl (by decide) ?_ | with_reducible refine N.obl (flat_wi _ _ _) ?_ | with_reducible refine N.obl (flat_lim _ _) ?_ | with_reducible refine N.eq ?_ | with_reducible refine N.obl rfl ?_ | with_reducible refine N.obl ⟨by kernel_rfl, by kernel_rfl⟩ ?_ | with_reducible refine N.forkT ?_ | with_reducible refine N.forkF ?_ | refine N.call (cClk2 _ _ t1 _ _ _ _ (by rfl) (by rfl) rfl (ok3 (by omega) (by omega) (by omega) (by omega) (by omega) (by omega))) ?_ | refine N.call (cClk3 _ _ (t1 + x1) _ _ _ _ (by rfl) (by rfl) e2 (ok3 (by omega) (by omega) (by omega) (by omega) (by omega) (by omega))) ?_ | refine N.call (cClk3 _ _ (t1 + x1 + v1) _ _ _ _ (by rfl) (by rfl) e3 (ok3 (by omega) (by omega) (by omega) (by omega) (by omega) (by omega))) ?_ | refine N.call (cClk2 _ _ (t1 + x1 + v1 + x2) _ _ _ _ (by rfl) (by rfl) e4 (ok3 (by omega) (by omega) (by omega) (by omega) (by omega) (by omega))) ?_ | refine N.call (cClk2 _ _ (t1 + x1 + v1 + x2 + v2) _ _ _ _ (by rfl) (by rfl) e5 (ok3 (by omega) (by omega) (by omega) (by omega) (by omega) (by omega))) ?_ | refine N.call (cClk3 _ _ (t1 + x1 + v1 + x2 + v2 + g3) _ _ _ _ (by rfl) (by rfl) e6 (ok3 (by omega) (by omega) (by omega) (by omega) (by omega) (by omega))) ?_ | refine N.call (sPollY _ _ _ _ _ _ _ _ _ _ _ _ _ _ (by rfl) (by (try simp only [IntKind.wrap_i64]); omega)) ?_ | refine N.call (sGotPollY _ _ _ _ _ _ _ _ _ _ _ _ _ _ (by rfl) (by (try simp only [IntKind.wrap_i64]); omega)) ?_ | refine N.call (sGotRespY _ _ _ _ _ _ _ _ _ _ _ _ _ _ (by rfl) (by (try unfold ansP); (try unfold endP); (repeat rw [IntKind.wrap_i64]); omega)) ?_ | refine N.call (sFinalY _ _ _ _ _ _ _ _ _ _ _ _ _ (by rfl) (by (try unfold ansP); (try unfold endP); (repeat rw [IntKind.wrap_i64]); omega)) ?_ | refine N.call (sRespY _ _ _ _ _ _ _ _ _ _ _ _ _ _ (by rfl) (by (try unfold ansP); (try unfold endP); (repeat rw [IntKind.wrap_i64]); omega)) ?_ | refine N.call (sGotFinalY _ _ _ _ _ _ _ _ _ _ _ _ _ _ _ _ (by rfl) (by (try unfold ansP); (try unfold endP); (repeat rw [IntKind.wrap_i64]); omega)) ?_ | refine N.call (cRg2 _ _ _ _ _ _ _ _ _ _ _ (wsmall _ (by omega) (by omega)) (wsmall _ (by omega) (by omega)) (wsmall _ (by omega) (by omega)) (wsmall _ (by omega) (by omega)) hE2) ?_ | with_reducible refine N.call (cAwake15 _) ?_ | refine N.forkNo (by decide) ?_ | refine N.forkYes (by decide) ?_ | refine N.forkYes (by rw [decide_eq_true_eq]; (try simp only [IntKind.wrap_i64]); omega) ?_ | fail_if_success skip)
    all_goals rfl
  · have hE2 : rgE (fineN d1 o1 (t1 + x1 + v1 + x2) - fineN d1 o1 t1) (fineN d2 o2 (t1 + x1 + v1) - fineN d2 o2 (t1 + x1)) (fineN d1 o1 (t1 + x1 + v1 + x2 + v2) - fineN d1 o1 (t1 + x1 + v1 + x2)) (fineN d2 o2 (t1 + x1 + v1 + x2 + v2 + g3) - fineN d2 o2 (t1 + x1 + v1)) m1 s1 = 0 := by unfold rgE; rw [if_pos ho, if_neg (by omega), if_neg hE]
    repeat' (refine N.go ?_; first | with_reducible refine N.obl (by decide) ?_ | with_reducible refine N.obl (flat_wi _ _ _) ?_ | with_reducible refine N.obl (flat_lim _ _) ?_ | with_reducible refine N.eq ?_ | with_reducible refine N.obl rfl ?_ | with_reducible refine N.obl ⟨by kernel_rfl, by kernel_rfl⟩ ?_ | with_reducible refine N.forkT ?_ | with_reducible refine N.forkF ?_ | refine N.call (cClk2 _ _ t1 _ _ _ _ (by rfl) (by rfl) rfl (ok3 (by omega) (by omega) (by omega) (by omega) (by omega) (by omega))) ?_ | refine N.call (cClk3 _ _ (t1 + x1) _ _ _ _ (by rfl) (by rfl) e2 (ok3 (by omega) (by omega) (by omega) (by omega) (by omega) (by omega))) ?_ | refine N.call (cClk3 _ _ (t1 + x1 + v1) _ _ _ _ (by rfl) (by rfl) e3 (ok3 (by omega) (by omega) (by omega) (by omega) (by omega) (by omega))) ?_ | refine N.call (cClk2 _ _ (t1 + x1 + v1 + x2) _ _ _ _ (by rfl) (by rfl) e4 (ok3 (by omega) (by omega) (by omega) (by omega) (by omega) (by omega))) ?_ | refine N.call (cClk2 _ _ (t1 + x1 + v1 + x2 + v2) _ _ _ _ (by rfl) (by rfl) e5 (ok3 (by omega) (by omega) (by omega) (by omega) (by omega) (by omega))) ?_ | refine N.call (cClk3 _ _ (t1 + x1 + v1 + x2 + v2 + g3) _ _ _ _ (by rfl) (by rfl) e6 (ok3 (by omega) (by omega) (by omega) (by omega) (by omega) (by omega))) ?_ | refine N.call (sPollY _ _ _ _ _ _ _ _ _ _ _ _ _ _ (by rfl) (by (try simp only [IntKind.wrap_i64]); omega)) ?_ | refine N.call (sGotPollY _ _ _ _ _ _ _ _ _ _ _ _ _ _ (by rfl) (by (try simp only [IntKind.wrap_i64]); omega)) ?_ | refine N.call (sGotRespY _ _ _ _ _ _ _ _ _ _ _ _ _ _ (by rfl) (by (try unfold ansP); (try unfold endP); (repeat rw [IntKind.wrap_i64]); omega)) ?_ | refine N.call (sFinalY _ _ _ _ _ _ _ _ _ _ _ _ _ (by rfl) (by (try unfold ansP); (try unfold endP); (repeat rw [IntKind.wrap_i64]); omega)) ?_ | refine N.call (sRespY _ _ _ _ _ _ _ _ _ _ _ _ _ _ (by rfl) (by (try unfold ansP); (try unfold endP); (repeat rw [IntKind.wrap_i64]); omega)) ?_ | refine N.call (sGotFinalY _ _ _ _ _ _ _ _ _ _ _ _ _ _ _ _ (by rfl) (by (try unfold ansP); (try unfold endP); (repeat rw [IntKind.wrap_i64]); omega)) ?_ | refine N.call (cRg0 _ _ _ _ _ _ _ _ _ _ _ (wsmall _ (by omega) (by omega)) (wsmall _ (by omega) (by omega)) (wsmall _ (by omega) (by omega)) (wsmall _ (by omega) (by omega)) hE2) ?_ | with_reducible refine N.call (cAwake15 _) ?_ | refine N.forkNo (by decide) ?_ | refine N.forkYes (by decide) ?_ | refine N.forkYes (by rw [decide_eq_true_eq]; (try simp only [IntKind.wrap_i64]); omega) ?_ | fail_if_success skip)
    all_goals rfl
set_option maxRecDepth 100000 in
theorem open_world {H : Type} {enc : TypeId × Value → H} {W : World} {r : Reach} {base : Nat} {v : Value} {d : DataW H} {p : List MemPlace}
    (hv : Value.okWide Try.prog W r base 56 v) (h : DataW.Trod enc Try.prog W 0 (fun _ => true) true 56 v d p) :
    ∃ x0 x1 x2 x3 x4 x5 x6 x7 x8 x9 x10 x11 : Int, v = .agg #[.int .i64 x0, .int .i64 x1, .int .i64 x2, .int .i64 x3, .int .i64 x4, .int .i64 x5, .int .i64 x6, .int .i64 x7, .int .i64 x8, .int .i64 x9, .int .i64 x10, .int .i64 x11] := by
  obtain ⟨cs, rfl, hs⟩ := okWide_struct Try.underlying56 hv
  have hs2 : cs.size = 12 := hs.trans (by kernel_rfl)
  obtain ⟨l⟩ := cs
  match l, hs2 with
  | [c0, c1, c2, c3, c4, c5, c6, c7, c8, c9, c10, c11], _ =>
    obtain ⟨fuel, hf⟩ := h
    have hf' : DataW.trod enc Try.prog W 0 (fun _ => true) true fuel 56 [c0, c1, c2, c3, c4, c5, c6, c7, c8, c9, c10, c11] = some (d, p) := hf
    obtain ⟨k0, w0⟩ := leaf_int (d := 3) (l := 2) (j := 0) (u := c0) (by kernel_rfl) (@Try.underlying2) rfl hf'
    obtain ⟨k1, w1⟩ := leaf_int (d := 3) (l := 2) (j := 1) (u := c1) (by kernel_rfl) (@Try.underlying2) rfl hf'
    obtain ⟨k2, w2⟩ := leaf_int (d := 3) (l := 2) (j := 2) (u := c2) (by kernel_rfl) (@Try.underlying2) rfl hf'
    obtain ⟨k3, w3⟩ := leaf_int (d := 3) (l := 2) (j := 3) (u := c3) (by kernel_rfl) (@Try.underlying2) rfl hf'
    obtain ⟨k4, w4⟩ := leaf_int (d := 3) (l := 2) (j := 4) (u := c4) (by kernel_rfl) (@Try.underlying2) rfl hf'
    obtain ⟨k5, w5⟩ := leaf_int (d := 3) (l := 2) (j := 5) (u := c5) (by kernel_rfl) (@Try.underlying2) rfl hf'
    obtain ⟨k6, w6⟩ := leaf_int (d := 3) (l := 2) (j := 6) (u := c6) (by kernel_rfl) (@Try.underlying2) rfl hf'
    obtain ⟨k7, w7⟩ := leaf_int (d := 3) (l := 2) (j := 7) (u := c7) (by kernel_rfl) (@Try.underlying2) rfl hf'
    obtain ⟨k8, w8⟩ := leaf_int (d := 3) (l := 2) (j := 8) (u := c8) (by kernel_rfl) (@Try.underlying2) rfl hf'
    obtain ⟨k9, w9⟩ := leaf_int (d := 3) (l := 2) (j := 9) (u := c9) (by kernel_rfl) (@Try.underlying2) rfl hf'
    obtain ⟨k10, w10⟩ := leaf_int (d := 3) (l := 2) (j := 10) (u := c10) (by kernel_rfl) (@Try.underlying2) rfl hf'
    obtain ⟨k11, w11⟩ := leaf_int (d := 3) (l := 2) (j := 11) (u := c11) (by kernel_rfl) (@Try.underlying2) rfl hf'
    exact ⟨_, _, _, _, _, _, _, _, _, _, _, _, by rw [k0, k1, k2, k3, k4, k5, k6, k7, k8, k9, k10, k11]⟩
set_option maxRecDepth 100000 in
theorem lifted (os : Os) (started : os.Started) (H : Type) (enc : TypeId × Value → H) :
    ReturnsInHanded {} Try.checked os 12 .any (Rows.twrHoldsSpec.pre6 enc Try.prog Try.f12 Rows.twrHoldsRow.domain false) (Rows.twrHoldsSpec.post enc Try.prog Try.f12 false true false false) := by
  refine law_lifted (C := Try.checked) (tb := 4) Try.own started (by kernel_rfl) Try.func12 Try.laidOut (by kernel_rfl) rfl Try.underlying4 rfl
    (fun ds hds => by match ds, hds with | [_], _ => rfl)
    (ChangeSpec.witness6 (enc := enc) (C := Try.checked) false ⟨#[], #[.agg #[.int .i64 0, .int .i64 0, .int .i64 0, .int .i64 0, .int .i64 0, .int .i64 0, .int .i64 0, .int .i64 0, .int .i64 0, .int .i64 0, .int .i64 0, .int .i64 0]], []⟩ 8 (by kernel_rfl) (by kernel_rfl) (by kernel_rfl) (by kernel_rfl)) ?_
  intro W base args ds p hval0 hA0 hsz0
  have hval : ∀ (j : Nat) t v, Try.f12.params[j]? = some t → args[j]? = some v → Value.okWide Try.prog W .any base t v := hval0
  have hA : DataW.TrodAll enc Try.prog W 0 (fun _ => true) true Try.f12.params.toList args.toList ds p := hA0
  have hsz : (DataW.weightsEach Try.prog Try.f12.params.toList ds).all (· ≤ reachBytes) = true := hsz0
  rw [Try.params12] at hA hval hsz
  obtain ⟨v0, vs0, d0, ds0, p0, q0, hargs, rfl, rfl, h0, r0⟩ := trodAll_cons hA
  obtain ⟨rfl, rfl, rfl⟩ := trodAll_nil r0
  obtain rfl : args = #[v0] := by cases args; simp_all
  obtain ⟨f0_0, f0_1, f0_2, f0_3, f0_4, f0_5, f0_6, f0_7, f0_8, f0_9, f0_10, f0_11, rfl⟩ := open_world (hval 0 _ v0 rfl rfl) h0
  exact walk f0_0 f0_1 f0_2 f0_3 f0_4 f0_5 f0_6 f0_7 f0_8 f0_9 f0_10 f0_11 W

theorem proved : Rows.TwrHoldsSaid :=
  OpenClaim.holds_of_wide 12 Try.f12 rfl rfl rfl rfl rfl rfl rfl ⟨rfl, rfl, rfl, rfl, rfl⟩ rfl rfl rfl rfl rfl (by kernel_rfl) Try.func12 (by kernel_rfl)
    (of_decide_eq_true (by kernel_rfl)) (by unfold Func.isWrapper; rw [if_neg (by decide +kernel)]; exact ⟨rfl, rfl⟩)
    (fun os started H enc _ => lifted os started H enc)
#print axioms proved
end Go.Proofs.Ytioohgocbpdkeaa.twrHolds
