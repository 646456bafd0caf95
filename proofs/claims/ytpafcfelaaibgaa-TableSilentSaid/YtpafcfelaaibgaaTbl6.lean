/-
  The walks of window.New and begin.
-/
import Derived.Test.YtpafcfelaaibgaaTbl5
set_option linter.unusedVariables false
set_option linter.unusedSimpArgs false
namespace Go.Proofs.Ytpafcfelaaibgaa
open Go Go.RowKit Sx

set_option maxRecDepth 100000 in
set_option maxHeartbeats 2000000 in
theorem cNewWin (K : Nat) (h : List (Option Chunk)) (hK : h[K]? = some none) : CallOK Try.prog 35 [] h (.pointer (some ⟨K, 0, some 0⟩)) [(K, winC true Win.zero)] [] := by
  refine call_sub (G := tys) [] [⟨K, 0, winC true Win.zero⟩] [] tysOK mixed Try.func35 (by rfl) (Try.call35) trivial trivial trivial ⟨⟨hK, rfl, (by show 0 < 3; decide), by simp⟩, trivial⟩ trivial ?_
  repeat' (refine N.go ?_; first | with_reducible refine N.obl (by decide) ?_ | with_reducible refine N.obl (flat_wi _ _ _) ?_ | with_reducible refine N.obl (flat_lim _ _) ?_ | with_reducible refine N.eq ?_ | with_reducible refine N.obl rfl ?_ | with_reducible refine N.obl ⟨by kernel_rfl, by kernel_rfl⟩ ?_ | with_reducible refine N.forkT ?_ | with_reducible refine N.forkF ?_ | refine N.obl (.one (.ptr rfl)) ?_ | refine N.obl trivial ?_ | refine N.obl ⟨⟨Nat.le_refl _, _, rfl, id, Nat.le_refl _, wn_re⟩, trivial⟩ ?_ | exact N.true | fail_if_success skip)
set_option maxRecDepth 100000 in
set_option maxHeartbeats 2000000 in
theorem cBeginA (x : Ext) (o : Bool) (most : Int) (E : List (Int × Ent)) (D : List (Int × LifR)) (n boot : Int) (r : LifR) (hg : dGet D n = some r) (hb1 : r.boot = boot) (hl : r.left = true) (i i1 i2 : Nat) (h : List (Option Chunk)) (hi : h[i]? = some (some (mainG x o most i1 i2))) (h1 : h[i1]? = some (some (mapC entV E))) (h2 : h[i2]? = some (some (mapC lifV D))) (hii : i ≠ i1 ∧ i ≠ i2 ∧ i1 ≠ i2) :
    CallOK Try.prog 24 [.pointer (some ⟨i, 0, some 0⟩), .int .i64 n, .int .i64 boot] h (.tuple ⟨[.agg ⟨[.int .i64 0, .bool false, .pointer none]⟩, .int .i64 9]⟩) [(i1, mapC entV E), (i2, mapC lifV D)] [i] := by
  refine call_res (G := tys) (fun _ : Unit => True) (fun _ => _) [⟨i, _, mainN most, noC⟩, ⟨i1, mapC entV E, mapC entV E, mapC entV E⟩, ⟨i2, mapC lifV D, mapC lifV D, mapC lifV D⟩] [] [.pointer (some ⟨0, 0, some 0⟩), .int .i64 n, .int .i64 boot] tysOK mixed Try.func24 (by rfl) (Try.call24) ⟨hi, h1, h2, trivial⟩
    ⟨⟨fun h => (by cases h), Nat.le_refl _, mainG_re (by rfl) (by rfl)⟩, ⟨fun h => ⟨rfl, Nat.le_refl _⟩, Nat.le_refl _, map_re⟩, ⟨fun h => ⟨rfl, Nat.le_refl _⟩, Nat.le_refl _, map_re⟩, trivial⟩ (by simp [Apart, hii.1, hii.2.1, hii.2.2]) ⟨.inl rfl, .inr ⟨rfl, rfl⟩, .inr ⟨rfl, rfl⟩, trivial⟩ trivial ⟨.ptr rfl, .plain rfl, .plain rfl, trivial⟩ Opens.same ?_
  rintro ⟨⟩ -
  obtain ⟨rb, rl, rq⟩ := r
  have hb1 : rb = boot := hb1
  have hl : rl = true := hl
  subst hb1 hl
  repeat' (refine N.go ?_; first | with_reducible refine N.obl (by decide) ?_ | with_reducible refine N.obl (flat_wi _ _ _) ?_ | with_reducible refine N.obl (flat_lim _ _) ?_ | with_reducible refine N.eq ?_ | with_reducible refine N.obl rfl ?_ | with_reducible refine N.obl ⟨by kernel_rfl, by kernel_rfl⟩ ?_ | with_reducible refine N.forkT ?_ | with_reducible refine N.forkF ?_ | refine N_look lifV D rfl Try.underlying65 Try.underlying3 Try.type70 rfl (.tuple ⟨[lifV ⟨rb, true, rq⟩, .bool true]⟩) (by rw [hg]; rfl) rfl ?_ | refine N.forkYes (by simp) ?_ | refine N.forkT ?_ | refine N.forkF ?_ | refine N.endSame ?_ | refine N.obl (.plain rfl) ?_ | refine N.obl ⟨map_post (by rfl), map_post (by rfl), trivial⟩ ?_ | refine N.obl trivial ?_ | refine N.obl ⟨⟨.inl rfl, .inr ⟨_, rfl, rfl⟩, .inr ⟨_, rfl, rfl⟩, trivial⟩, trivial⟩ ?_ | exact N.true | fail_if_success skip)
set_option maxRecDepth 100000 in
set_option maxHeartbeats 2000000 in
theorem cBeginB (x : Ext) (o : Bool) (most : Int) (E : List (Int × Ent)) (D : List (Int × LifR)) (n boot : Int) (r : LifR) (hg : dGet D n = some r) (hb1 : r.boot = boot) (hl : r.left = false) (i i1 i2 : Nat) (h : List (Option Chunk)) (hi : h[i]? = some (some (mainG x o most i1 i2))) (h1 : h[i1]? = some (some (mapC entV E))) (h2 : h[i2]? = some (some (mapC lifV D))) (hii : i ≠ i1 ∧ i ≠ i2 ∧ i1 ≠ i2) :
    CallOK Try.prog 24 [.pointer (some ⟨i, 0, some 0⟩), .int .i64 n, .int .i64 boot] h (.tuple ⟨[lifV ⟨boot, false, r.q⟩, .int .i64 0]⟩) [(i1, mapC entV E), (i2, mapC lifV D)] [i] := by
  refine call_res (G := tys) (fun _ : Unit => True) (fun _ => _) [⟨i, _, mainN most, noC⟩, ⟨i1, mapC entV E, mapC entV E, mapC entV E⟩, ⟨i2, mapC lifV D, mapC lifV D, mapC lifV D⟩] [] [.pointer (some ⟨0, 0, some 0⟩), .int .i64 n, .int .i64 boot] tysOK mixed Try.func24 (by rfl) (Try.call24) ⟨hi, h1, h2, trivial⟩
    ⟨⟨fun h => (by cases h), Nat.le_refl _, mainG_re (by rfl) (by rfl)⟩, ⟨fun h => ⟨rfl, Nat.le_refl _⟩, Nat.le_refl _, map_re⟩, ⟨fun h => ⟨rfl, Nat.le_refl _⟩, Nat.le_refl _, map_re⟩, trivial⟩ (by simp [Apart, hii.1, hii.2.1, hii.2.2]) ⟨.inl rfl, .inr ⟨rfl, rfl⟩, .inr ⟨rfl, rfl⟩, trivial⟩ trivial ⟨.ptr rfl, .plain rfl, .plain rfl, trivial⟩ Opens.same ?_
  rintro ⟨⟩ -
  obtain ⟨rb, rl, rq⟩ := r
  have hb1 : rb = boot := hb1
  have hl : rl = false := hl
  subst hb1 hl
  repeat' (refine N.go ?_; first | with_reducible refine N.obl (by decide) ?_ | with_reducible refine N.obl (flat_wi _ _ _) ?_ | with_reducible refine N.obl (flat_lim _ _) ?_ | with_reducible refine N.eq ?_ | with_reducible refine N.obl rfl ?_ | with_reducible refine N.obl ⟨by kernel_rfl, by kernel_rfl⟩ ?_ | with_reducible refine N.forkT ?_ | with_reducible refine N.forkF ?_ | refine N_look lifV D rfl Try.underlying65 Try.underlying3 Try.type70 rfl (.tuple ⟨[lifV ⟨rb, false, rq⟩, .bool true]⟩) (by rw [hg]; rfl) rfl ?_ | refine N.forkYes (by simp) ?_ | refine N.forkT ?_ | refine N.forkF ?_ | refine N.endSame ?_ | refine N.obl (.plain rfl) ?_ | refine N.obl ⟨map_post (by rfl), map_post (by rfl), trivial⟩ ?_ | refine N.obl trivial ?_ | refine N.obl ⟨⟨.inl rfl, .inr ⟨_, rfl, rfl⟩, .inr ⟨_, rfl, rfl⟩, trivial⟩, trivial⟩ ?_ | exact N.true | fail_if_success skip)
set_option maxRecDepth 100000 in
set_option maxHeartbeats 2000000 in
theorem cBeginC (x : Ext) (o : Bool) (most : Int) (E : List (Int × Ent)) (D : List (Int × LifR)) (n boot : Int) (r : LifR) (hg : dGet D n = some r) (hb1 : r.boot ≠ boot) (hl : ¬ (0 < serD r.boot boot ∧ serD r.boot boot < 32768)) (i i1 i2 : Nat) (h : List (Option Chunk)) (hi : h[i]? = some (some (mainG x o most i1 i2))) (h1 : h[i1]? = some (some (mapC entV E))) (h2 : h[i2]? = some (some (mapC lifV D))) (hii : i ≠ i1 ∧ i ≠ i2 ∧ i1 ≠ i2) :
    CallOK Try.prog 24 [.pointer (some ⟨i, 0, some 0⟩), .int .i64 n, .int .i64 boot] h (.tuple ⟨[.agg ⟨[.int .i64 0, .bool false, .pointer none]⟩, .int .i64 9]⟩) [(i1, mapC entV E), (i2, mapC lifV D)] [i] := by
  refine call_res (G := tys) (fun _ : Unit => True) (fun _ => _) [⟨i, _, mainN most, noC⟩, ⟨i1, mapC entV E, mapC entV E, mapC entV E⟩, ⟨i2, mapC lifV D, mapC lifV D, mapC lifV D⟩] [] [.pointer (some ⟨0, 0, some 0⟩), .int .i64 n, .int .i64 boot] tysOK mixed Try.func24 (by rfl) (Try.call24) ⟨hi, h1, h2, trivial⟩
    ⟨⟨fun h => (by cases h), Nat.le_refl _, mainG_re (by rfl) (by rfl)⟩, ⟨fun h => ⟨rfl, Nat.le_refl _⟩, Nat.le_refl _, map_re⟩, ⟨fun h => ⟨rfl, Nat.le_refl _⟩, Nat.le_refl _, map_re⟩, trivial⟩ (by simp [Apart, hii.1, hii.2.1, hii.2.2]) ⟨.inl rfl, .inr ⟨rfl, rfl⟩, .inr ⟨rfl, rfl⟩, trivial⟩ trivial ⟨.ptr rfl, .plain rfl, .plain rfl, trivial⟩ Opens.same ?_
  rintro ⟨⟩ -
  repeat' (refine N.go ?_; first | with_reducible refine N.obl (by decide) ?_ | with_reducible refine N.obl (flat_wi _ _ _) ?_ | with_reducible refine N.obl (flat_lim _ _) ?_ | with_reducible refine N.eq ?_ | with_reducible refine N.obl rfl ?_ | with_reducible refine N.obl ⟨by kernel_rfl, by kernel_rfl⟩ ?_ | with_reducible refine N.forkT ?_ | with_reducible refine N.forkF ?_ | refine N_look lifV D rfl Try.underlying65 Try.underlying3 Try.type70 rfl (.tuple ⟨[lifV r, .bool true]⟩) (by rw [hg]; rfl) rfl ?_ | refine N.call (cLess _ _ _) ?_ | refine N.forkNo (by simp only [beq_eq_false_iff_ne]; exact hb1) ?_ | refine N.forkYes (by rw [decide_eq_false hl]; rfl) ?_ | refine N.forkT ?_ | refine N.forkF ?_ | refine N.endSame ?_ | refine N.obl (.plain rfl) ?_ | refine N.obl ⟨map_post (by rfl), map_post (by rfl), trivial⟩ ?_ | refine N.obl trivial ?_ | refine N.obl ⟨⟨.inl rfl, .inr ⟨_, rfl, rfl⟩, .inr ⟨_, rfl, rfl⟩, trivial⟩, trivial⟩ ?_ | exact N.true | fail_if_success skip)
/-- The entries when a life begins: the entry there is, without its track. -/
def begE (E : List (Int × Ent)) (n : Int) : List (Int × Ent) := match dGet E n with
  | some e => dPut E n ⟨n, e.boot, e.heard, false, 0, 0, 0, 0, 0, 0⟩
  | none => E
set_option maxRecDepth 100000 in
set_option maxHeartbeats 2000000 in
theorem cBeginNY (x : Ext) (o : Bool) (most : Int) (E : List (Int × Ent)) (D : List (Int × LifR)) (n boot : Int) (hn : 0 ≤ n ∧ n < 64) (hg : dGet D n = none) (e : Ent) (hE : dGet E n = some e) (i i1 i2 : Nat) (h : List (Option Chunk)) (hi : h[i]? = some (some (mainG x o most i1 i2))) (h1 : h[i1]? = some (some (mapC entV E))) (h2 : h[i2]? = some (some (mapC lifV D))) (hii : i ≠ i1 ∧ i ≠ i2 ∧ i1 ≠ i2) (K : Nat) (hK : h[K]? = some none) (hKi : K ≠ i1 ∧ K ≠ i2) :
    CallAll Try.prog 24 [.pointer (some ⟨i, 0, some 0⟩), .int .i64 n, .int .i64 boot] h (fun v ms => ∃ q : Nat × Nat, v = .tuple ⟨[lifV ⟨boot, false, q⟩, .int .i64 0]⟩ ∧ ms = [(i1, mapC entV (begE E n)), (i2, mapC lifV D), (K, winX (atX q) Win.zero)]) := by
  refine callAll_mono (call_resall (G := tys) (fun _ : Unit => True) (fun _ => _) (α := Nat × Nat) (fun _ => True) (fun q => .tuple ⟨[lifV ⟨boot, false, q⟩, .int .i64 0]⟩) [⟨i, _, mainN most, noC⟩, ⟨i1, mapC entV E, mapC entV E, mapC entV E⟩, ⟨i2, mapC lifV D, mapC lifV D, mapC lifV D⟩] (fun _ => [noC, mapC entV (begE E n), mapC lifV D]) (fun q => [⟨K, 6, winX (atX q) Win.zero⟩]) [.pointer (some ⟨0, 0, some 0⟩), .int .i64 n, .int .i64 boot] tysOK mixed Try.func24 (by rfl) (Try.call24) ⟨hi, h1, h2, trivial⟩
    ⟨⟨fun h => (by cases h), Nat.le_refl _, mainG_re (by rfl) (by rfl)⟩, ⟨fun h => ⟨rfl, Nat.le_refl _⟩, Nat.le_refl _, map_re⟩, ⟨fun h => ⟨rfl, Nat.le_refl _⟩, Nat.le_refl _, map_re⟩, trivial⟩ (fun _ _ => ⟨⟨fun h => (by cases h), Nat.le_refl _, mainG_re (by rfl) (by rfl)⟩, ⟨fun h => ⟨rfl, Nat.le_refl _⟩, Nat.le_refl _, map_re⟩, ⟨fun h => ⟨rfl, Nat.le_refl _⟩, Nat.le_refl _, map_re⟩, trivial⟩) (by simp [Apart, hii.1, hii.2.1, hii.2.2]) ⟨.inl rfl, .inr ⟨rfl, rfl⟩, .inr ⟨rfl, rfl⟩, trivial⟩ (fun q _ => ⟨⟨hK, rfl, .inl (by show 0 < 3; decide), by simp⟩, trivial⟩) ⟨.ptr rfl, .plain rfl, .plain rfl, trivial⟩ Opens.same ?_) ?_
  rotate_left
  · intro v ms hR
    obtain ⟨q, _, rfl, rfl⟩ := hR
    exact ⟨q, rfl, rfl⟩
  rintro ⟨⟩ -
  have hbe : begE E n = dPut E n ⟨n, e.boot, e.heard, false, 0, 0, 0, 0, 0, 0⟩ := by unfold begE; rw [hE]
  rw [hbe]
  repeat' (refine N.go ?_; first | with_reducible refine N.obl (by decide) ?_ | with_reducible refine N.obl (flat_wi _ _ _) ?_ | with_reducible refine N.obl (flat_lim _ _) ?_ | with_reducible refine N.eq ?_ | with_reducible refine N.obl rfl ?_ | with_reducible refine N.obl ⟨by kernel_rfl, by kernel_rfl⟩ ?_ | with_reducible refine N.forkT ?_ | with_reducible refine N.forkF ?_ | refine N_look lifV D rfl Try.underlying65 Try.underlying3 Try.type70 rfl (.tuple ⟨[.agg ⟨[.int .i64 0, .bool false, .pointer none]⟩, .bool false]⟩) (by rw [hg]; rfl) rfl ?_ | refine N_look entV E rfl Try.underlying64 Try.underlying3 Try.type36 rfl (.tuple ⟨[entV e, .bool true]⟩) (by rw [hE]; rfl) rfl ?_ | refine N_put entV E ⟨n, e.boot, e.heard, false, 0, 0, 0, 0, 0, 0⟩ rfl rfl ⟨by omega, by omega⟩ rfl Try.underlying64 Try.underlying3 ?_ | refine N.call (cNewWin 6 _ (by rfl)) ?_ | refine N.call (cLess _ _ _) ?_ | refine N.forkNo (by simp only [beq_eq_false_iff_ne]; exact hb1) ?_ | refine N.forkNo (by rw [decide_eq_true hl]; rfl) ?_ | refine N.forkT ?_ | refine N.forkF ?_ | fail_if_success skip)
  refine N.go ?_
  refine N_endMark (k := 6) (fun q => .tuple ⟨[lifV ⟨boot, false, q⟩, .int .i64 0]⟩) (by rfl) (fun q ρ hρ => by simp [den, den2, den1, den0, denA, realP, hρ]) fun q => ?_
  refine N.endSame ?_
  refine N.some q ⟨trivial, ?_⟩
  refine N.obl (.plain rfl) ?_
  refine N.obl ⟨map_post (by rfl), map_post (by rfl), trivial⟩ ?_
  refine N.obl ⟨⟨Nat.le_of_ble_eq_true rfl, _, rfl, id, Nat.le_refl _, wx_re⟩, trivial⟩ ?_
  refine N.obl ⟨⟨.inl rfl, .inr ⟨_, rfl, rfl⟩, .inr ⟨_, rfl, rfl⟩, trivial⟩, .inr ⟨_, rfl, rfl⟩, trivial⟩ ?_
  exact N.true
set_option maxRecDepth 100000 in
set_option maxHeartbeats 2000000 in
theorem cBeginNN (x : Ext) (o : Bool) (most : Int) (E : List (Int × Ent)) (D : List (Int × LifR)) (n boot : Int) (hn : 0 ≤ n ∧ n < 64) (hg : dGet D n = none) (hE : dGet E n = none) (i i1 i2 : Nat) (h : List (Option Chunk)) (hi : h[i]? = some (some (mainG x o most i1 i2))) (h1 : h[i1]? = some (some (mapC entV E))) (h2 : h[i2]? = some (some (mapC lifV D))) (hii : i ≠ i1 ∧ i ≠ i2 ∧ i1 ≠ i2) (K : Nat) (hK : h[K]? = some none) (hKi : K ≠ i1 ∧ K ≠ i2) :
    CallAll Try.prog 24 [.pointer (some ⟨i, 0, some 0⟩), .int .i64 n, .int .i64 boot] h (fun v ms => ∃ q : Nat × Nat, v = .tuple ⟨[lifV ⟨boot, false, q⟩, .int .i64 0]⟩ ∧ ms = [(i1, mapC entV (begE E n)), (i2, mapC lifV D), (K, winX (atX q) Win.zero)]) := by
  refine callAll_mono (call_resall (G := tys) (fun _ : Unit => True) (fun _ => _) (α := Nat × Nat) (fun _ => True) (fun q => .tuple ⟨[lifV ⟨boot, false, q⟩, .int .i64 0]⟩) [⟨i, _, mainN most, noC⟩, ⟨i1, mapC entV E, mapC entV E, mapC entV E⟩, ⟨i2, mapC lifV D, mapC lifV D, mapC lifV D⟩] (fun _ => [noC, mapC entV (begE E n), mapC lifV D]) (fun q => [⟨K, 6, winX (atX q) Win.zero⟩]) [.pointer (some ⟨0, 0, some 0⟩), .int .i64 n, .int .i64 boot] tysOK mixed Try.func24 (by rfl) (Try.call24) ⟨hi, h1, h2, trivial⟩
    ⟨⟨fun h => (by cases h), Nat.le_refl _, mainG_re (by rfl) (by rfl)⟩, ⟨fun h => ⟨rfl, Nat.le_refl _⟩, Nat.le_refl _, map_re⟩, ⟨fun h => ⟨rfl, Nat.le_refl _⟩, Nat.le_refl _, map_re⟩, trivial⟩ (fun _ _ => ⟨⟨fun h => (by cases h), Nat.le_refl _, mainG_re (by rfl) (by rfl)⟩, ⟨fun h => ⟨rfl, Nat.le_refl _⟩, Nat.le_refl _, map_re⟩, ⟨fun h => ⟨rfl, Nat.le_refl _⟩, Nat.le_refl _, map_re⟩, trivial⟩) (by simp [Apart, hii.1, hii.2.1, hii.2.2]) ⟨.inl rfl, .inr ⟨rfl, rfl⟩, .inr ⟨rfl, rfl⟩, trivial⟩ (fun q _ => ⟨⟨hK, rfl, .inl (by show 0 < 3; decide), by simp⟩, trivial⟩) ⟨.ptr rfl, .plain rfl, .plain rfl, trivial⟩ Opens.same ?_) ?_
  rotate_left
  · intro v ms hR
    obtain ⟨q, _, rfl, rfl⟩ := hR
    exact ⟨q, rfl, rfl⟩
  rintro ⟨⟩ -
  have hbe : begE E n = E := by unfold begE; rw [hE]
  rw [hbe]
  repeat' (refine N.go ?_; first | with_reducible refine N.obl (by decide) ?_ | with_reducible refine N.obl (flat_wi _ _ _) ?_ | with_reducible refine N.obl (flat_lim _ _) ?_ | with_reducible refine N.eq ?_ | with_reducible refine N.obl rfl ?_ | with_reducible refine N.obl ⟨by kernel_rfl, by kernel_rfl⟩ ?_ | with_reducible refine N.forkT ?_ | with_reducible refine N.forkF ?_ | refine N_look lifV D rfl Try.underlying65 Try.underlying3 Try.type70 rfl (.tuple ⟨[.agg ⟨[.int .i64 0, .bool false, .pointer none]⟩, .bool false]⟩) (by rw [hg]; rfl) rfl ?_ | refine N_look entV E rfl Try.underlying64 Try.underlying3 Try.type36 rfl (.tuple ⟨[entV Ent.zero, .bool false]⟩) (by rw [hE]; rfl) rfl ?_ | refine N_put entV E ⟨n, e.boot, e.heard, false, 0, 0, 0, 0, 0, 0⟩ rfl rfl ⟨by omega, by omega⟩ rfl Try.underlying64 Try.underlying3 ?_ | refine N.call (cNewWin 6 _ (by rfl)) ?_ | refine N.call (cLess _ _ _) ?_ | refine N.forkNo (by simp only [beq_eq_false_iff_ne]; exact hb1) ?_ | refine N.forkNo (by rw [decide_eq_true hl]; rfl) ?_ | refine N.forkT ?_ | refine N.forkF ?_ | fail_if_success skip)
  refine N.go ?_
  refine N_endMark (k := 6) (fun q => .tuple ⟨[lifV ⟨boot, false, q⟩, .int .i64 0]⟩) (by rfl) (fun q ρ hρ => by simp [den, den2, den1, den0, denA, realP, hρ]) fun q => ?_
  refine N.endSame ?_
  refine N.some q ⟨trivial, ?_⟩
  refine N.obl (.plain rfl) ?_
  refine N.obl ⟨map_post (by rfl), map_post (by rfl), trivial⟩ ?_
  refine N.obl ⟨⟨Nat.le_of_ble_eq_true rfl, _, rfl, id, Nat.le_refl _, wx_re⟩, trivial⟩ ?_
  refine N.obl ⟨⟨.inl rfl, .inr ⟨_, rfl, rfl⟩, .inr ⟨_, rfl, rfl⟩, trivial⟩, .inr ⟨_, rfl, rfl⟩, trivial⟩ ?_
  exact N.true
set_option maxRecDepth 100000 in
set_option maxHeartbeats 2000000 in
theorem cBeginOY (x : Ext) (o : Bool) (most : Int) (E : List (Int × Ent)) (D : List (Int × LifR)) (n boot : Int) (hn : 0 ≤ n ∧ n < 64) (r : LifR) (hg : dGet D n = some r) (hb1 : r.boot ≠ boot) (hl : 0 < serD r.boot boot ∧ serD r.boot boot < 32768) (e : Ent) (hE : dGet E n = some e) (i i1 i2 : Nat) (h : List (Option Chunk)) (hi : h[i]? = some (some (mainG x o most i1 i2))) (h1 : h[i1]? = some (some (mapC entV E))) (h2 : h[i2]? = some (some (mapC lifV D))) (hii : i ≠ i1 ∧ i ≠ i2 ∧ i1 ≠ i2) (K : Nat) (hK : h[K]? = some none) (hKi : K ≠ i1 ∧ K ≠ i2) :
    CallAll Try.prog 24 [.pointer (some ⟨i, 0, some 0⟩), .int .i64 n, .int .i64 boot] h (fun v ms => ∃ q : Nat × Nat, v = .tuple ⟨[lifV ⟨boot, false, q⟩, .int .i64 0]⟩ ∧ ms = [(i1, mapC entV (begE E n)), (i2, mapC lifV D), (K, winX (atX q) Win.zero)]) := by
  refine callAll_mono (call_resall (G := tys) (fun _ : Unit => True) (fun _ => _) (α := Nat × Nat) (fun _ => True) (fun q => .tuple ⟨[lifV ⟨boot, false, q⟩, .int .i64 0]⟩) [⟨i, _, mainN most, noC⟩, ⟨i1, mapC entV E, mapC entV E, mapC entV E⟩, ⟨i2, mapC lifV D, mapC lifV D, mapC lifV D⟩] (fun _ => [noC, mapC entV (begE E n), mapC lifV D]) (fun q => [⟨K, 6, winX (atX q) Win.zero⟩]) [.pointer (some ⟨0, 0, some 0⟩), .int .i64 n, .int .i64 boot] tysOK mixed Try.func24 (by rfl) (Try.call24) ⟨hi, h1, h2, trivial⟩
    ⟨⟨fun h => (by cases h), Nat.le_refl _, mainG_re (by rfl) (by rfl)⟩, ⟨fun h => ⟨rfl, Nat.le_refl _⟩, Nat.le_refl _, map_re⟩, ⟨fun h => ⟨rfl, Nat.le_refl _⟩, Nat.le_refl _, map_re⟩, trivial⟩ (fun _ _ => ⟨⟨fun h => (by cases h), Nat.le_refl _, mainG_re (by rfl) (by rfl)⟩, ⟨fun h => ⟨rfl, Nat.le_refl _⟩, Nat.le_refl _, map_re⟩, ⟨fun h => ⟨rfl, Nat.le_refl _⟩, Nat.le_refl _, map_re⟩, trivial⟩) (by simp [Apart, hii.1, hii.2.1, hii.2.2]) ⟨.inl rfl, .inr ⟨rfl, rfl⟩, .inr ⟨rfl, rfl⟩, trivial⟩ (fun q _ => ⟨⟨hK, rfl, .inl (by show 0 < 3; decide), by simp⟩, trivial⟩) ⟨.ptr rfl, .plain rfl, .plain rfl, trivial⟩ Opens.same ?_) ?_
  rotate_left
  · intro v ms hR
    obtain ⟨q, _, rfl, rfl⟩ := hR
    exact ⟨q, rfl, rfl⟩
  rintro ⟨⟩ -
  have hbe : begE E n = dPut E n ⟨n, e.boot, e.heard, false, 0, 0, 0, 0, 0, 0⟩ := by unfold begE; rw [hE]
  rw [hbe]
  repeat' (refine N.go ?_; first | with_reducible refine N.obl (by decide) ?_ | with_reducible refine N.obl (flat_wi _ _ _) ?_ | with_reducible refine N.obl (flat_lim _ _) ?_ | with_reducible refine N.eq ?_ | with_reducible refine N.obl rfl ?_ | with_reducible refine N.obl ⟨by kernel_rfl, by kernel_rfl⟩ ?_ | with_reducible refine N.forkT ?_ | with_reducible refine N.forkF ?_ | refine N_look lifV D rfl Try.underlying65 Try.underlying3 Try.type70 rfl (.tuple ⟨[lifV r, .bool true]⟩) (by rw [hg]; rfl) rfl ?_ | refine N_look entV E rfl Try.underlying64 Try.underlying3 Try.type36 rfl (.tuple ⟨[entV e, .bool true]⟩) (by rw [hE]; rfl) rfl ?_ | refine N_put entV E ⟨n, e.boot, e.heard, false, 0, 0, 0, 0, 0, 0⟩ rfl rfl ⟨by omega, by omega⟩ rfl Try.underlying64 Try.underlying3 ?_ | refine N.call (cNewWin 6 _ (by rfl)) ?_ | refine N.call (cLess _ _ _) ?_ | refine N.forkNo (by simp only [beq_eq_false_iff_ne]; exact hb1) ?_ | refine N.forkNo (by rw [decide_eq_true hl]; rfl) ?_ | refine N.forkT ?_ | refine N.forkF ?_ | fail_if_success skip)
  refine N.go ?_
  refine N_endMark (k := 6) (fun q => .tuple ⟨[lifV ⟨boot, false, q⟩, .int .i64 0]⟩) (by rfl) (fun q ρ hρ => by simp [den, den2, den1, den0, denA, realP, hρ]) fun q => ?_
  refine N.endSame ?_
  refine N.some q ⟨trivial, ?_⟩
  refine N.obl (.plain rfl) ?_
  refine N.obl ⟨map_post (by rfl), map_post (by rfl), trivial⟩ ?_
  refine N.obl ⟨⟨Nat.le_of_ble_eq_true rfl, _, rfl, id, Nat.le_refl _, wx_re⟩, trivial⟩ ?_
  refine N.obl ⟨⟨.inl rfl, .inr ⟨_, rfl, rfl⟩, .inr ⟨_, rfl, rfl⟩, trivial⟩, .inr ⟨_, rfl, rfl⟩, trivial⟩ ?_
  exact N.true
set_option maxRecDepth 100000 in
set_option maxHeartbeats 2000000 in
theorem cBeginON (x : Ext) (o : Bool) (most : Int) (E : List (Int × Ent)) (D : List (Int × LifR)) (n boot : Int) (hn : 0 ≤ n ∧ n < 64) (r : LifR) (hg : dGet D n = some r) (hb1 : r.boot ≠ boot) (hl : 0 < serD r.boot boot ∧ serD r.boot boot < 32768) (hE : dGet E n = none) (i i1 i2 : Nat) (h : List (Option Chunk)) (hi : h[i]? = some (some (mainG x o most i1 i2))) (h1 : h[i1]? = some (some (mapC entV E))) (h2 : h[i2]? = some (some (mapC lifV D))) (hii : i ≠ i1 ∧ i ≠ i2 ∧ i1 ≠ i2) (K : Nat) (hK : h[K]? = some none) (hKi : K ≠ i1 ∧ K ≠ i2) :
    CallAll Try.prog 24 [.pointer (some ⟨i, 0, some 0⟩), .int .i64 n, .int .i64 boot] h (fun v ms => ∃ q : Nat × Nat, v = .tuple ⟨[lifV ⟨boot, false, q⟩, .int .i64 0]⟩ ∧ ms = [(i1, mapC entV (begE E n)), (i2, mapC lifV D), (K, winX (atX q) Win.zero)]) := by
  refine callAll_mono (call_resall (G := tys) (fun _ : Unit => True) (fun _ => _) (α := Nat × Nat) (fun _ => True) (fun q => .tuple ⟨[lifV ⟨boot, false, q⟩, .int .i64 0]⟩) [⟨i, _, mainN most, noC⟩, ⟨i1, mapC entV E, mapC entV E, mapC entV E⟩, ⟨i2, mapC lifV D, mapC lifV D, mapC lifV D⟩] (fun _ => [noC, mapC entV (begE E n), mapC lifV D]) (fun q => [⟨K, 6, winX (atX q) Win.zero⟩]) [.pointer (some ⟨0, 0, some 0⟩), .int .i64 n, .int .i64 boot] tysOK mixed Try.func24 (by rfl) (Try.call24) ⟨hi, h1, h2, trivial⟩
    ⟨⟨fun h => (by cases h), Nat.le_refl _, mainG_re (by rfl) (by rfl)⟩, ⟨fun h => ⟨rfl, Nat.le_refl _⟩, Nat.le_refl _, map_re⟩, ⟨fun h => ⟨rfl, Nat.le_refl _⟩, Nat.le_refl _, map_re⟩, trivial⟩ (fun _ _ => ⟨⟨fun h => (by cases h), Nat.le_refl _, mainG_re (by rfl) (by rfl)⟩, ⟨fun h => ⟨rfl, Nat.le_refl _⟩, Nat.le_refl _, map_re⟩, ⟨fun h => ⟨rfl, Nat.le_refl _⟩, Nat.le_refl _, map_re⟩, trivial⟩) (by simp [Apart, hii.1, hii.2.1, hii.2.2]) ⟨.inl rfl, .inr ⟨rfl, rfl⟩, .inr ⟨rfl, rfl⟩, trivial⟩ (fun q _ => ⟨⟨hK, rfl, .inl (by show 0 < 3; decide), by simp⟩, trivial⟩) ⟨.ptr rfl, .plain rfl, .plain rfl, trivial⟩ Opens.same ?_) ?_
  rotate_left
  · intro v ms hR
    obtain ⟨q, _, rfl, rfl⟩ := hR
    exact ⟨q, rfl, rfl⟩
  rintro ⟨⟩ -
  have hbe : begE E n = E := by unfold begE; rw [hE]
  rw [hbe]
  repeat' (refine N.go ?_; first | with_reducible refine N.obl (by decide) ?_ | with_reducible refine N.obl (flat_wi _ _ _) ?_ | with_reducible refine N.obl (flat_lim _ _) ?_ | with_reducible refine N.eq ?_ | with_reducible refine N.obl rfl ?_ | with_reducible refine N.obl ⟨by kernel_rfl, by kernel_rfl⟩ ?_ | with_reducible refine N.forkT ?_ | with_reducible refine N.forkF ?_ | refine N_look lifV D rfl Try.underlying65 Try.underlying3 Try.type70 rfl (.tuple ⟨[lifV r, .bool true]⟩) (by rw [hg]; rfl) rfl ?_ | refine N_look entV E rfl Try.underlying64 Try.underlying3 Try.type36 rfl (.tuple ⟨[entV Ent.zero, .bool false]⟩) (by rw [hE]; rfl) rfl ?_ | refine N_put entV E ⟨n, e.boot, e.heard, false, 0, 0, 0, 0, 0, 0⟩ rfl rfl ⟨by omega, by omega⟩ rfl Try.underlying64 Try.underlying3 ?_ | refine N.call (cNewWin 6 _ (by rfl)) ?_ | refine N.call (cLess _ _ _) ?_ | refine N.forkNo (by simp only [beq_eq_false_iff_ne]; exact hb1) ?_ | refine N.forkNo (by rw [decide_eq_true hl]; rfl) ?_ | refine N.forkT ?_ | refine N.forkF ?_ | fail_if_success skip)
  refine N.go ?_
  refine N_endMark (k := 6) (fun q => .tuple ⟨[lifV ⟨boot, false, q⟩, .int .i64 0]⟩) (by rfl) (fun q ρ hρ => by simp [den, den2, den1, den0, denA, realP, hρ]) fun q => ?_
  refine N.endSame ?_
  refine N.some q ⟨trivial, ?_⟩
  refine N.obl (.plain rfl) ?_
  refine N.obl ⟨map_post (by rfl), map_post (by rfl), trivial⟩ ?_
  refine N.obl ⟨⟨Nat.le_of_ble_eq_true rfl, _, rfl, id, Nat.le_refl _, wx_re⟩, trivial⟩ ?_
  refine N.obl ⟨⟨.inl rfl, .inr ⟨_, rfl, rfl⟩, .inr ⟨_, rfl, rfl⟩, trivial⟩, .inr ⟨_, rfl, rfl⟩, trivial⟩ ?_
  exact N.true
end Go.Proofs.Ytpafcfelaaibgaa
