import Derived.Test.YtimccfnlcnlffaaGreatRows
import Derived.Laws.Rows
import Derived.StillTailTactics
import Derived.Laws.CopyOwn
import Derived.Shelf.Small.Bits
import Derived.Shelf.Strconv.Itoa0
import Derived.Shelf.Bits.Mul64
import Derived.Laws.Externs
import Derived.Shelf.Spec.BitsCarry
import Derived.WalkKit
import Derived.Test.YtimccfnlcnlffaaGreatProg
import Derived.BigQuiet
import Derived.Deep.QuietTactic
import Derived.Deep.RegionHeld3
import Derived.Lib.EndianBits
import Derived.IntWalk
import Derived.Test.YtimccfnlcnlffaaGreatM3
set_option linter.unusedVariables false
set_option linter.unusedSimpArgs false
set_option maxRecDepth 100000
set_option maxHeartbeats 20000000

namespace Go.Proofs.YtimccfnlcnlffaaGreat
open Go Go.RowKit Sx
theorem cNewWin (K : Nat) (h : List (Option Chunk)) (hK : h[K]? = some none) : CallOK Tryz.prog 38 [] h (.pointer (some ⟨K, 0, some 0⟩)) [(K, winC true Win.zero)] [] := by
  refine call_sub (G := tys) [] [⟨K, 0, winC true Win.zero⟩] [] tysOK mixed Tryz.func38 (by rfl) (Tryz.call38) trivial trivial trivial ⟨⟨hK, rfl, (by show 0 < 3; decide), by simp⟩, trivial⟩ trivial ?_
  repeat' (refine N.go ?_; first | with_reducible (first | refine N.obl (by decide) ?_ | refine N.eq ?_ | refine N.obl rfl ?_ | refine N.obl ⟨by kernel_rfl, by kernel_rfl⟩ ?_ | refine N.alt ?_ | refine N.forkT ?_ | refine N.forkF ?_) | refine N.obl (.one (.ptr rfl)) ?_ | refine N.obl trivial ?_ | refine N.obl ⟨⟨Nat.le_refl _, _, rfl, id, Nat.le_refl _, wn_re⟩, trivial⟩ ?_ | exact N.true | fail)
theorem cBeginA (x : Ext) (o : Bool) (most : Int) (E : List (Int × Ent)) (D : List (Int × LifR)) (n boot : Int) (r : LifR) (hg : dGet D n = some r) (hb1 : r.boot = boot) (hl : r.left = true) (i i1 i2 : Nat) (h : List (Option Chunk)) (hi : h[i]? = some (some (mainG x o most i1 i2))) (h1 : h[i1]? = some (some (mapC entV E))) (h2 : h[i2]? = some (some (mapC lifV D))) (hii : i ≠ i1 ∧ i ≠ i2 ∧ i1 ≠ i2) :
    CallOK Tryz.prog 23 [.pointer (some ⟨i, 0, some 0⟩), .int .i64 n, .int .i64 boot] h (.tuple ⟨[.agg ⟨[.int .i64 0, .bool false, .pointer none]⟩, .int .i64 9]⟩) [(i1, mapC entV E), (i2, mapC lifV D)] [i] := by
  refine call_res (G := tys) (fun _ : Unit => True) (fun _ => _) [⟨i, _, mainN most, noC⟩, ⟨i1, mapC entV E, mapC entV E, mapC entV E⟩, ⟨i2, mapC lifV D, mapC lifV D, mapC lifV D⟩] [] [.pointer (some ⟨0, 0, some 0⟩), .int .i64 n, .int .i64 boot] tysOK mixed Tryz.func23 (by rfl) (Tryz.call23) ⟨hi, h1, h2, trivial⟩
    ⟨⟨fun h => (by cases h), Nat.le_refl _, mainG_re (by rfl) (by rfl)⟩, ⟨fun h => ⟨rfl, Nat.le_refl _⟩, Nat.le_refl _, map_re⟩, ⟨fun h => ⟨rfl, Nat.le_refl _⟩, Nat.le_refl _, map_re⟩, trivial⟩ (by simp [Apart, hii.1, hii.2.1, hii.2.2]) ⟨.inl rfl, .inr ⟨rfl, rfl⟩, .inr ⟨rfl, rfl⟩, trivial⟩ trivial ⟨.ptr rfl, .plain rfl, .plain rfl, trivial⟩ Opens.same ?_
  rintro ⟨⟩ -
  obtain ⟨rb, rl, rq⟩ := r
  have hb1 : rb = boot := hb1
  have hl : rl = true := hl
  subst hb1 hl
  repeat' (refine N.go ?_; first | with_reducible (first | refine N.obl (by decide) ?_ | refine N.eq ?_ | refine N.obl rfl ?_ | refine N.obl ⟨by kernel_rfl, by kernel_rfl⟩ ?_ | refine N.alt ?_ | refine N.forkT ?_ | refine N.forkF ?_) | refine N_look lifV D rfl Tryz.underlying59 Tryz.underlying3 Tryz.type65 rfl (.tuple ⟨[lifV ⟨rb, true, rq⟩, .bool true]⟩) (by rw [hg]; rfl) rfl ?_ | refine N.forkYes (by simp) ?_ | refine N.forkT ?_ | refine N.forkF ?_ | refine N.endSame ?_ | refine N.obl (.plain rfl) ?_ | refine N.obl ⟨map_post (by rfl), map_post (by rfl), trivial⟩ ?_ | refine N.obl trivial ?_ | refine N.obl ⟨⟨.inl rfl, .inr ⟨_, rfl, rfl⟩, .inr ⟨_, rfl, rfl⟩, trivial⟩, trivial⟩ ?_ | exact N.true | fail)
theorem cBeginB (x : Ext) (o : Bool) (most : Int) (E : List (Int × Ent)) (D : List (Int × LifR)) (n boot : Int) (r : LifR) (hg : dGet D n = some r) (hb1 : r.boot = boot) (hl : r.left = false) (i i1 i2 : Nat) (h : List (Option Chunk)) (hi : h[i]? = some (some (mainG x o most i1 i2))) (h1 : h[i1]? = some (some (mapC entV E))) (h2 : h[i2]? = some (some (mapC lifV D))) (hii : i ≠ i1 ∧ i ≠ i2 ∧ i1 ≠ i2) :
    CallOK Tryz.prog 23 [.pointer (some ⟨i, 0, some 0⟩), .int .i64 n, .int .i64 boot] h (.tuple ⟨[lifV ⟨boot, false, r.q⟩, .int .i64 0]⟩) [(i1, mapC entV E), (i2, mapC lifV D)] [i] := by
  refine call_res (G := tys) (fun _ : Unit => True) (fun _ => _) [⟨i, _, mainN most, noC⟩, ⟨i1, mapC entV E, mapC entV E, mapC entV E⟩, ⟨i2, mapC lifV D, mapC lifV D, mapC lifV D⟩] [] [.pointer (some ⟨0, 0, some 0⟩), .int .i64 n, .int .i64 boot] tysOK mixed Tryz.func23 (by rfl) (Tryz.call23) ⟨hi, h1, h2, trivial⟩
    ⟨⟨fun h => (by cases h), Nat.le_refl _, mainG_re (by rfl) (by rfl)⟩, ⟨fun h => ⟨rfl, Nat.le_refl _⟩, Nat.le_refl _, map_re⟩, ⟨fun h => ⟨rfl, Nat.le_refl _⟩, Nat.le_refl _, map_re⟩, trivial⟩ (by simp [Apart, hii.1, hii.2.1, hii.2.2]) ⟨.inl rfl, .inr ⟨rfl, rfl⟩, .inr ⟨rfl, rfl⟩, trivial⟩ trivial ⟨.ptr rfl, .plain rfl, .plain rfl, trivial⟩ Opens.same ?_
  rintro ⟨⟩ -
  obtain ⟨rb, rl, rq⟩ := r
  have hb1 : rb = boot := hb1
  have hl : rl = false := hl
  subst hb1 hl
  repeat' (refine N.go ?_; first | with_reducible (first | refine N.obl (by decide) ?_ | refine N.eq ?_ | refine N.obl rfl ?_ | refine N.obl ⟨by kernel_rfl, by kernel_rfl⟩ ?_ | refine N.alt ?_ | refine N.forkT ?_ | refine N.forkF ?_) | refine N_look lifV D rfl Tryz.underlying59 Tryz.underlying3 Tryz.type65 rfl (.tuple ⟨[lifV ⟨rb, false, rq⟩, .bool true]⟩) (by rw [hg]; rfl) rfl ?_ | refine N.forkYes (by simp) ?_ | refine N.forkT ?_ | refine N.forkF ?_ | refine N.endSame ?_ | refine N.obl (.plain rfl) ?_ | refine N.obl ⟨map_post (by rfl), map_post (by rfl), trivial⟩ ?_ | refine N.obl trivial ?_ | refine N.obl ⟨⟨.inl rfl, .inr ⟨_, rfl, rfl⟩, .inr ⟨_, rfl, rfl⟩, trivial⟩, trivial⟩ ?_ | exact N.true | fail)
theorem cBeginC (x : Ext) (o : Bool) (most : Int) (E : List (Int × Ent)) (D : List (Int × LifR)) (n boot : Int) (r : LifR) (hg : dGet D n = some r) (hb1 : r.boot ≠ boot) (hl : ¬ (0 < serD r.boot boot ∧ serD r.boot boot < 32768)) (i i1 i2 : Nat) (h : List (Option Chunk)) (hi : h[i]? = some (some (mainG x o most i1 i2))) (h1 : h[i1]? = some (some (mapC entV E))) (h2 : h[i2]? = some (some (mapC lifV D))) (hii : i ≠ i1 ∧ i ≠ i2 ∧ i1 ≠ i2) :
    CallOK Tryz.prog 23 [.pointer (some ⟨i, 0, some 0⟩), .int .i64 n, .int .i64 boot] h (.tuple ⟨[.agg ⟨[.int .i64 0, .bool false, .pointer none]⟩, .int .i64 9]⟩) [(i1, mapC entV E), (i2, mapC lifV D)] [i] := by
  refine call_res (G := tys) (fun _ : Unit => True) (fun _ => _) [⟨i, _, mainN most, noC⟩, ⟨i1, mapC entV E, mapC entV E, mapC entV E⟩, ⟨i2, mapC lifV D, mapC lifV D, mapC lifV D⟩] [] [.pointer (some ⟨0, 0, some 0⟩), .int .i64 n, .int .i64 boot] tysOK mixed Tryz.func23 (by rfl) (Tryz.call23) ⟨hi, h1, h2, trivial⟩
    ⟨⟨fun h => (by cases h), Nat.le_refl _, mainG_re (by rfl) (by rfl)⟩, ⟨fun h => ⟨rfl, Nat.le_refl _⟩, Nat.le_refl _, map_re⟩, ⟨fun h => ⟨rfl, Nat.le_refl _⟩, Nat.le_refl _, map_re⟩, trivial⟩ (by simp [Apart, hii.1, hii.2.1, hii.2.2]) ⟨.inl rfl, .inr ⟨rfl, rfl⟩, .inr ⟨rfl, rfl⟩, trivial⟩ trivial ⟨.ptr rfl, .plain rfl, .plain rfl, trivial⟩ Opens.same ?_
  rintro ⟨⟩ -
  repeat' (refine N.go ?_; first | with_reducible (first | refine N.obl (by decide) ?_ | refine N.eq ?_ | refine N.obl rfl ?_ | refine N.obl ⟨by kernel_rfl, by kernel_rfl⟩ ?_ | refine N.alt ?_ | refine N.forkT ?_ | refine N.forkF ?_) | refine N_look lifV D rfl Tryz.underlying59 Tryz.underlying3 Tryz.type65 rfl (.tuple ⟨[lifV r, .bool true]⟩) (by rw [hg]; rfl) rfl ?_ | refine N.call (cSerLess _ _ _) ?_ | refine N.forkNo (by simp only [beq_eq_false_iff_ne]; exact hb1) ?_ | refine N.forkYes (by rw [decide_eq_false hl]; rfl) ?_ | refine N.forkT ?_ | refine N.forkF ?_ | refine N.endSame ?_ | refine N.obl (.plain rfl) ?_ | refine N.obl ⟨map_post (by rfl), map_post (by rfl), trivial⟩ ?_ | refine N.obl trivial ?_ | refine N.obl ⟨⟨.inl rfl, .inr ⟨_, rfl, rfl⟩, .inr ⟨_, rfl, rfl⟩, trivial⟩, trivial⟩ ?_ | exact N.true | fail)
def begE (E : List (Int × Ent)) (n : Int) : List (Int × Ent) := match dGet E n with
  | some e => dPut E n ⟨n, e.boot, e.heard, false, 0, 0, 0, 0, 0, 0⟩
  | none => E
theorem cBeginNY (x : Ext) (o : Bool) (most : Int) (E : List (Int × Ent)) (D : List (Int × LifR)) (n boot : Int) (hn : 0 ≤ n ∧ n < 64) (hg : dGet D n = none) (e : Ent) (hE : dGet E n = some e) (i i1 i2 : Nat) (h : List (Option Chunk)) (hi : h[i]? = some (some (mainG x o most i1 i2))) (h1 : h[i1]? = some (some (mapC entV E))) (h2 : h[i2]? = some (some (mapC lifV D))) (hii : i ≠ i1 ∧ i ≠ i2 ∧ i1 ≠ i2) (K : Nat) (hK : h[K]? = some none) (hKi : K ≠ i1 ∧ K ≠ i2) :
    CallAll Tryz.prog 23 [.pointer (some ⟨i, 0, some 0⟩), .int .i64 n, .int .i64 boot] h (fun v ms => ∃ q : Nat × Nat, v = .tuple ⟨[lifV ⟨boot, false, q⟩, .int .i64 0]⟩ ∧ ms = [(i1, mapC entV (begE E n)), (i2, mapC lifV D), (K, winX (atX q) Win.zero)]) := by
  refine callAll_mono (call_resall (G := tys) (fun _ : Unit => True) (fun _ => _) (α := Nat × Nat) (fun _ => True) (fun q => .tuple ⟨[lifV ⟨boot, false, q⟩, .int .i64 0]⟩) [⟨i, _, mainN most, noC⟩, ⟨i1, mapC entV E, mapC entV E, mapC entV E⟩, ⟨i2, mapC lifV D, mapC lifV D, mapC lifV D⟩] (fun _ => [noC, mapC entV (begE E n), mapC lifV D]) (fun q => [⟨K, 6, winX (atX q) Win.zero⟩]) [.pointer (some ⟨0, 0, some 0⟩), .int .i64 n, .int .i64 boot] tysOK mixed Tryz.func23 (by rfl) (Tryz.call23) ⟨hi, h1, h2, trivial⟩
    ⟨⟨fun h => (by cases h), Nat.le_refl _, mainG_re (by rfl) (by rfl)⟩, ⟨fun h => ⟨rfl, Nat.le_refl _⟩, Nat.le_refl _, map_re⟩, ⟨fun h => ⟨rfl, Nat.le_refl _⟩, Nat.le_refl _, map_re⟩, trivial⟩ (fun _ _ => ⟨⟨fun h => (by cases h), Nat.le_refl _, mainG_re (by rfl) (by rfl)⟩, ⟨fun h => ⟨rfl, Nat.le_refl _⟩, Nat.le_refl _, map_re⟩, ⟨fun h => ⟨rfl, Nat.le_refl _⟩, Nat.le_refl _, map_re⟩, trivial⟩) (by simp [Apart, hii.1, hii.2.1, hii.2.2]) ⟨.inl rfl, .inr ⟨rfl, rfl⟩, .inr ⟨rfl, rfl⟩, trivial⟩ (fun q _ => ⟨⟨hK, rfl, .inl (by show 0 < 3; decide), by simp⟩, trivial⟩) ⟨.ptr rfl, .plain rfl, .plain rfl, trivial⟩ Opens.same ?_) ?_
  rotate_left
  · intro v ms hR
    obtain ⟨q, _, rfl, rfl⟩ := hR
    exact ⟨q, rfl, rfl⟩
  rintro ⟨⟩ -
  have hbe : begE E n = dPut E n ⟨n, e.boot, e.heard, false, 0, 0, 0, 0, 0, 0⟩ := by unfold begE; rw [hE]
  rw [hbe]
  repeat' (refine N.go ?_; first | with_reducible (first | refine N.obl (by decide) ?_ | refine N.eq ?_ | refine N.obl rfl ?_ | refine N.obl ⟨by kernel_rfl, by kernel_rfl⟩ ?_ | refine N.alt ?_ | refine N.forkT ?_ | refine N.forkF ?_) | refine N_look lifV D rfl Tryz.underlying59 Tryz.underlying3 Tryz.type65 rfl (.tuple ⟨[.agg ⟨[.int .i64 0, .bool false, .pointer none]⟩, .bool false]⟩) (by rw [hg]; rfl) rfl ?_ | refine N_look entV E rfl Tryz.underlying58 Tryz.underlying3 Tryz.type42 rfl (.tuple ⟨[entV e, .bool true]⟩) (by rw [hE]; rfl) rfl ?_ | refine N_put entV E ⟨n, e.boot, e.heard, false, 0, 0, 0, 0, 0, 0⟩ rfl rfl ⟨by omega, by omega⟩ rfl Tryz.underlying58 Tryz.underlying3 ?_ | refine N.call (cNewWin 6 _ (by rfl)) ?_ | refine N.call (cSerLess _ _ _) ?_ | refine N.forkNo (by simp only [beq_eq_false_iff_ne]; exact hb1) ?_ | refine N.forkNo (by rw [decide_eq_true hl]; rfl) ?_ | refine N.forkT ?_ | refine N.forkF ?_ | fail)
  refine N.go ?_
  refine N_endMark (k := 6) (fun q => .tuple ⟨[lifV ⟨boot, false, q⟩, .int .i64 0]⟩) (by rfl) (fun q ρ hρ => by simp [den, den2, den1, den0, denA, realP, hρ]) fun q => ?_
  refine N.endSame ?_
  refine N.some q ⟨trivial, ?_⟩
  refine N.obl (.plain rfl) ?_
  refine N.obl ⟨map_post (by rfl), map_post (by rfl), trivial⟩ ?_
  refine N.obl ⟨⟨Nat.le_of_ble_eq_true rfl, _, rfl, id, Nat.le_refl _, wx_re⟩, trivial⟩ ?_
  refine N.obl ⟨⟨.inl rfl, .inr ⟨_, rfl, rfl⟩, .inr ⟨_, rfl, rfl⟩, trivial⟩, .inr ⟨_, rfl, rfl⟩, trivial⟩ ?_
  exact N.true
theorem cBeginNN (x : Ext) (o : Bool) (most : Int) (E : List (Int × Ent)) (D : List (Int × LifR)) (n boot : Int) (hn : 0 ≤ n ∧ n < 64) (hg : dGet D n = none) (hE : dGet E n = none) (i i1 i2 : Nat) (h : List (Option Chunk)) (hi : h[i]? = some (some (mainG x o most i1 i2))) (h1 : h[i1]? = some (some (mapC entV E))) (h2 : h[i2]? = some (some (mapC lifV D))) (hii : i ≠ i1 ∧ i ≠ i2 ∧ i1 ≠ i2) (K : Nat) (hK : h[K]? = some none) (hKi : K ≠ i1 ∧ K ≠ i2) :
    CallAll Tryz.prog 23 [.pointer (some ⟨i, 0, some 0⟩), .int .i64 n, .int .i64 boot] h (fun v ms => ∃ q : Nat × Nat, v = .tuple ⟨[lifV ⟨boot, false, q⟩, .int .i64 0]⟩ ∧ ms = [(i1, mapC entV (begE E n)), (i2, mapC lifV D), (K, winX (atX q) Win.zero)]) := by
  refine callAll_mono (call_resall (G := tys) (fun _ : Unit => True) (fun _ => _) (α := Nat × Nat) (fun _ => True) (fun q => .tuple ⟨[lifV ⟨boot, false, q⟩, .int .i64 0]⟩) [⟨i, _, mainN most, noC⟩, ⟨i1, mapC entV E, mapC entV E, mapC entV E⟩, ⟨i2, mapC lifV D, mapC lifV D, mapC lifV D⟩] (fun _ => [noC, mapC entV (begE E n), mapC lifV D]) (fun q => [⟨K, 6, winX (atX q) Win.zero⟩]) [.pointer (some ⟨0, 0, some 0⟩), .int .i64 n, .int .i64 boot] tysOK mixed Tryz.func23 (by rfl) (Tryz.call23) ⟨hi, h1, h2, trivial⟩
    ⟨⟨fun h => (by cases h), Nat.le_refl _, mainG_re (by rfl) (by rfl)⟩, ⟨fun h => ⟨rfl, Nat.le_refl _⟩, Nat.le_refl _, map_re⟩, ⟨fun h => ⟨rfl, Nat.le_refl _⟩, Nat.le_refl _, map_re⟩, trivial⟩ (fun _ _ => ⟨⟨fun h => (by cases h), Nat.le_refl _, mainG_re (by rfl) (by rfl)⟩, ⟨fun h => ⟨rfl, Nat.le_refl _⟩, Nat.le_refl _, map_re⟩, ⟨fun h => ⟨rfl, Nat.le_refl _⟩, Nat.le_refl _, map_re⟩, trivial⟩) (by simp [Apart, hii.1, hii.2.1, hii.2.2]) ⟨.inl rfl, .inr ⟨rfl, rfl⟩, .inr ⟨rfl, rfl⟩, trivial⟩ (fun q _ => ⟨⟨hK, rfl, .inl (by show 0 < 3; decide), by simp⟩, trivial⟩) ⟨.ptr rfl, .plain rfl, .plain rfl, trivial⟩ Opens.same ?_) ?_
  rotate_left
  · intro v ms hR
    obtain ⟨q, _, rfl, rfl⟩ := hR
    exact ⟨q, rfl, rfl⟩
  rintro ⟨⟩ -
  have hbe : begE E n = E := by unfold begE; rw [hE]
  rw [hbe]
  repeat' (refine N.go ?_; first | with_reducible (first | refine N.obl (by decide) ?_ | refine N.eq ?_ | refine N.obl rfl ?_ | refine N.obl ⟨by kernel_rfl, by kernel_rfl⟩ ?_ | refine N.alt ?_ | refine N.forkT ?_ | refine N.forkF ?_) | refine N_look lifV D rfl Tryz.underlying59 Tryz.underlying3 Tryz.type65 rfl (.tuple ⟨[.agg ⟨[.int .i64 0, .bool false, .pointer none]⟩, .bool false]⟩) (by rw [hg]; rfl) rfl ?_ | refine N_look entV E rfl Tryz.underlying58 Tryz.underlying3 Tryz.type42 rfl (.tuple ⟨[entV Ent.zero, .bool false]⟩) (by rw [hE]; rfl) rfl ?_ | refine N_put entV E ⟨n, e.boot, e.heard, false, 0, 0, 0, 0, 0, 0⟩ rfl rfl ⟨by omega, by omega⟩ rfl Tryz.underlying58 Tryz.underlying3 ?_ | refine N.call (cNewWin 6 _ (by rfl)) ?_ | refine N.call (cSerLess _ _ _) ?_ | refine N.forkNo (by simp only [beq_eq_false_iff_ne]; exact hb1) ?_ | refine N.forkNo (by rw [decide_eq_true hl]; rfl) ?_ | refine N.forkT ?_ | refine N.forkF ?_ | fail)
  refine N.go ?_
  refine N_endMark (k := 6) (fun q => .tuple ⟨[lifV ⟨boot, false, q⟩, .int .i64 0]⟩) (by rfl) (fun q ρ hρ => by simp [den, den2, den1, den0, denA, realP, hρ]) fun q => ?_
  refine N.endSame ?_
  refine N.some q ⟨trivial, ?_⟩
  refine N.obl (.plain rfl) ?_
  refine N.obl ⟨map_post (by rfl), map_post (by rfl), trivial⟩ ?_
  refine N.obl ⟨⟨Nat.le_of_ble_eq_true rfl, _, rfl, id, Nat.le_refl _, wx_re⟩, trivial⟩ ?_
  refine N.obl ⟨⟨.inl rfl, .inr ⟨_, rfl, rfl⟩, .inr ⟨_, rfl, rfl⟩, trivial⟩, .inr ⟨_, rfl, rfl⟩, trivial⟩ ?_
  exact N.true
theorem cBeginOY (x : Ext) (o : Bool) (most : Int) (E : List (Int × Ent)) (D : List (Int × LifR)) (n boot : Int) (hn : 0 ≤ n ∧ n < 64) (r : LifR) (hg : dGet D n = some r) (hb1 : r.boot ≠ boot) (hl : 0 < serD r.boot boot ∧ serD r.boot boot < 32768) (e : Ent) (hE : dGet E n = some e) (i i1 i2 : Nat) (h : List (Option Chunk)) (hi : h[i]? = some (some (mainG x o most i1 i2))) (h1 : h[i1]? = some (some (mapC entV E))) (h2 : h[i2]? = some (some (mapC lifV D))) (hii : i ≠ i1 ∧ i ≠ i2 ∧ i1 ≠ i2) (K : Nat) (hK : h[K]? = some none) (hKi : K ≠ i1 ∧ K ≠ i2) :
    CallAll Tryz.prog 23 [.pointer (some ⟨i, 0, some 0⟩), .int .i64 n, .int .i64 boot] h (fun v ms => ∃ q : Nat × Nat, v = .tuple ⟨[lifV ⟨boot, false, q⟩, .int .i64 0]⟩ ∧ ms = [(i1, mapC entV (begE E n)), (i2, mapC lifV D), (K, winX (atX q) Win.zero)]) := by
  refine callAll_mono (call_resall (G := tys) (fun _ : Unit => True) (fun _ => _) (α := Nat × Nat) (fun _ => True) (fun q => .tuple ⟨[lifV ⟨boot, false, q⟩, .int .i64 0]⟩) [⟨i, _, mainN most, noC⟩, ⟨i1, mapC entV E, mapC entV E, mapC entV E⟩, ⟨i2, mapC lifV D, mapC lifV D, mapC lifV D⟩] (fun _ => [noC, mapC entV (begE E n), mapC lifV D]) (fun q => [⟨K, 6, winX (atX q) Win.zero⟩]) [.pointer (some ⟨0, 0, some 0⟩), .int .i64 n, .int .i64 boot] tysOK mixed Tryz.func23 (by rfl) (Tryz.call23) ⟨hi, h1, h2, trivial⟩
    ⟨⟨fun h => (by cases h), Nat.le_refl _, mainG_re (by rfl) (by rfl)⟩, ⟨fun h => ⟨rfl, Nat.le_refl _⟩, Nat.le_refl _, map_re⟩, ⟨fun h => ⟨rfl, Nat.le_refl _⟩, Nat.le_refl _, map_re⟩, trivial⟩ (fun _ _ => ⟨⟨fun h => (by cases h), Nat.le_refl _, mainG_re (by rfl) (by rfl)⟩, ⟨fun h => ⟨rfl, Nat.le_refl _⟩, Nat.le_refl _, map_re⟩, ⟨fun h => ⟨rfl, Nat.le_refl _⟩, Nat.le_refl _, map_re⟩, trivial⟩) (by simp [Apart, hii.1, hii.2.1, hii.2.2]) ⟨.inl rfl, .inr ⟨rfl, rfl⟩, .inr ⟨rfl, rfl⟩, trivial⟩ (fun q _ => ⟨⟨hK, rfl, .inl (by show 0 < 3; decide), by simp⟩, trivial⟩) ⟨.ptr rfl, .plain rfl, .plain rfl, trivial⟩ Opens.same ?_) ?_
  rotate_left
  · intro v ms hR
    obtain ⟨q, _, rfl, rfl⟩ := hR
    exact ⟨q, rfl, rfl⟩
  rintro ⟨⟩ -
  have hbe : begE E n = dPut E n ⟨n, e.boot, e.heard, false, 0, 0, 0, 0, 0, 0⟩ := by unfold begE; rw [hE]
  rw [hbe]
  repeat' (refine N.go ?_; first | with_reducible (first | refine N.obl (by decide) ?_ | refine N.eq ?_ | refine N.obl rfl ?_ | refine N.obl ⟨by kernel_rfl, by kernel_rfl⟩ ?_ | refine N.alt ?_ | refine N.forkT ?_ | refine N.forkF ?_) | refine N_look lifV D rfl Tryz.underlying59 Tryz.underlying3 Tryz.type65 rfl (.tuple ⟨[lifV r, .bool true]⟩) (by rw [hg]; rfl) rfl ?_ | refine N_look entV E rfl Tryz.underlying58 Tryz.underlying3 Tryz.type42 rfl (.tuple ⟨[entV e, .bool true]⟩) (by rw [hE]; rfl) rfl ?_ | refine N_put entV E ⟨n, e.boot, e.heard, false, 0, 0, 0, 0, 0, 0⟩ rfl rfl ⟨by omega, by omega⟩ rfl Tryz.underlying58 Tryz.underlying3 ?_ | refine N.call (cNewWin 6 _ (by rfl)) ?_ | refine N.call (cSerLess _ _ _) ?_ | refine N.forkNo (by simp only [beq_eq_false_iff_ne]; exact hb1) ?_ | refine N.forkNo (by rw [decide_eq_true hl]; rfl) ?_ | refine N.forkT ?_ | refine N.forkF ?_ | fail)
  refine N.go ?_
  refine N_endMark (k := 6) (fun q => .tuple ⟨[lifV ⟨boot, false, q⟩, .int .i64 0]⟩) (by rfl) (fun q ρ hρ => by simp [den, den2, den1, den0, denA, realP, hρ]) fun q => ?_
  refine N.endSame ?_
  refine N.some q ⟨trivial, ?_⟩
  refine N.obl (.plain rfl) ?_
  refine N.obl ⟨map_post (by rfl), map_post (by rfl), trivial⟩ ?_
  refine N.obl ⟨⟨Nat.le_of_ble_eq_true rfl, _, rfl, id, Nat.le_refl _, wx_re⟩, trivial⟩ ?_
  refine N.obl ⟨⟨.inl rfl, .inr ⟨_, rfl, rfl⟩, .inr ⟨_, rfl, rfl⟩, trivial⟩, .inr ⟨_, rfl, rfl⟩, trivial⟩ ?_
  exact N.true
theorem cBeginON (x : Ext) (o : Bool) (most : Int) (E : List (Int × Ent)) (D : List (Int × LifR)) (n boot : Int) (hn : 0 ≤ n ∧ n < 64) (r : LifR) (hg : dGet D n = some r) (hb1 : r.boot ≠ boot) (hl : 0 < serD r.boot boot ∧ serD r.boot boot < 32768) (hE : dGet E n = none) (i i1 i2 : Nat) (h : List (Option Chunk)) (hi : h[i]? = some (some (mainG x o most i1 i2))) (h1 : h[i1]? = some (some (mapC entV E))) (h2 : h[i2]? = some (some (mapC lifV D))) (hii : i ≠ i1 ∧ i ≠ i2 ∧ i1 ≠ i2) (K : Nat) (hK : h[K]? = some none) (hKi : K ≠ i1 ∧ K ≠ i2) :
    CallAll Tryz.prog 23 [.pointer (some ⟨i, 0, some 0⟩), .int .i64 n, .int .i64 boot] h (fun v ms => ∃ q : Nat × Nat, v = .tuple ⟨[lifV ⟨boot, false, q⟩, .int .i64 0]⟩ ∧ ms = [(i1, mapC entV (begE E n)), (i2, mapC lifV D), (K, winX (atX q) Win.zero)]) := by
  refine callAll_mono (call_resall (G := tys) (fun _ : Unit => True) (fun _ => _) (α := Nat × Nat) (fun _ => True) (fun q => .tuple ⟨[lifV ⟨boot, false, q⟩, .int .i64 0]⟩) [⟨i, _, mainN most, noC⟩, ⟨i1, mapC entV E, mapC entV E, mapC entV E⟩, ⟨i2, mapC lifV D, mapC lifV D, mapC lifV D⟩] (fun _ => [noC, mapC entV (begE E n), mapC lifV D]) (fun q => [⟨K, 6, winX (atX q) Win.zero⟩]) [.pointer (some ⟨0, 0, some 0⟩), .int .i64 n, .int .i64 boot] tysOK mixed Tryz.func23 (by rfl) (Tryz.call23) ⟨hi, h1, h2, trivial⟩
    ⟨⟨fun h => (by cases h), Nat.le_refl _, mainG_re (by rfl) (by rfl)⟩, ⟨fun h => ⟨rfl, Nat.le_refl _⟩, Nat.le_refl _, map_re⟩, ⟨fun h => ⟨rfl, Nat.le_refl _⟩, Nat.le_refl _, map_re⟩, trivial⟩ (fun _ _ => ⟨⟨fun h => (by cases h), Nat.le_refl _, mainG_re (by rfl) (by rfl)⟩, ⟨fun h => ⟨rfl, Nat.le_refl _⟩, Nat.le_refl _, map_re⟩, ⟨fun h => ⟨rfl, Nat.le_refl _⟩, Nat.le_refl _, map_re⟩, trivial⟩) (by simp [Apart, hii.1, hii.2.1, hii.2.2]) ⟨.inl rfl, .inr ⟨rfl, rfl⟩, .inr ⟨rfl, rfl⟩, trivial⟩ (fun q _ => ⟨⟨hK, rfl, .inl (by show 0 < 3; decide), by simp⟩, trivial⟩) ⟨.ptr rfl, .plain rfl, .plain rfl, trivial⟩ Opens.same ?_) ?_
  rotate_left
  · intro v ms hR
    obtain ⟨q, _, rfl, rfl⟩ := hR
    exact ⟨q, rfl, rfl⟩
  rintro ⟨⟩ -
  have hbe : begE E n = E := by unfold begE; rw [hE]
  rw [hbe]
  repeat' (refine N.go ?_; first | with_reducible (first | refine N.obl (by decide) ?_ | refine N.eq ?_ | refine N.obl rfl ?_ | refine N.obl ⟨by kernel_rfl, by kernel_rfl⟩ ?_ | refine N.alt ?_ | refine N.forkT ?_ | refine N.forkF ?_) | refine N_look lifV D rfl Tryz.underlying59 Tryz.underlying3 Tryz.type65 rfl (.tuple ⟨[lifV r, .bool true]⟩) (by rw [hg]; rfl) rfl ?_ | refine N_look entV E rfl Tryz.underlying58 Tryz.underlying3 Tryz.type42 rfl (.tuple ⟨[entV Ent.zero, .bool false]⟩) (by rw [hE]; rfl) rfl ?_ | refine N_put entV E ⟨n, e.boot, e.heard, false, 0, 0, 0, 0, 0, 0⟩ rfl rfl ⟨by omega, by omega⟩ rfl Tryz.underlying58 Tryz.underlying3 ?_ | refine N.call (cNewWin 6 _ (by rfl)) ?_ | refine N.call (cSerLess _ _ _) ?_ | refine N.forkNo (by simp only [beq_eq_false_iff_ne]; exact hb1) ?_ | refine N.forkNo (by rw [decide_eq_true hl]; rfl) ?_ | refine N.forkT ?_ | refine N.forkF ?_ | fail)
  refine N.go ?_
  refine N_endMark (k := 6) (fun q => .tuple ⟨[lifV ⟨boot, false, q⟩, .int .i64 0]⟩) (by rfl) (fun q ρ hρ => by simp [den, den2, den1, den0, denA, realP, hρ]) fun q => ?_
  refine N.endSame ?_
  refine N.some q ⟨trivial, ?_⟩
  refine N.obl (.plain rfl) ?_
  refine N.obl ⟨map_post (by rfl), map_post (by rfl), trivial⟩ ?_
  refine N.obl ⟨⟨Nat.le_of_ble_eq_true rfl, _, rfl, id, Nat.le_refl _, wx_re⟩, trivial⟩ ?_
  refine N.obl ⟨⟨.inl rfl, .inr ⟨_, rfl, rfl⟩, .inr ⟨_, rfl, rfl⟩, trivial⟩, .inr ⟨_, rfl, rfl⟩, trivial⟩ ?_
  exact N.true
end Go.Proofs.YtimccfnlcnlffaaGreat


namespace Go.Proofs.YtimccfnlcnlffaaGreat
open Go Go.RowKit Sx
theorem win_f {x : Ext} {W : Win} : ∀ j, j < 3 → (winX x W).f j = winF W j := fun j hj => by
  match j, hj with
  | 0, _ => rfl
  | 1, _ => rfl
  | 2, _ => rfl
theorem win_plain (W : Win) : ∀ j, j < 3 → plain1 (winF W j) = true := fun j hj => by
  match j, hj with
  | 0, _ => rfl
  | 1, _ => rfl
  | 2, _ => rfl
theorem tblOpenW {i : Nat} {c d : Chunk} (T : Tbl) (n : Int) (l : Life) (hl : T.lives n = some l) : Opens [⟨i, c, tblC T, d⟩] (fun κ : LB × (Nat × Nat) => dGet κ.1.D n = some ⟨l.boot, l.left, κ.2⟩ ∧ livesOK T.lives ⟨κ.1.D, (κ.2, l.W) :: κ.1.F⟩)
    (fun κ => [some (mainC κ.1.F T.most), some (mapC entV T.E), some (mapC lifV κ.1.D), some (winX (atX κ.2) l.W)]) := fun X ρ w Ti H => by
  obtain ⟨β, hβ, ρ1, hag, hfil, H1⟩ := pack_opens (h := tblH T) X ρ w Ti H
  obtain ⟨q, hg, hW⟩ := livesOK_some hβ hl
  obtain ⟨s, t, hF⟩ := List.append_of_mem hW
  have hp : β.F.Perm ((q, l.W) :: (s ++ t)) := by rw [hF]; exact List.perm_middle
  have hsame : SameH (tblH T β) [some (mainC β.F T.most), some (mapC entV T.E), some (mapC lifV β.D), none] := fun k e => by
    match k with
    | 0 => exact Iff.rfl
    | 1 => exact Iff.rfl
    | 2 => exact Iff.rfl
    | 3 => simp
    | k + 4 => simp
  have H2 := H1.same hsame
  obtain ⟨ρ2, hag2, H3⟩ := H2.famOut (o := true) (i := 0) (k := 3) (e := winX (atX q) l.W) (by decide) rfl rfl (Ti.mayX H2 (k := 0) rfl (tblC_ne T) packX_selfish) hp rfl rfl win_f (win_plain l.W)
  refine ⟨(⟨β.D, s ++ t⟩, q), ⟨hg, ?_⟩, ρ2, fun k hk => ?_, fun k hk => ?_, H3⟩
  · refine ⟨hβ.1, fun m r hr => ?_, hβ.2.2⟩
    obtain ⟨W, h1, h2⟩ := hβ.2.1 m r hr
    exact ⟨W, hp.mem_iff.1 h1, h2⟩
  · have hf := hfil k hk
    rw [hag2 k ((hsame.fil k).2 hf)]; exact hag k hk
  · obtain ⟨e, he⟩ := hk
    have : k = 0 := by
      cases k with
      | zero => rfl
      | succ k => simp [partH] at he
    subst this
    exact ⟨_, rfl⟩
def heardE (most : Int) (E : List (Int × Ent)) (n boot now : Int) : List (Int × Ent) :=
  dPut (if dGet E n = none ∧ most ≤ E.length then dDel E (minT (entT E) E.length).node else E) n { (dGet E n).getD Ent.zero with node := n, boot := boot, heard := now }
def argsOK (n boot seq now : Int) : Prop := (0 ≤ n ∧ n < 64) ∧ serOK boot ∧ serOK seq ∧ (0 ≤ now ∧ now ≤ 1000000)
theorem cHearArg (T : Tbl) (n boot seq now : Int) (ha : ¬ argsOK n boot seq now) (i : Nat) (h : List (Option Chunk)) (hi : h[i]? = some (some (tblC T))) :
    CallOK Tryz.prog 6 [.pointer (some ⟨i, 0, some 0⟩), .int .i64 n, .int .i64 boot, .int .i64 seq, .int .i64 now] h (.int .i64 1) [(i, tblC (T))] [] := by
  refine call_res (G := tys) (livesOK T.lives) (tblH T) [⟨i, tblC T, tblC T, tblC (T)⟩] [] [.pointer (some ⟨0, 0, some 0⟩), .int .i64 n, .int .i64 boot, .int .i64 seq, .int .i64 now] tysOK mixed Tryz.func6 (by rfl) (Tryz.call6) ⟨hi, trivial⟩ ⟨⟨fun h => ⟨rfl, Nat.le_refl _⟩, Nat.le_refl _, fun j hj => absurd hj (Nat.not_lt_zero j)⟩, trivial⟩ (by simp [Apart]) ⟨.inr ⟨rfl, rfl⟩, trivial⟩ trivial ⟨.ptr rfl, .plain rfl, .plain rfl, .plain rfl, .plain rfl, trivial⟩ pack_opens ?_
  intro β hβ
  repeat' (refine N.go ?_; first | with_reducible (first | refine N.obl (by decide) ?_ | refine N.eq ?_ | refine N.obl rfl ?_ | refine N.obl ⟨by kernel_rfl, by kernel_rfl⟩ ?_ | refine N.alt ?_ | refine N.forkT ?_ | refine N.forkF ?_) | refine N.call (cTnode _ _) ?_ | refine N.call (cSerMay _ _) ?_ | refine N.call (cTtime _ _) ?_ | with_reducible refine N.fork (fun hb => ?_) (fun hb => ?_) | refine tblClose (T) β 0 1 2 [] tbl_piece (fun i hi => .inl (by simpa using hi)) hβ (by rfl) (by rfl) (by rfl) (by rfl) (by rfl) (by rfl) (by rfl) (by rfl) (by rfl) (by decide) (fun k hk => by cases hk) safe0 (plain_sc rfl) ?_ | refine N.obl (.plain rfl) ?_ | refine N.obl ⟨⟨_, rfl, id, Nat.le_refl _, fun j hj => absurd hj (Nat.not_lt_zero j)⟩, trivial⟩ ?_ | refine N.obl trivial ?_ | refine N.obl ⟨⟨.inr ⟨_, rfl, rfl⟩, trivial⟩, trivial⟩ ?_ | exact N.true | fail)
  all_goals
    exfalso
    simp only [Bool.not_eq_eq_eq_not, Bool.not_true, Bool.not_false, decide_eq_true_eq, decide_eq_false_iff_not, argsOK, serOK] at *
    omega
theorem cHearA (T : Tbl) (n boot seq now : Int) (ha : argsOK n boot seq now) (l : Life) (hl : T.lives n = some l) (hb1 : l.boot = boot) (hlf : l.left = true) (i : Nat) (h : List (Option Chunk)) (hi : h[i]? = some (some (tblC T))) :
    CallOK Tryz.prog 6 [.pointer (some ⟨i, 0, some 0⟩), .int .i64 n, .int .i64 boot, .int .i64 seq, .int .i64 now] h (.int .i64 9) [(i, tblC (T))] [] := by
  refine call_res (G := tys) (livesOK T.lives) (tblH T) [⟨i, tblC T, tblC T, tblC (T)⟩] [] [.pointer (some ⟨0, 0, some 0⟩), .int .i64 n, .int .i64 boot, .int .i64 seq, .int .i64 now] tysOK mixed Tryz.func6 (by rfl) (Tryz.call6) ⟨hi, trivial⟩ ⟨⟨fun h => ⟨rfl, Nat.le_refl _⟩, Nat.le_refl _, fun j hj => absurd hj (Nat.not_lt_zero j)⟩, trivial⟩ (by simp [Apart]) ⟨.inr ⟨rfl, rfl⟩, trivial⟩ trivial ⟨.ptr rfl, .plain rfl, .plain rfl, .plain rfl, .plain rfl, trivial⟩ pack_opens ?_
  intro β hβ
  obtain ⟨q, hg, hW⟩ := livesOK_some hβ hl
  repeat' (refine N.go ?_; first | with_reducible (first | refine N.obl (by decide) ?_ | refine N.eq ?_ | refine N.obl rfl ?_ | refine N.obl ⟨by kernel_rfl, by kernel_rfl⟩ ?_ | refine N.alt ?_ | refine N.forkT ?_ | refine N.forkF ?_) | refine N.call (cTnode _ _) ?_ | refine N.call (cSerMay _ _) ?_ | refine N.call (cTtime _ _) ?_ | refine N.forkNo (by rw [decide_eq_true ha.1]; rfl) ?_ | refine N.forkNo (by rw [decide_eq_true ha.2.1]; rfl) ?_ | refine N.forkNo (by rw [decide_eq_true ha.2.2.1]; rfl) ?_ | refine N.forkNo (by rw [decide_eq_true ha.2.2.2]; rfl) ?_ | refine N.call (cBeginA _ _ _ _ _ _ _ ⟨l.boot, l.left, q⟩ hg hb1 hlf 0 1 2 _ (by rfl) (by rfl) (by rfl) (by decide)) ?_ | refine N.forkT ?_ | refine N.forkF ?_ | refine N.forkYes (by decide) ?_ | refine N.forkNo (by decide) ?_ | refine tblClose (T) β 0 1 2 [] tbl_piece (fun i hi => .inl (by simpa using hi)) hβ (by rfl) (by rfl) (by rfl) (by rfl) (by rfl) (by rfl) (by rfl) (by rfl) (by rfl) (by decide) (fun k hk => by cases hk) safe0 (plain_sc rfl) ?_ | refine N.obl (.plain rfl) ?_ | refine N.obl ⟨⟨_, rfl, id, Nat.le_refl _, fun j hj => absurd hj (Nat.not_lt_zero j)⟩, trivial⟩ ?_ | refine N.obl trivial ?_ | refine N.obl ⟨⟨.inr ⟨_, rfl, rfl⟩, trivial⟩, trivial⟩ ?_ | exact N.true | fail)
theorem cHearC (T : Tbl) (n boot seq now : Int) (ha : argsOK n boot seq now) (l : Life) (hl : T.lives n = some l) (hb1 : l.boot ≠ boot) (hlf : ¬ (0 < serD l.boot boot ∧ serD l.boot boot < 32768)) (i : Nat) (h : List (Option Chunk)) (hi : h[i]? = some (some (tblC T))) :
    CallOK Tryz.prog 6 [.pointer (some ⟨i, 0, some 0⟩), .int .i64 n, .int .i64 boot, .int .i64 seq, .int .i64 now] h (.int .i64 9) [(i, tblC (T))] [] := by
  refine call_res (G := tys) (livesOK T.lives) (tblH T) [⟨i, tblC T, tblC T, tblC (T)⟩] [] [.pointer (some ⟨0, 0, some 0⟩), .int .i64 n, .int .i64 boot, .int .i64 seq, .int .i64 now] tysOK mixed Tryz.func6 (by rfl) (Tryz.call6) ⟨hi, trivial⟩ ⟨⟨fun h => ⟨rfl, Nat.le_refl _⟩, Nat.le_refl _, fun j hj => absurd hj (Nat.not_lt_zero j)⟩, trivial⟩ (by simp [Apart]) ⟨.inr ⟨rfl, rfl⟩, trivial⟩ trivial ⟨.ptr rfl, .plain rfl, .plain rfl, .plain rfl, .plain rfl, trivial⟩ pack_opens ?_
  intro β hβ
  obtain ⟨q, hg, hW⟩ := livesOK_some hβ hl
  repeat' (refine N.go ?_; first | with_reducible (first | refine N.obl (by decide) ?_ | refine N.eq ?_ | refine N.obl rfl ?_ | refine N.obl ⟨by kernel_rfl, by kernel_rfl⟩ ?_ | refine N.alt ?_ | refine N.forkT ?_ | refine N.forkF ?_) | refine N.call (cTnode _ _) ?_ | refine N.call (cSerMay _ _) ?_ | refine N.call (cTtime _ _) ?_ | refine N.forkNo (by rw [decide_eq_true ha.1]; rfl) ?_ | refine N.forkNo (by rw [decide_eq_true ha.2.1]; rfl) ?_ | refine N.forkNo (by rw [decide_eq_true ha.2.2.1]; rfl) ?_ | refine N.forkNo (by rw [decide_eq_true ha.2.2.2]; rfl) ?_ | refine N.call (cBeginC _ _ _ _ _ _ _ ⟨l.boot, l.left, q⟩ hg hb1 hlf 0 1 2 _ (by rfl) (by rfl) (by rfl) (by decide)) ?_ | refine N.forkT ?_ | refine N.forkF ?_ | refine N.forkYes (by decide) ?_ | refine N.forkNo (by decide) ?_ | refine tblClose (T) β 0 1 2 [] tbl_piece (fun i hi => .inl (by simpa using hi)) hβ (by rfl) (by rfl) (by rfl) (by rfl) (by rfl) (by rfl) (by rfl) (by rfl) (by rfl) (by decide) (fun k hk => by cases hk) safe0 (plain_sc rfl) ?_ | refine N.obl (.plain rfl) ?_ | refine N.obl ⟨⟨_, rfl, id, Nat.le_refl _, fun j hj => absurd hj (Nat.not_lt_zero j)⟩, trivial⟩ ?_ | refine N.obl trivial ?_ | refine N.obl ⟨⟨.inr ⟨_, rfl, rfl⟩, trivial⟩, trivial⟩ ?_ | exact N.true | fail)
theorem HOK.sub {X : Ctx} {ρ : Nat → Nat × Nat} {h h' : List (Option Chunk)} {w : World} (H : HOK X ρ h w) (hb : ∀ i, i < X.n0 → Fil h' i) (hs : ∀ (i : Nat) (c : Chunk), h'[i]? = some (some c) → h[i]? = some (some c) ∧ ∀ j, j < c.n → Safe1 h' (c.f j)) : HOK X ρ h' w := by
  refine ⟨H.evo, fun i hi => ⟨hb i hi, (H.base i hi).2⟩, fun i c hi => H.lt i c (hs i c hi).1, fun i c hi j hj => ?_, fun i c hi => H.own i c (hs i c hi).1, fun i c j d hi ho hj => H.sep i c j d (hs i c hi).1 ho (hs j d hj).1, ?_⟩
  · obtain ⟨x, hx, hd⟩ := H.cell i c (hs i c hi).1 j hj
    exact ⟨x, hx, fun r hr => ((hs i c hi).2 j hj).inScope ρ r hr |>.trans hd.self⟩
  · obtain ⟨S, E⟩ := H.ext
    exact E.less fun i c hi => ⟨rfl, c, (hs i c hi).1, Nat.le_refl _, .inr rfl⟩
theorem N_endTake {ss : List Piece} {h : List (Option Chunk)} {v : Value} {K : Value → List (Option Chunk) → Prop} (m : Nat) (hm : ss.length ≤ m) (hv : plain3 v = true) (hs : ∀ (i : Nat) (c : Chunk), (h.take m)[i]? = some (some c) → ∀ j, j < c.n → Safe1 (h.take m) (c.f j)) (kk : N (EndN ss (h.take m) v K)) : N (EndN ss h v K) :=
  N.mk fun X ρ w x T H hd => by
    have get : ∀ (i : Nat) (c : Chunk), (h.take m)[i]? = some (some c) → h[i]? = some (some c) := fun i c hi => by
      rw [List.getElem?_take] at hi
      split at hi
      · exact hi
      · cases hi
    refine N.out kk X ρ w x T (HOK.sub H (fun i hi => ?_) fun i c hi => ⟨get i c hi, hs i c hi⟩) (fun r _ => by rw [den_plain3 hv, ← hd.self, den_plain3 hv])
    obtain ⟨c, hc⟩ := (H.base i hi).1
    exact ⟨c, by rw [List.getElem?_take, if_pos (by have := T.n0; omega)]; exact hc⟩
theorem safe4 {F : List ((Nat × Nat) × Win)} {most : Int} {E : List (Int × Ent)} {D : List (Int × LifR)} {q : Nat × Nat} {W : Win} : ∀ (i : Nat) (c : Chunk), ([some (mainC F most), some (mapC entV E), some (mapC lifV D), some (winX (atX q) W)] : List (Option Chunk))[i]? = some (some c) → ∀ j, j < c.n → Safe1 [some (mainC F most), some (mapC entV E), some (mapC lifV D), some (winX (atX q) W)] (c.f j) := fun i c hi j hj => by
  match i, hi with
  | 0, hi =>
    obtain rfl : _ = c := by simpa using hi
    match j, hj with
    | 0, _ => exact True.intro
    | 1, _ => exact rfl
    | 2, _ => exact rfl
  | 1, hi => obtain rfl : _ = c := by simpa using hi
             exact absurd hj (Nat.not_lt_zero j)
  | 2, hi => obtain rfl : _ = c := by simpa using hi
             exact absurd hj (Nat.not_lt_zero j)
  | 3, hi =>
    obtain rfl : _ = c := by simpa using hi
    match j, hj with
    | 0, _ => exact True.intro
    | 1, _ => exact True.intro
    | 2, _ => exact True.intro
  | k + 4, hi => simp at hi
theorem livesOK_win {lv : Int → Option Life} {D : List (Int × LifR)} {F : List ((Nat × Nat) × Win)} {n b : Int} {lf : Bool} {q : Nat × Nat} {W : Win} (h : livesOK lv ⟨D, (q, W) :: F⟩) (hg : dGet D n = some ⟨b, lf, q⟩) (hq : ∀ x ∈ F, x.1 ≠ q) (W' : Win) : livesOK (setL lv n ⟨b, lf, W'⟩) ⟨dPut D n ⟨b, lf, q⟩, (q, W') :: F⟩ := by
  obtain ⟨h1, h2, h3⟩ := h
  have key : ∀ m s, dGet (dPut D n ⟨b, lf, q⟩) m = some s → dGet D m = some s := fun m s hs => by
    by_cases e : m = n
    · subst e; rw [dGet_put_same] at hs; rw [hg, ← hs]
    · rw [dGet_put_ne _ _ e] at hs; exact hs
  refine ⟨fun m hm => ?_, fun m s hs => ?_, fun m m' s s' hs hs' e => h3 m m' s s' (key m s hs) (key m' s' hs') e⟩
  · by_cases e : m = n
    · subst e; rw [dGet_put_same] at hm; cases hm
    · rw [dGet_put_ne _ _ e] at hm
      unfold setL; rw [if_neg e]; exact h1 m hm
  · have hs2 := key m s hs
    by_cases e : m = n
    · subst e
      rw [hg] at hs2
      obtain rfl : _ = s := by simpa using hs2
      exact ⟨W', by simp, by unfold setL; rw [if_pos rfl]⟩
    · obtain ⟨W2, hW2, hl2⟩ := h2 m s hs2
      refine ⟨W2, ?_, by unfold setL; rw [if_neg e]; exact hl2⟩
      rcases List.mem_cons.1 hW2 with e2 | hW2
      · exact absurd (h3 m n s ⟨b, lf, q⟩ hs2 hg (Prod.mk.inj e2).1) e
      · exact List.mem_cons_of_mem _ hW2
theorem sc4 {F : List ((Nat × Nat) × Win)} {most : Int} {E : List (Int × Ent)} {D : List (Int × LifR)} {q : Nat × Nat} {W : Win} : ∀ (l : Nat) (d : Chunk), l ≠ 3 → ([some (mainC F most), some (mapC entV E), some (mapC lifV D), some (winX (atX q) W)] : List (Option Chunk))[l]? = some (some d) → ∀ j, j < d.n → ∀ ρ ρ' : Nat → Nat × Nat, (∀ l, l ≠ 3 → ρ' l = ρ l) → den1 ρ' (d.f j) = den1 ρ (d.f j) := fun l d hl hd j hj ρ ρ' ha => by
  match l, hd with
  | 0, hd =>
    obtain rfl : _ = d := by simpa using hd
    match j, hj with
    | 0, _ => rfl
    | 1, _ => have := ha 1 (by decide); show den1 ρ' (.map (some 1)) = den1 ρ (.map (some 1)); simp [den1, den0, this]
    | 2, _ => have := ha 2 (by decide); show den1 ρ' (.map (some 2)) = den1 ρ (.map (some 2)); simp [den1, den0, this]
  | 1, hd => obtain rfl : _ = d := by simpa using hd
             exact absurd hj (Nat.not_lt_zero j)
  | 2, hd => obtain rfl : _ = d := by simpa using hd
             exact absurd hj (Nat.not_lt_zero j)
  | 3, _ => exact absurd rfl hl
  | k + 4, hd => simp at hd
theorem hearClose {i : Nat} {c d : Chunk} {T : Tbl} {h : List (Option Chunk)} {v : Value} {K : Value → List (Option Chunk) → Prop} (T2 : Tbl) (D : List (Int × LifR)) (F : List ((Nat × Nat) × Win)) (q : Nat × Nat) (W : Win) (hv : plain3 v = true) (ht : h.take 4 = [some (mainC F T2.most), some (mapC entV T2.E), some (mapC lifV D), some (winX (atX q) W)]) (hok : (∀ x ∈ F, x.1 ≠ q) → livesOK T2.lives ⟨D, (q, W) :: F⟩)
    (kk : K v (closeH (tblC T2) 0 [] [some (mainC ((q, W) :: F) T2.most), some (mapC entV T2.E), some (mapC lifV D), none] 0)) : N (EndN [⟨i, c, tblC T, d⟩] h v K) := by
  refine N_endTake 4 (Nat.le_of_ble_eq_true rfl) hv ?_ ?_
  · rw [ht]; exact safe4
  rw [ht]
  refine N_endFamIn (i := 0) (k := 3) (q := q) W (by decide) (by decide) rfl rfl (by decide) (Nat.le_of_ble_eq_true rfl) (fun _ => ⟨_, rfl, tblC_ne T, packX_selfish⟩) rfl rfl (Nat.le_refl _) win_f (win_plain W) sc4 hv fun hq => ?_
  refine tblClose T2 ⟨D, (q, W) :: F⟩ 0 1 2 [] (fun l _ hl => by
    obtain rfl : l = 0 := by simpa using hl
    exact ⟨_, rfl, tblC_ne T, packX_selfish⟩) (fun i hi => .inl (by simpa using hi)) (hok hq) rfl rfl rfl rfl rfl rfl rfl rfl rfl (by decide) (fun k hk => by cases hk) safe0 (plain_sc hv) kk
theorem cHearDup (T : Tbl) (n boot seq now : Int) (ha : argsOK n boot seq now) (l : Life) (hl : T.lives n = some l) (hb1 : l.boot = boot) (hlf : l.left = false) (hs : l.W.seen < 18446744073709551616) (W' : Win) (hw : whear l.W seq = (9, W')) (i : Nat) (h : List (Option Chunk)) (hi : h[i]? = some (some (tblC T))) :
    CallOK Tryz.prog 6 [.pointer (some ⟨i, 0, some 0⟩), .int .i64 n, .int .i64 boot, .int .i64 seq, .int .i64 now] h (.int .i64 9) [(i, tblC (⟨T.most, T.E, setL T.lives n ⟨boot, false, W'⟩⟩))] [] := by
  refine call_res (G := tys) (fun κ : LB × (Nat × Nat) => dGet κ.1.D n = some ⟨l.boot, l.left, κ.2⟩ ∧ livesOK T.lives ⟨κ.1.D, (κ.2, l.W) :: κ.1.F⟩) (fun κ => [some (mainC κ.1.F T.most), some (mapC entV T.E), some (mapC lifV κ.1.D), some (winX (atX κ.2) l.W)]) [⟨i, tblC T, tblC T, tblC (⟨T.most, T.E, setL T.lives n ⟨boot, false, W'⟩⟩)⟩] [] [.pointer (some ⟨0, 0, some 0⟩), .int .i64 n, .int .i64 boot, .int .i64 seq, .int .i64 now] tysOK mixed Tryz.func6 (by rfl) (Tryz.call6) ⟨hi, trivial⟩ ⟨⟨fun h => ⟨rfl, Nat.le_refl _⟩, Nat.le_refl _, fun j hj => absurd hj (Nat.not_lt_zero j)⟩, trivial⟩ (by simp [Apart]) ⟨.inr ⟨rfl, rfl⟩, trivial⟩ trivial ⟨.ptr rfl, .plain rfl, .plain rfl, .plain rfl, .plain rfl, trivial⟩ (tblOpenW T n l hl) ?_
  rintro ⟨⟨D, F⟩, q⟩ ⟨hg, hβ⟩
  have hg : dGet D n = some ⟨l.boot, l.left, q⟩ := hg
  have hg2 : dGet D n = some ⟨boot, false, q⟩ := by rw [hg, hb1, hlf]
  have hn := ha.1
  repeat' (refine N.go ?_; first | with_reducible (first | refine N.obl (by decide) ?_ | refine N.eq ?_ | refine N.obl rfl ?_ | refine N.obl ⟨by kernel_rfl, by kernel_rfl⟩ ?_ | refine N.alt ?_ | refine N.forkT ?_ | refine N.forkF ?_) | refine N.call (cTnode _ _) ?_ | refine N.call (cSerMay _ _) ?_ | refine N.call (cTtime _ _) ?_ | refine N.forkNo (by rw [decide_eq_true ha.1]; rfl) ?_ | refine N.forkNo (by rw [decide_eq_true ha.2.1]; rfl) ?_ | refine N.forkNo (by rw [decide_eq_true ha.2.2.1]; rfl) ?_ | refine N.forkNo (by rw [decide_eq_true ha.2.2.2]; rfl) ?_ | refine N.call (cBeginB _ _ _ _ _ _ _ ⟨l.boot, l.left, q⟩ hg hb1 hlf 0 1 2 _ (by rfl) (by rfl) (by rfl) (by decide)) ?_ | refine N_put lifV D ⟨boot, false, q⟩ rfl rfl ⟨by omega, by omega⟩ rfl Tryz.underlying59 Tryz.underlying3 ?_ | refine N.call (call_at [.pointer (some ⟨3, 0, some 0⟩), .int .i64 seq] (by rfl) rfl ⟨.ptr, .same _, trivial⟩ (.inr ⟨_, .head _⟩) (cWHear (atX q) l.W W' seq 9 3 hs ha.2.2.1 hw _ (by rfl))) ?_ | refine N.forkT ?_ | refine N.forkF ?_ | refine N.forkYes (by decide) ?_ | refine N.forkNo (by decide) ?_ | fail)
  refine N.go ?_
  refine hearClose ⟨T.most, T.E, setL T.lives n ⟨boot, false, W'⟩⟩ _ F q W' rfl (by rfl) (fun hq => livesOK_win hβ hg2 hq W') ?_
  repeat' (refine N.go ?_; first | with_reducible (first | refine N.obl (by decide) ?_ | refine N.eq ?_ | refine N.obl rfl ?_ | refine N.obl ⟨by kernel_rfl, by kernel_rfl⟩ ?_ | refine N.alt ?_ | refine N.forkT ?_ | refine N.forkF ?_) | refine N.obl (.plain rfl) ?_ | refine N.obl ⟨⟨_, rfl, id, Nat.le_refl _, fun j hj => absurd hj (Nat.not_lt_zero j)⟩, trivial⟩ ?_ | refine N.obl trivial ?_ | refine N.obl ⟨⟨.inr ⟨_, rfl, rfl⟩, trivial⟩, trivial⟩ ?_ | exact N.true | fail)
theorem livesOK_new {lv : Int → Option Life} {D : List (Int × LifR)} {F : List ((Nat × Nat) × Win)} {n b : Int} {lf : Bool} {q : Nat × Nat} (h : livesOK lv ⟨D, F⟩) (hq : ∀ x ∈ F, x.1 ≠ q) (W' : Win) : livesOK (setL lv n ⟨b, lf, W'⟩) ⟨dPut D n ⟨b, lf, q⟩, (q, W') :: F⟩ := by
  obtain ⟨h1, h2, h3⟩ := h
  have key : ∀ m s, dGet (dPut D n ⟨b, lf, q⟩) m = some s → (m = n ∧ s = ⟨b, lf, q⟩) ∨ (m ≠ n ∧ dGet D m = some s) := fun m s hs => by
    by_cases e : m = n
    · subst e; rw [dGet_put_same] at hs; exact .inl ⟨rfl, by simpa using hs.symm⟩
    · rw [dGet_put_ne _ _ e] at hs; exact .inr ⟨e, hs⟩
  have noq : ∀ m s, dGet D m = some s → s.q ≠ q := fun m s hs e => by
    obtain ⟨W, hW, _⟩ := h2 m s hs
    exact hq _ hW e
  refine ⟨fun m hm => ?_, fun m s hs => ?_, fun m m' s s' hs hs' e => ?_⟩
  · by_cases e : m = n
    · subst e; rw [dGet_put_same] at hm; cases hm
    · rw [dGet_put_ne _ _ e] at hm
      unfold setL; rw [if_neg e]; exact h1 m hm
  · rcases key m s hs with ⟨rfl, rfl⟩ | ⟨e, hs⟩
    · exact ⟨W', by simp, by unfold setL; rw [if_pos rfl]⟩
    · obtain ⟨W2, hW2, hl2⟩ := h2 m s hs
      exact ⟨W2, List.mem_cons_of_mem _ hW2, by unfold setL; rw [if_neg e]; exact hl2⟩
  · have k1 := key m s hs
    have k2 := key m' s' hs'
    clear hs hs'
    rcases k1 with ⟨rfl, rfl⟩ | ⟨e1, hs⟩ <;> rcases k2 with ⟨rfl, rfl⟩ | ⟨e2, hs'⟩
    · rfl
    · exact absurd e.symm (noq _ _ hs')
    · exact absurd e (noq _ _ hs)
    · exact h3 _ _ _ _ hs hs' e
theorem cHearKthere (T : Tbl) (n boot seq now : Int) (ha : argsOK n boot seq now) (l : Life) (hl : T.lives n = some l) (hb1 : l.boot = boot) (hlf : l.left = false) (hs : l.W.seen < 18446744073709551616) (W' : Win) (hw : whear l.W seq = (0, W')) (e0 : Ent) (hth : dGet (T.E) n = some e0) (E' : List (Int × Ent)) (hE' : E' = dPut (T.E) n ⟨n, boot, now, e0.has, e0.x, e0.y, e0.a, e0.b, e0.d, e0.when_⟩) (i : Nat) (h : List (Option Chunk)) (hi : h[i]? = some (some (tblC T))) :
    CallOK Tryz.prog 6 [.pointer (some ⟨i, 0, some 0⟩), .int .i64 n, .int .i64 boot, .int .i64 seq, .int .i64 now] h (.int .i64 0) [(i, tblC (⟨T.most, E', setL T.lives n ⟨boot, false, W'⟩⟩))] [] := by
  refine call_res (G := tys) (fun κ : LB × (Nat × Nat) => dGet κ.1.D n = some ⟨l.boot, l.left, κ.2⟩ ∧ livesOK T.lives ⟨κ.1.D, (κ.2, l.W) :: κ.1.F⟩) (fun κ => [some (mainC κ.1.F T.most), some (mapC entV T.E), some (mapC lifV κ.1.D), some (winX (atX κ.2) l.W)]) [⟨i, tblC T, tblC T, tblC (⟨T.most, E', setL T.lives n ⟨boot, false, W'⟩⟩)⟩] [] [.pointer (some ⟨0, 0, some 0⟩), .int .i64 n, .int .i64 boot, .int .i64 seq, .int .i64 now] tysOK mixed Tryz.func6 (by rfl) (Tryz.call6) ⟨hi, trivial⟩ ⟨⟨fun h => ⟨rfl, Nat.le_refl _⟩, Nat.le_refl _, fun j hj => absurd hj (Nat.not_lt_zero j)⟩, trivial⟩ (by simp [Apart]) ⟨.inr ⟨rfl, rfl⟩, trivial⟩ trivial ⟨.ptr rfl, .plain rfl, .plain rfl, .plain rfl, .plain rfl, trivial⟩ (tblOpenW T n l hl) ?_
  rintro ⟨⟨D, F⟩, q⟩ ⟨hg, hβ⟩
  have hg : dGet D n = some ⟨l.boot, l.left, q⟩ := hg
  have hg2 : dGet D n = some ⟨boot, false, q⟩ := by rw [hg, hb1, hlf]
  have hn := ha.1
  subst hE'
  repeat' (refine N.go ?_; first | with_reducible (first | refine N.obl (by decide) ?_ | refine N.eq ?_ | refine N.obl rfl ?_ | refine N.obl ⟨by kernel_rfl, by kernel_rfl⟩ ?_ | refine N.alt ?_ | refine N.forkT ?_ | refine N.forkF ?_) | refine N.call (cTnode _ _) ?_ | refine N.call (cSerMay _ _) ?_ | refine N.call (cTtime _ _) ?_ | refine N.forkNo (by rw [decide_eq_true ha.1]; rfl) ?_ | refine N.forkNo (by rw [decide_eq_true ha.2.1]; rfl) ?_ | refine N.forkNo (by rw [decide_eq_true ha.2.2.1]; rfl) ?_ | refine N.forkNo (by rw [decide_eq_true ha.2.2.2]; rfl) ?_ | refine N.call (cBeginB _ _ _ _ _ _ _ ⟨l.boot, l.left, q⟩ hg hb1 hlf 0 1 2 _ (by rfl) (by rfl) (by rfl) (by decide)) ?_ | refine N_put lifV D ⟨boot, false, q⟩ rfl rfl ⟨by omega, by omega⟩ rfl Tryz.underlying59 Tryz.underlying3 ?_ | refine N.call (call_at [.pointer (some ⟨3, 0, some 0⟩), .int .i64 seq] (by rfl) rfl ⟨.ptr, .same _, trivial⟩ (.inr ⟨_, .head _⟩) (cWHear (atX q) l.W W' seq 0 3 hs ha.2.2.1 hw _ (by rfl))) ?_ | refine N_look entV (T.E) rfl Tryz.underlying58 Tryz.underlying3 Tryz.type42 rfl (.tuple ⟨[entV e0, .bool true]⟩) (by rw [hth]; rfl) rfl ?_ | refine N_lenM entV (T.E) rfl rfl Tryz.underlying58 ?_ | refine N_put entV (T.E) ⟨n, boot, now, e0.has, e0.x, e0.y, e0.a, e0.b, e0.d, e0.when_⟩ rfl rfl ⟨by omega, by omega⟩ rfl Tryz.underlying58 Tryz.underlying3 ?_ | refine N.forkT ?_ | refine N.forkF ?_ | refine N.forkYes (by decide) ?_ | refine N.forkNo (by decide) ?_ | fail)
  refine N.go ?_
  refine hearClose ⟨T.most, _, setL T.lives n ⟨boot, false, W'⟩⟩ _ F q W' rfl (by rfl) (fun hq => livesOK_win hβ hg2 hq W') ?_
  repeat' (refine N.go ?_; first | with_reducible (first | refine N.obl (by decide) ?_ | refine N.eq ?_ | refine N.obl rfl ?_ | refine N.obl ⟨by kernel_rfl, by kernel_rfl⟩ ?_ | refine N.alt ?_ | refine N.forkT ?_ | refine N.forkF ?_) | refine N.obl (.plain rfl) ?_ | refine N.obl ⟨⟨_, rfl, id, Nat.le_refl _, fun j hj => absurd hj (Nat.not_lt_zero j)⟩, trivial⟩ ?_ | refine N.obl trivial ?_ | refine N.obl ⟨⟨.inr ⟨_, rfl, rfl⟩, trivial⟩, trivial⟩ ?_ | exact N.true | fail)
theorem cHearKroom (T : Tbl) (n boot seq now : Int) (ha : argsOK n boot seq now) (l : Life) (hl : T.lives n = some l) (hb1 : l.boot = boot) (hlf : l.left = false) (hs : l.W.seen < 18446744073709551616) (W' : Win) (hw : whear l.W seq = (0, W')) (hth : dGet (T.E) n = none) (hrm : (T.E).length < T.most) (E' : List (Int × Ent)) (hE' : E' = dPut (T.E) n ⟨n, boot, now, Ent.zero.has, Ent.zero.x, Ent.zero.y, Ent.zero.a, Ent.zero.b, Ent.zero.d, Ent.zero.when_⟩) (i : Nat) (h : List (Option Chunk)) (hi : h[i]? = some (some (tblC T))) :
    CallOK Tryz.prog 6 [.pointer (some ⟨i, 0, some 0⟩), .int .i64 n, .int .i64 boot, .int .i64 seq, .int .i64 now] h (.int .i64 0) [(i, tblC (⟨T.most, E', setL T.lives n ⟨boot, false, W'⟩⟩))] [] := by
  refine call_res (G := tys) (fun κ : LB × (Nat × Nat) => dGet κ.1.D n = some ⟨l.boot, l.left, κ.2⟩ ∧ livesOK T.lives ⟨κ.1.D, (κ.2, l.W) :: κ.1.F⟩) (fun κ => [some (mainC κ.1.F T.most), some (mapC entV T.E), some (mapC lifV κ.1.D), some (winX (atX κ.2) l.W)]) [⟨i, tblC T, tblC T, tblC (⟨T.most, E', setL T.lives n ⟨boot, false, W'⟩⟩)⟩] [] [.pointer (some ⟨0, 0, some 0⟩), .int .i64 n, .int .i64 boot, .int .i64 seq, .int .i64 now] tysOK mixed Tryz.func6 (by rfl) (Tryz.call6) ⟨hi, trivial⟩ ⟨⟨fun h => ⟨rfl, Nat.le_refl _⟩, Nat.le_refl _, fun j hj => absurd hj (Nat.not_lt_zero j)⟩, trivial⟩ (by simp [Apart]) ⟨.inr ⟨rfl, rfl⟩, trivial⟩ trivial ⟨.ptr rfl, .plain rfl, .plain rfl, .plain rfl, .plain rfl, trivial⟩ (tblOpenW T n l hl) ?_
  rintro ⟨⟨D, F⟩, q⟩ ⟨hg, hβ⟩
  have hg : dGet D n = some ⟨l.boot, l.left, q⟩ := hg
  have hg2 : dGet D n = some ⟨boot, false, q⟩ := by rw [hg, hb1, hlf]
  have hn := ha.1
  subst hE'
  repeat' (refine N.go ?_; first | with_reducible (first | refine N.obl (by decide) ?_ | refine N.eq ?_ | refine N.obl rfl ?_ | refine N.obl ⟨by kernel_rfl, by kernel_rfl⟩ ?_ | refine N.alt ?_ | refine N.forkT ?_ | refine N.forkF ?_) | refine N.call (cTnode _ _) ?_ | refine N.call (cSerMay _ _) ?_ | refine N.call (cTtime _ _) ?_ | refine N.forkNo (by rw [decide_eq_true ha.1]; rfl) ?_ | refine N.forkNo (by rw [decide_eq_true ha.2.1]; rfl) ?_ | refine N.forkNo (by rw [decide_eq_true ha.2.2.1]; rfl) ?_ | refine N.forkNo (by rw [decide_eq_true ha.2.2.2]; rfl) ?_ | refine N.call (cBeginB _ _ _ _ _ _ _ ⟨l.boot, l.left, q⟩ hg hb1 hlf 0 1 2 _ (by rfl) (by rfl) (by rfl) (by decide)) ?_ | refine N_put lifV D ⟨boot, false, q⟩ rfl rfl ⟨by omega, by omega⟩ rfl Tryz.underlying59 Tryz.underlying3 ?_ | refine N.call (call_at [.pointer (some ⟨3, 0, some 0⟩), .int .i64 seq] (by rfl) rfl ⟨.ptr, .same _, trivial⟩ (.inr ⟨_, .head _⟩) (cWHear (atX q) l.W W' seq 0 3 hs ha.2.2.1 hw _ (by rfl))) ?_ | refine N_look entV (T.E) rfl Tryz.underlying58 Tryz.underlying3 Tryz.type42 rfl (.tuple ⟨[entV Ent.zero, .bool false]⟩) (by rw [hth]; rfl) rfl ?_ | refine N_lenM entV (T.E) rfl rfl Tryz.underlying58 ?_ | refine N.forkNo (by rw [decide_eq_false_iff_not]; omega) ?_ | refine N_put entV (T.E) ⟨n, boot, now, Ent.zero.has, Ent.zero.x, Ent.zero.y, Ent.zero.a, Ent.zero.b, Ent.zero.d, Ent.zero.when_⟩ rfl rfl ⟨by omega, by omega⟩ rfl Tryz.underlying58 Tryz.underlying3 ?_ | refine N.forkT ?_ | refine N.forkF ?_ | refine N.forkYes (by decide) ?_ | refine N.forkNo (by decide) ?_ | fail)
  refine N.go ?_
  refine hearClose ⟨T.most, _, setL T.lives n ⟨boot, false, W'⟩⟩ _ F q W' rfl (by rfl) (fun hq => livesOK_win hβ hg2 hq W') ?_
  repeat' (refine N.go ?_; first | with_reducible (first | refine N.obl (by decide) ?_ | refine N.eq ?_ | refine N.obl rfl ?_ | refine N.obl ⟨by kernel_rfl, by kernel_rfl⟩ ?_ | refine N.alt ?_ | refine N.forkT ?_ | refine N.forkF ?_) | refine N.obl (.plain rfl) ?_ | refine N.obl ⟨⟨_, rfl, id, Nat.le_refl _, fun j hj => absurd hj (Nat.not_lt_zero j)⟩, trivial⟩ ?_ | refine N.obl trivial ?_ | refine N.obl ⟨⟨.inr ⟨_, rfl, rfl⟩, trivial⟩, trivial⟩ ?_ | exact N.true | fail)
theorem cHearKfull (T : Tbl) (n boot seq now : Int) (ha : argsOK n boot seq now) (l : Life) (hl : T.lives n = some l) (hb1 : l.boot = boot) (hlf : l.left = false) (hs : l.W.seen < 18446744073709551616) (W' : Win) (hw : whear l.W seq = (0, W')) (hth : dGet (T.E) n = none) (hrm : T.most ≤ (T.E).length) (hE : (T.E).length ≤ 64) (hpos : 0 < (T.E).length) (E' : List (Int × Ent)) (hE' : E' = dPut (dDel (T.E) (minT (entT (T.E)) (T.E).length).node) n ⟨n, boot, now, Ent.zero.has, Ent.zero.x, Ent.zero.y, Ent.zero.a, Ent.zero.b, Ent.zero.d, Ent.zero.when_⟩) (i : Nat) (h : List (Option Chunk)) (hi : h[i]? = some (some (tblC T))) :
    CallOK Tryz.prog 6 [.pointer (some ⟨i, 0, some 0⟩), .int .i64 n, .int .i64 boot, .int .i64 seq, .int .i64 now] h (.int .i64 0) [(i, tblC (⟨T.most, E', setL T.lives n ⟨boot, false, W'⟩⟩))] [] := by
  refine call_res (G := tys) (fun κ : LB × (Nat × Nat) => dGet κ.1.D n = some ⟨l.boot, l.left, κ.2⟩ ∧ livesOK T.lives ⟨κ.1.D, (κ.2, l.W) :: κ.1.F⟩) (fun κ => [some (mainC κ.1.F T.most), some (mapC entV T.E), some (mapC lifV κ.1.D), some (winX (atX κ.2) l.W)]) [⟨i, tblC T, tblC T, tblC (⟨T.most, E', setL T.lives n ⟨boot, false, W'⟩⟩)⟩] [] [.pointer (some ⟨0, 0, some 0⟩), .int .i64 n, .int .i64 boot, .int .i64 seq, .int .i64 now] tysOK mixed Tryz.func6 (by rfl) (Tryz.call6) ⟨hi, trivial⟩ ⟨⟨fun h => ⟨rfl, Nat.le_refl _⟩, Nat.le_refl _, fun j hj => absurd hj (Nat.not_lt_zero j)⟩, trivial⟩ (by simp [Apart]) ⟨.inr ⟨rfl, rfl⟩, trivial⟩ trivial ⟨.ptr rfl, .plain rfl, .plain rfl, .plain rfl, .plain rfl, trivial⟩ (tblOpenW T n l hl) ?_
  rintro ⟨⟨D, F⟩, q⟩ ⟨hg, hβ⟩
  have hg : dGet D n = some ⟨l.boot, l.left, q⟩ := hg
  have hg2 : dGet D n = some ⟨boot, false, q⟩ := by rw [hg, hb1, hlf]
  have hn := ha.1
  subst hE'
  repeat' (refine N.go ?_; first | with_reducible (first | refine N.obl (by decide) ?_ | refine N.eq ?_ | refine N.obl rfl ?_ | refine N.obl ⟨by kernel_rfl, by kernel_rfl⟩ ?_ | refine N.alt ?_ | refine N.forkT ?_ | refine N.forkF ?_) | refine N.call (cTnode _ _) ?_ | refine N.call (cSerMay _ _) ?_ | refine N.call (cTtime _ _) ?_ | refine N.forkNo (by rw [decide_eq_true ha.1]; rfl) ?_ | refine N.forkNo (by rw [decide_eq_true ha.2.1]; rfl) ?_ | refine N.forkNo (by rw [decide_eq_true ha.2.2.1]; rfl) ?_ | refine N.forkNo (by rw [decide_eq_true ha.2.2.2]; rfl) ?_ | refine N.call (cBeginB _ _ _ _ _ _ _ ⟨l.boot, l.left, q⟩ hg hb1 hlf 0 1 2 _ (by rfl) (by rfl) (by rfl) (by decide)) ?_ | refine N_put lifV D ⟨boot, false, q⟩ rfl rfl ⟨by omega, by omega⟩ rfl Tryz.underlying59 Tryz.underlying3 ?_ | refine N.call (call_at [.pointer (some ⟨3, 0, some 0⟩), .int .i64 seq] (by rfl) rfl ⟨.ptr, .same _, trivial⟩ (.inr ⟨_, .head _⟩) (cWHear (atX q) l.W W' seq 0 3 hs ha.2.2.1 hw _ (by rfl))) ?_ | refine N_look entV (T.E) rfl Tryz.underlying58 Tryz.underlying3 Tryz.type42 rfl (.tuple ⟨[entV Ent.zero, .bool false]⟩) (by rw [hth]; rfl) rfl ?_ | refine N_lenM entV (T.E) rfl rfl Tryz.underlying58 ?_ | refine N.forkYes (by rw [decide_eq_true_eq]; omega) ?_ | refine N.call (cElder _ true T.most (T.E) (dPut D n ⟨boot, false, q⟩) hE hpos 0 1 2 _ (by rfl) (by rfl) (by rfl) (by decide)) ?_ | refine N_del entV (T.E) rfl rfl rfl Tryz.underlying58 Tryz.underlying3 ?_ | refine N_put entV (dDel (T.E) (minT (entT (T.E)) (T.E).length).node) ⟨n, boot, now, Ent.zero.has, Ent.zero.x, Ent.zero.y, Ent.zero.a, Ent.zero.b, Ent.zero.d, Ent.zero.when_⟩ rfl rfl ⟨by omega, by omega⟩ rfl Tryz.underlying58 Tryz.underlying3 ?_ | refine N.forkT ?_ | refine N.forkF ?_ | refine N.forkYes (by decide) ?_ | refine N.forkNo (by decide) ?_ | fail)
  refine N.go ?_
  refine hearClose ⟨T.most, _, setL T.lives n ⟨boot, false, W'⟩⟩ _ F q W' rfl (by rfl) (fun hq => livesOK_win hβ hg2 hq W') ?_
  repeat' (refine N.go ?_; first | with_reducible (first | refine N.obl (by decide) ?_ | refine N.eq ?_ | refine N.obl rfl ?_ | refine N.obl ⟨by kernel_rfl, by kernel_rfl⟩ ?_ | refine N.alt ?_ | refine N.forkT ?_ | refine N.forkF ?_) | refine N.obl (.plain rfl) ?_ | refine N.obl ⟨⟨_, rfl, id, Nat.le_refl _, fun j hj => absurd hj (Nat.not_lt_zero j)⟩, trivial⟩ ?_ | refine N.obl trivial ?_ | refine N.obl ⟨⟨.inr ⟨_, rfl, rfl⟩, trivial⟩, trivial⟩ ?_ | exact N.true | fail)
end Go.Proofs.YtimccfnlcnlffaaGreat


namespace Go.Proofs.YtimccfnlcnlffaaGreat
open Go Go.RowKit Sx
theorem cHearOYthere (T : Tbl) (n boot seq now : Int) (ha : argsOK n boot seq now) (l : Life) (hl : T.lives n = some l) (hb1 : l.boot ≠ boot) (hls : 0 < serD l.boot boot ∧ serD l.boot boot < 32768) (e : Ent) (hEn : dGet T.E n = some e) (E' : List (Int × Ent)) (hE' : E' = dPut (dPut T.E n ⟨n, e.boot, e.heard, false, 0, 0, 0, 0, 0, 0⟩) n ⟨n, boot, now, false, 0, 0, 0, 0, 0, 0⟩) (i : Nat) (h : List (Option Chunk)) (hi : h[i]? = some (some (tblC T))) :
    CallOK Tryz.prog 6 [.pointer (some ⟨i, 0, some 0⟩), .int .i64 n, .int .i64 boot, .int .i64 seq, .int .i64 now] h (.int .i64 0) [(i, tblC (⟨T.most, E', setL T.lives n ⟨boot, false, ⟨true, seq, 1⟩⟩⟩))] [] := by
  refine call_res (G := tys) (livesOK T.lives) (tblH T) [⟨i, tblC T, tblC T, tblC (⟨T.most, E', setL T.lives n ⟨boot, false, ⟨true, seq, 1⟩⟩⟩)⟩] [] [.pointer (some ⟨0, 0, some 0⟩), .int .i64 n, .int .i64 boot, .int .i64 seq, .int .i64 now] tysOK mixed Tryz.func6 (by rfl) (Tryz.call6) ⟨hi, trivial⟩ ⟨⟨fun h => ⟨rfl, Nat.le_refl _⟩, Nat.le_refl _, fun j hj => absurd hj (Nat.not_lt_zero j)⟩, trivial⟩ (by simp [Apart]) ⟨.inr ⟨rfl, rfl⟩, trivial⟩ trivial ⟨.ptr rfl, .plain rfl, .plain rfl, .plain rfl, .plain rfl, trivial⟩ pack_opens ?_
  intro β hβ
  have hn := ha.1
  obtain ⟨q0, hg, hW⟩ := livesOK_some hβ hl
  have hth : dGet (dPut T.E n ⟨n, e.boot, e.heard, false, 0, 0, 0, 0, 0, 0⟩) n = some ⟨n, e.boot, e.heard, false, 0, 0, 0, 0, 0, 0⟩ := dGet_put_same _ _ _
  have hbe : begE T.E n = dPut T.E n ⟨n, e.boot, e.heard, false, 0, 0, 0, 0, 0, 0⟩ := by unfold begE; rw [hEn]
  subst hE'
  repeat' (refine N.go ?_; first | with_reducible (first | refine N.obl (by decide) ?_ | refine N.eq ?_ | refine N.obl rfl ?_ | refine N.obl ⟨by kernel_rfl, by kernel_rfl⟩ ?_ | refine N.alt ?_ | refine N.forkT ?_ | refine N.forkF ?_) | refine N.call (cTnode _ _) ?_ | refine N.call (cSerMay _ _) ?_ | refine N.call (cTtime _ _) ?_ | refine N.forkNo (by rw [decide_eq_true ha.1]; rfl) ?_ | refine N.forkNo (by rw [decide_eq_true ha.2.1]; rfl) ?_ | refine N.forkNo (by rw [decide_eq_true ha.2.2.1]; rfl) ?_ | refine N.forkNo (by rw [decide_eq_true ha.2.2.2]; rfl) ?_ | fail)
  refine N.go ?_
  refine N.callAll (cBeginOY _ _ _ _ _ _ _ hn ⟨l.boot, l.left, q0⟩ hg hb1 hls e hEn 0 1 2 _ (by rfl) (by rfl) (by rfl) (by decide) 3 (by rfl) (by decide)) fun v ms hR => ?_
  obtain ⟨q, rfl, rfl⟩ := hR
  rw [hbe]
  repeat' (refine N.go ?_; first | with_reducible (first | refine N.obl (by decide) ?_ | refine N.eq ?_ | refine N.obl rfl ?_ | refine N.obl ⟨by kernel_rfl, by kernel_rfl⟩ ?_ | refine N.alt ?_ | refine N.forkT ?_ | refine N.forkF ?_) | refine N_put lifV β.D ⟨boot, false, q⟩ rfl rfl ⟨by omega, by omega⟩ rfl Tryz.underlying59 Tryz.underlying3 ?_ | refine N.call (call_at [.pointer (some ⟨3, 0, some 0⟩), .int .i64 seq] (by rfl) rfl ⟨.ptr, .same _, trivial⟩ (.inr ⟨_, .head _⟩) (cWHear (atX q) Win.zero ⟨true, seq, 1⟩ seq 0 3 (by decide) ha.2.2.1 rfl _ (by rfl))) ?_ | refine N_look entV (dPut T.E n ⟨n, e.boot, e.heard, false, 0, 0, 0, 0, 0, 0⟩) rfl Tryz.underlying58 Tryz.underlying3 Tryz.type42 rfl (.tuple ⟨[entV ⟨n, e.boot, e.heard, false, 0, 0, 0, 0, 0, 0⟩, .bool true]⟩) (by rw [hth]; rfl) rfl ?_ | refine N_lenM entV (dPut T.E n ⟨n, e.boot, e.heard, false, 0, 0, 0, 0, 0, 0⟩) rfl rfl Tryz.underlying58 ?_ | refine N_put entV (dPut T.E n ⟨n, e.boot, e.heard, false, 0, 0, 0, 0, 0, 0⟩) ⟨n, boot, now, false, 0, 0, 0, 0, 0, 0⟩ rfl rfl ⟨by omega, by omega⟩ rfl Tryz.underlying58 Tryz.underlying3 ?_ | refine N.forkT ?_ | refine N.forkF ?_ | refine N.forkYes (by decide) ?_ | refine N.forkNo (by decide) ?_ | fail)
  refine N.go ?_
  refine hearClose ⟨T.most, _, setL T.lives n ⟨boot, false, ⟨true, seq, 1⟩⟩⟩ _ β.F q ⟨true, seq, 1⟩ rfl (by rfl) (fun hq => livesOK_new hβ hq _) ?_
  repeat' (refine N.go ?_; first | with_reducible (first | refine N.obl (by decide) ?_ | refine N.eq ?_ | refine N.obl rfl ?_ | refine N.obl ⟨by kernel_rfl, by kernel_rfl⟩ ?_ | refine N.alt ?_ | refine N.forkT ?_ | refine N.forkF ?_) | refine N.obl (.plain rfl) ?_ | refine N.obl ⟨⟨_, rfl, id, Nat.le_refl _, fun j hj => absurd hj (Nat.not_lt_zero j)⟩, trivial⟩ ?_ | refine N.obl trivial ?_ | refine N.obl ⟨⟨.inr ⟨_, rfl, rfl⟩, trivial⟩, trivial⟩ ?_ | exact N.true | fail)
theorem cHearONroom (T : Tbl) (n boot seq now : Int) (ha : argsOK n boot seq now) (l : Life) (hl : T.lives n = some l) (hb1 : l.boot ≠ boot) (hls : 0 < serD l.boot boot ∧ serD l.boot boot < 32768) (hth : dGet (T.E) n = none) (hrm : (T.E).length < T.most) (E' : List (Int × Ent)) (hE' : E' = dPut (T.E) n ⟨n, boot, now, Ent.zero.has, Ent.zero.x, Ent.zero.y, Ent.zero.a, Ent.zero.b, Ent.zero.d, Ent.zero.when_⟩) (i : Nat) (h : List (Option Chunk)) (hi : h[i]? = some (some (tblC T))) :
    CallOK Tryz.prog 6 [.pointer (some ⟨i, 0, some 0⟩), .int .i64 n, .int .i64 boot, .int .i64 seq, .int .i64 now] h (.int .i64 0) [(i, tblC (⟨T.most, E', setL T.lives n ⟨boot, false, ⟨true, seq, 1⟩⟩⟩))] [] := by
  refine call_res (G := tys) (livesOK T.lives) (tblH T) [⟨i, tblC T, tblC T, tblC (⟨T.most, E', setL T.lives n ⟨boot, false, ⟨true, seq, 1⟩⟩⟩)⟩] [] [.pointer (some ⟨0, 0, some 0⟩), .int .i64 n, .int .i64 boot, .int .i64 seq, .int .i64 now] tysOK mixed Tryz.func6 (by rfl) (Tryz.call6) ⟨hi, trivial⟩ ⟨⟨fun h => ⟨rfl, Nat.le_refl _⟩, Nat.le_refl _, fun j hj => absurd hj (Nat.not_lt_zero j)⟩, trivial⟩ (by simp [Apart]) ⟨.inr ⟨rfl, rfl⟩, trivial⟩ trivial ⟨.ptr rfl, .plain rfl, .plain rfl, .plain rfl, .plain rfl, trivial⟩ pack_opens ?_
  intro β hβ
  have hn := ha.1
  obtain ⟨q0, hg, hW⟩ := livesOK_some hβ hl
  have hbe : begE T.E n = T.E := by unfold begE; rw [hth]
  subst hE'
  repeat' (refine N.go ?_; first | with_reducible (first | refine N.obl (by decide) ?_ | refine N.eq ?_ | refine N.obl rfl ?_ | refine N.obl ⟨by kernel_rfl, by kernel_rfl⟩ ?_ | refine N.alt ?_ | refine N.forkT ?_ | refine N.forkF ?_) | refine N.call (cTnode _ _) ?_ | refine N.call (cSerMay _ _) ?_ | refine N.call (cTtime _ _) ?_ | refine N.forkNo (by rw [decide_eq_true ha.1]; rfl) ?_ | refine N.forkNo (by rw [decide_eq_true ha.2.1]; rfl) ?_ | refine N.forkNo (by rw [decide_eq_true ha.2.2.1]; rfl) ?_ | refine N.forkNo (by rw [decide_eq_true ha.2.2.2]; rfl) ?_ | fail)
  refine N.go ?_
  refine N.callAll (cBeginON _ _ _ _ _ _ _ hn ⟨l.boot, l.left, q0⟩ hg hb1 hls hth 0 1 2 _ (by rfl) (by rfl) (by rfl) (by decide) 3 (by rfl) (by decide)) fun v ms hR => ?_
  obtain ⟨q, rfl, rfl⟩ := hR
  rw [hbe]
  repeat' (refine N.go ?_; first | with_reducible (first | refine N.obl (by decide) ?_ | refine N.eq ?_ | refine N.obl rfl ?_ | refine N.obl ⟨by kernel_rfl, by kernel_rfl⟩ ?_ | refine N.alt ?_ | refine N.forkT ?_ | refine N.forkF ?_) | refine N_put lifV β.D ⟨boot, false, q⟩ rfl rfl ⟨by omega, by omega⟩ rfl Tryz.underlying59 Tryz.underlying3 ?_ | refine N.call (call_at [.pointer (some ⟨3, 0, some 0⟩), .int .i64 seq] (by rfl) rfl ⟨.ptr, .same _, trivial⟩ (.inr ⟨_, .head _⟩) (cWHear (atX q) Win.zero ⟨true, seq, 1⟩ seq 0 3 (by decide) ha.2.2.1 rfl _ (by rfl))) ?_ | refine N_look entV (T.E) rfl Tryz.underlying58 Tryz.underlying3 Tryz.type42 rfl (.tuple ⟨[entV Ent.zero, .bool false]⟩) (by rw [hth]; rfl) rfl ?_ | refine N_lenM entV (T.E) rfl rfl Tryz.underlying58 ?_ | refine N.forkNo (by rw [decide_eq_false_iff_not]; omega) ?_ | refine N_put entV (T.E) ⟨n, boot, now, Ent.zero.has, Ent.zero.x, Ent.zero.y, Ent.zero.a, Ent.zero.b, Ent.zero.d, Ent.zero.when_⟩ rfl rfl ⟨by omega, by omega⟩ rfl Tryz.underlying58 Tryz.underlying3 ?_ | refine N.forkT ?_ | refine N.forkF ?_ | refine N.forkYes (by decide) ?_ | refine N.forkNo (by decide) ?_ | fail)
  refine N.go ?_
  refine hearClose ⟨T.most, _, setL T.lives n ⟨boot, false, ⟨true, seq, 1⟩⟩⟩ _ β.F q ⟨true, seq, 1⟩ rfl (by rfl) (fun hq => livesOK_new hβ hq _) ?_
  repeat' (refine N.go ?_; first | with_reducible (first | refine N.obl (by decide) ?_ | refine N.eq ?_ | refine N.obl rfl ?_ | refine N.obl ⟨by kernel_rfl, by kernel_rfl⟩ ?_ | refine N.alt ?_ | refine N.forkT ?_ | refine N.forkF ?_) | refine N.obl (.plain rfl) ?_ | refine N.obl ⟨⟨_, rfl, id, Nat.le_refl _, fun j hj => absurd hj (Nat.not_lt_zero j)⟩, trivial⟩ ?_ | refine N.obl trivial ?_ | refine N.obl ⟨⟨.inr ⟨_, rfl, rfl⟩, trivial⟩, trivial⟩ ?_ | exact N.true | fail)
theorem cHearONfull (T : Tbl) (n boot seq now : Int) (ha : argsOK n boot seq now) (l : Life) (hl : T.lives n = some l) (hb1 : l.boot ≠ boot) (hls : 0 < serD l.boot boot ∧ serD l.boot boot < 32768) (hth : dGet (T.E) n = none) (hrm : T.most ≤ (T.E).length) (hE : (T.E).length ≤ 64) (hpos : 0 < (T.E).length) (E' : List (Int × Ent)) (hE' : E' = dPut (dDel (T.E) (minT (entT (T.E)) (T.E).length).node) n ⟨n, boot, now, Ent.zero.has, Ent.zero.x, Ent.zero.y, Ent.zero.a, Ent.zero.b, Ent.zero.d, Ent.zero.when_⟩) (i : Nat) (h : List (Option Chunk)) (hi : h[i]? = some (some (tblC T))) :
    CallOK Tryz.prog 6 [.pointer (some ⟨i, 0, some 0⟩), .int .i64 n, .int .i64 boot, .int .i64 seq, .int .i64 now] h (.int .i64 0) [(i, tblC (⟨T.most, E', setL T.lives n ⟨boot, false, ⟨true, seq, 1⟩⟩⟩))] [] := by
  refine call_res (G := tys) (livesOK T.lives) (tblH T) [⟨i, tblC T, tblC T, tblC (⟨T.most, E', setL T.lives n ⟨boot, false, ⟨true, seq, 1⟩⟩⟩)⟩] [] [.pointer (some ⟨0, 0, some 0⟩), .int .i64 n, .int .i64 boot, .int .i64 seq, .int .i64 now] tysOK mixed Tryz.func6 (by rfl) (Tryz.call6) ⟨hi, trivial⟩ ⟨⟨fun h => ⟨rfl, Nat.le_refl _⟩, Nat.le_refl _, fun j hj => absurd hj (Nat.not_lt_zero j)⟩, trivial⟩ (by simp [Apart]) ⟨.inr ⟨rfl, rfl⟩, trivial⟩ trivial ⟨.ptr rfl, .plain rfl, .plain rfl, .plain rfl, .plain rfl, trivial⟩ pack_opens ?_
  intro β hβ
  have hn := ha.1
  obtain ⟨q0, hg, hW⟩ := livesOK_some hβ hl
  have hbe : begE T.E n = T.E := by unfold begE; rw [hth]
  subst hE'
  repeat' (refine N.go ?_; first | with_reducible (first | refine N.obl (by decide) ?_ | refine N.eq ?_ | refine N.obl rfl ?_ | refine N.obl ⟨by kernel_rfl, by kernel_rfl⟩ ?_ | refine N.alt ?_ | refine N.forkT ?_ | refine N.forkF ?_) | refine N.call (cTnode _ _) ?_ | refine N.call (cSerMay _ _) ?_ | refine N.call (cTtime _ _) ?_ | refine N.forkNo (by rw [decide_eq_true ha.1]; rfl) ?_ | refine N.forkNo (by rw [decide_eq_true ha.2.1]; rfl) ?_ | refine N.forkNo (by rw [decide_eq_true ha.2.2.1]; rfl) ?_ | refine N.forkNo (by rw [decide_eq_true ha.2.2.2]; rfl) ?_ | fail)
  refine N.go ?_
  refine N.callAll (cBeginON _ _ _ _ _ _ _ hn ⟨l.boot, l.left, q0⟩ hg hb1 hls hth 0 1 2 _ (by rfl) (by rfl) (by rfl) (by decide) 3 (by rfl) (by decide)) fun v ms hR => ?_
  obtain ⟨q, rfl, rfl⟩ := hR
  rw [hbe]
  repeat' (refine N.go ?_; first | with_reducible (first | refine N.obl (by decide) ?_ | refine N.eq ?_ | refine N.obl rfl ?_ | refine N.obl ⟨by kernel_rfl, by kernel_rfl⟩ ?_ | refine N.alt ?_ | refine N.forkT ?_ | refine N.forkF ?_) | refine N_put lifV β.D ⟨boot, false, q⟩ rfl rfl ⟨by omega, by omega⟩ rfl Tryz.underlying59 Tryz.underlying3 ?_ | refine N.call (call_at [.pointer (some ⟨3, 0, some 0⟩), .int .i64 seq] (by rfl) rfl ⟨.ptr, .same _, trivial⟩ (.inr ⟨_, .head _⟩) (cWHear (atX q) Win.zero ⟨true, seq, 1⟩ seq 0 3 (by decide) ha.2.2.1 rfl _ (by rfl))) ?_ | refine N_look entV (T.E) rfl Tryz.underlying58 Tryz.underlying3 Tryz.type42 rfl (.tuple ⟨[entV Ent.zero, .bool false]⟩) (by rw [hth]; rfl) rfl ?_ | refine N_lenM entV (T.E) rfl rfl Tryz.underlying58 ?_ | refine N.forkYes (by rw [decide_eq_true_eq]; omega) ?_ | refine N.call (cElder _ true T.most (T.E) (dPut β.D n ⟨boot, false, q⟩) hE hpos 0 1 2 _ (by rfl) (by rfl) (by rfl) (by decide)) ?_ | refine N_del entV (T.E) rfl rfl rfl Tryz.underlying58 Tryz.underlying3 ?_ | refine N_put entV (dDel (T.E) (minT (entT (T.E)) (T.E).length).node) ⟨n, boot, now, Ent.zero.has, Ent.zero.x, Ent.zero.y, Ent.zero.a, Ent.zero.b, Ent.zero.d, Ent.zero.when_⟩ rfl rfl ⟨by omega, by omega⟩ rfl Tryz.underlying58 Tryz.underlying3 ?_ | refine N.forkT ?_ | refine N.forkF ?_ | refine N.forkYes (by decide) ?_ | refine N.forkNo (by decide) ?_ | fail)
  refine N.go ?_
  refine hearClose ⟨T.most, _, setL T.lives n ⟨boot, false, ⟨true, seq, 1⟩⟩⟩ _ β.F q ⟨true, seq, 1⟩ rfl (by rfl) (fun hq => livesOK_new hβ hq _) ?_
  repeat' (refine N.go ?_; first | with_reducible (first | refine N.obl (by decide) ?_ | refine N.eq ?_ | refine N.obl rfl ?_ | refine N.obl ⟨by kernel_rfl, by kernel_rfl⟩ ?_ | refine N.alt ?_ | refine N.forkT ?_ | refine N.forkF ?_) | refine N.obl (.plain rfl) ?_ | refine N.obl ⟨⟨_, rfl, id, Nat.le_refl _, fun j hj => absurd hj (Nat.not_lt_zero j)⟩, trivial⟩ ?_ | refine N.obl trivial ?_ | refine N.obl ⟨⟨.inr ⟨_, rfl, rfl⟩, trivial⟩, trivial⟩ ?_ | exact N.true | fail)
theorem cHearNYthere (T : Tbl) (n boot seq now : Int) (ha : argsOK n boot seq now) (hl : T.lives n = none) (e : Ent) (hEn : dGet T.E n = some e) (E' : List (Int × Ent)) (hE' : E' = dPut (dPut T.E n ⟨n, e.boot, e.heard, false, 0, 0, 0, 0, 0, 0⟩) n ⟨n, boot, now, false, 0, 0, 0, 0, 0, 0⟩) (i : Nat) (h : List (Option Chunk)) (hi : h[i]? = some (some (tblC T))) :
    CallOK Tryz.prog 6 [.pointer (some ⟨i, 0, some 0⟩), .int .i64 n, .int .i64 boot, .int .i64 seq, .int .i64 now] h (.int .i64 0) [(i, tblC (⟨T.most, E', setL T.lives n ⟨boot, false, ⟨true, seq, 1⟩⟩⟩))] [] := by
  refine call_res (G := tys) (livesOK T.lives) (tblH T) [⟨i, tblC T, tblC T, tblC (⟨T.most, E', setL T.lives n ⟨boot, false, ⟨true, seq, 1⟩⟩⟩)⟩] [] [.pointer (some ⟨0, 0, some 0⟩), .int .i64 n, .int .i64 boot, .int .i64 seq, .int .i64 now] tysOK mixed Tryz.func6 (by rfl) (Tryz.call6) ⟨hi, trivial⟩ ⟨⟨fun h => ⟨rfl, Nat.le_refl _⟩, Nat.le_refl _, fun j hj => absurd hj (Nat.not_lt_zero j)⟩, trivial⟩ (by simp [Apart]) ⟨.inr ⟨rfl, rfl⟩, trivial⟩ trivial ⟨.ptr rfl, .plain rfl, .plain rfl, .plain rfl, .plain rfl, trivial⟩ pack_opens ?_
  intro β hβ
  have hn := ha.1
  have hg := livesOK_none hβ hl
  have hth : dGet (dPut T.E n ⟨n, e.boot, e.heard, false, 0, 0, 0, 0, 0, 0⟩) n = some ⟨n, e.boot, e.heard, false, 0, 0, 0, 0, 0, 0⟩ := dGet_put_same _ _ _
  have hbe : begE T.E n = dPut T.E n ⟨n, e.boot, e.heard, false, 0, 0, 0, 0, 0, 0⟩ := by unfold begE; rw [hEn]
  subst hE'
  repeat' (refine N.go ?_; first | with_reducible (first | refine N.obl (by decide) ?_ | refine N.eq ?_ | refine N.obl rfl ?_ | refine N.obl ⟨by kernel_rfl, by kernel_rfl⟩ ?_ | refine N.alt ?_ | refine N.forkT ?_ | refine N.forkF ?_) | refine N.call (cTnode _ _) ?_ | refine N.call (cSerMay _ _) ?_ | refine N.call (cTtime _ _) ?_ | refine N.forkNo (by rw [decide_eq_true ha.1]; rfl) ?_ | refine N.forkNo (by rw [decide_eq_true ha.2.1]; rfl) ?_ | refine N.forkNo (by rw [decide_eq_true ha.2.2.1]; rfl) ?_ | refine N.forkNo (by rw [decide_eq_true ha.2.2.2]; rfl) ?_ | fail)
  refine N.go ?_
  refine N.callAll (cBeginNY _ _ _ _ _ _ _ hn hg e hEn 0 1 2 _ (by rfl) (by rfl) (by rfl) (by decide) 3 (by rfl) (by decide)) fun v ms hR => ?_
  obtain ⟨q, rfl, rfl⟩ := hR
  rw [hbe]
  repeat' (refine N.go ?_; first | with_reducible (first | refine N.obl (by decide) ?_ | refine N.eq ?_ | refine N.obl rfl ?_ | refine N.obl ⟨by kernel_rfl, by kernel_rfl⟩ ?_ | refine N.alt ?_ | refine N.forkT ?_ | refine N.forkF ?_) | refine N_put lifV β.D ⟨boot, false, q⟩ rfl rfl ⟨by omega, by omega⟩ rfl Tryz.underlying59 Tryz.underlying3 ?_ | refine N.call (call_at [.pointer (some ⟨3, 0, some 0⟩), .int .i64 seq] (by rfl) rfl ⟨.ptr, .same _, trivial⟩ (.inr ⟨_, .head _⟩) (cWHear (atX q) Win.zero ⟨true, seq, 1⟩ seq 0 3 (by decide) ha.2.2.1 rfl _ (by rfl))) ?_ | refine N_look entV (dPut T.E n ⟨n, e.boot, e.heard, false, 0, 0, 0, 0, 0, 0⟩) rfl Tryz.underlying58 Tryz.underlying3 Tryz.type42 rfl (.tuple ⟨[entV ⟨n, e.boot, e.heard, false, 0, 0, 0, 0, 0, 0⟩, .bool true]⟩) (by rw [hth]; rfl) rfl ?_ | refine N_lenM entV (dPut T.E n ⟨n, e.boot, e.heard, false, 0, 0, 0, 0, 0, 0⟩) rfl rfl Tryz.underlying58 ?_ | refine N_put entV (dPut T.E n ⟨n, e.boot, e.heard, false, 0, 0, 0, 0, 0, 0⟩) ⟨n, boot, now, false, 0, 0, 0, 0, 0, 0⟩ rfl rfl ⟨by omega, by omega⟩ rfl Tryz.underlying58 Tryz.underlying3 ?_ | refine N.forkT ?_ | refine N.forkF ?_ | refine N.forkYes (by decide) ?_ | refine N.forkNo (by decide) ?_ | fail)
  refine N.go ?_
  refine hearClose ⟨T.most, _, setL T.lives n ⟨boot, false, ⟨true, seq, 1⟩⟩⟩ _ β.F q ⟨true, seq, 1⟩ rfl (by rfl) (fun hq => livesOK_new hβ hq _) ?_
  repeat' (refine N.go ?_; first | with_reducible (first | refine N.obl (by decide) ?_ | refine N.eq ?_ | refine N.obl rfl ?_ | refine N.obl ⟨by kernel_rfl, by kernel_rfl⟩ ?_ | refine N.alt ?_ | refine N.forkT ?_ | refine N.forkF ?_) | refine N.obl (.plain rfl) ?_ | refine N.obl ⟨⟨_, rfl, id, Nat.le_refl _, fun j hj => absurd hj (Nat.not_lt_zero j)⟩, trivial⟩ ?_ | refine N.obl trivial ?_ | refine N.obl ⟨⟨.inr ⟨_, rfl, rfl⟩, trivial⟩, trivial⟩ ?_ | exact N.true | fail)
theorem cHearNNroom (T : Tbl) (n boot seq now : Int) (ha : argsOK n boot seq now) (hl : T.lives n = none) (hth : dGet (T.E) n = none) (hrm : (T.E).length < T.most) (E' : List (Int × Ent)) (hE' : E' = dPut (T.E) n ⟨n, boot, now, Ent.zero.has, Ent.zero.x, Ent.zero.y, Ent.zero.a, Ent.zero.b, Ent.zero.d, Ent.zero.when_⟩) (i : Nat) (h : List (Option Chunk)) (hi : h[i]? = some (some (tblC T))) :
    CallOK Tryz.prog 6 [.pointer (some ⟨i, 0, some 0⟩), .int .i64 n, .int .i64 boot, .int .i64 seq, .int .i64 now] h (.int .i64 0) [(i, tblC (⟨T.most, E', setL T.lives n ⟨boot, false, ⟨true, seq, 1⟩⟩⟩))] [] := by
  refine call_res (G := tys) (livesOK T.lives) (tblH T) [⟨i, tblC T, tblC T, tblC (⟨T.most, E', setL T.lives n ⟨boot, false, ⟨true, seq, 1⟩⟩⟩)⟩] [] [.pointer (some ⟨0, 0, some 0⟩), .int .i64 n, .int .i64 boot, .int .i64 seq, .int .i64 now] tysOK mixed Tryz.func6 (by rfl) (Tryz.call6) ⟨hi, trivial⟩ ⟨⟨fun h => ⟨rfl, Nat.le_refl _⟩, Nat.le_refl _, fun j hj => absurd hj (Nat.not_lt_zero j)⟩, trivial⟩ (by simp [Apart]) ⟨.inr ⟨rfl, rfl⟩, trivial⟩ trivial ⟨.ptr rfl, .plain rfl, .plain rfl, .plain rfl, .plain rfl, trivial⟩ pack_opens ?_
  intro β hβ
  have hn := ha.1
  have hg := livesOK_none hβ hl
  have hbe : begE T.E n = T.E := by unfold begE; rw [hth]
  subst hE'
  repeat' (refine N.go ?_; first | with_reducible (first | refine N.obl (by decide) ?_ | refine N.eq ?_ | refine N.obl rfl ?_ | refine N.obl ⟨by kernel_rfl, by kernel_rfl⟩ ?_ | refine N.alt ?_ | refine N.forkT ?_ | refine N.forkF ?_) | refine N.call (cTnode _ _) ?_ | refine N.call (cSerMay _ _) ?_ | refine N.call (cTtime _ _) ?_ | refine N.forkNo (by rw [decide_eq_true ha.1]; rfl) ?_ | refine N.forkNo (by rw [decide_eq_true ha.2.1]; rfl) ?_ | refine N.forkNo (by rw [decide_eq_true ha.2.2.1]; rfl) ?_ | refine N.forkNo (by rw [decide_eq_true ha.2.2.2]; rfl) ?_ | fail)
  refine N.go ?_
  refine N.callAll (cBeginNN _ _ _ _ _ _ _ hn hg hth 0 1 2 _ (by rfl) (by rfl) (by rfl) (by decide) 3 (by rfl) (by decide)) fun v ms hR => ?_
  obtain ⟨q, rfl, rfl⟩ := hR
  rw [hbe]
  repeat' (refine N.go ?_; first | with_reducible (first | refine N.obl (by decide) ?_ | refine N.eq ?_ | refine N.obl rfl ?_ | refine N.obl ⟨by kernel_rfl, by kernel_rfl⟩ ?_ | refine N.alt ?_ | refine N.forkT ?_ | refine N.forkF ?_) | refine N_put lifV β.D ⟨boot, false, q⟩ rfl rfl ⟨by omega, by omega⟩ rfl Tryz.underlying59 Tryz.underlying3 ?_ | refine N.call (call_at [.pointer (some ⟨3, 0, some 0⟩), .int .i64 seq] (by rfl) rfl ⟨.ptr, .same _, trivial⟩ (.inr ⟨_, .head _⟩) (cWHear (atX q) Win.zero ⟨true, seq, 1⟩ seq 0 3 (by decide) ha.2.2.1 rfl _ (by rfl))) ?_ | refine N_look entV (T.E) rfl Tryz.underlying58 Tryz.underlying3 Tryz.type42 rfl (.tuple ⟨[entV Ent.zero, .bool false]⟩) (by rw [hth]; rfl) rfl ?_ | refine N_lenM entV (T.E) rfl rfl Tryz.underlying58 ?_ | refine N.forkNo (by rw [decide_eq_false_iff_not]; omega) ?_ | refine N_put entV (T.E) ⟨n, boot, now, Ent.zero.has, Ent.zero.x, Ent.zero.y, Ent.zero.a, Ent.zero.b, Ent.zero.d, Ent.zero.when_⟩ rfl rfl ⟨by omega, by omega⟩ rfl Tryz.underlying58 Tryz.underlying3 ?_ | refine N.forkT ?_ | refine N.forkF ?_ | refine N.forkYes (by decide) ?_ | refine N.forkNo (by decide) ?_ | fail)
  refine N.go ?_
  refine hearClose ⟨T.most, _, setL T.lives n ⟨boot, false, ⟨true, seq, 1⟩⟩⟩ _ β.F q ⟨true, seq, 1⟩ rfl (by rfl) (fun hq => livesOK_new hβ hq _) ?_
  repeat' (refine N.go ?_; first | with_reducible (first | refine N.obl (by decide) ?_ | refine N.eq ?_ | refine N.obl rfl ?_ | refine N.obl ⟨by kernel_rfl, by kernel_rfl⟩ ?_ | refine N.alt ?_ | refine N.forkT ?_ | refine N.forkF ?_) | refine N.obl (.plain rfl) ?_ | refine N.obl ⟨⟨_, rfl, id, Nat.le_refl _, fun j hj => absurd hj (Nat.not_lt_zero j)⟩, trivial⟩ ?_ | refine N.obl trivial ?_ | refine N.obl ⟨⟨.inr ⟨_, rfl, rfl⟩, trivial⟩, trivial⟩ ?_ | exact N.true | fail)
theorem cHearNNfull (T : Tbl) (n boot seq now : Int) (ha : argsOK n boot seq now) (hl : T.lives n = none) (hth : dGet (T.E) n = none) (hrm : T.most ≤ (T.E).length) (hE : (T.E).length ≤ 64) (hpos : 0 < (T.E).length) (E' : List (Int × Ent)) (hE' : E' = dPut (dDel (T.E) (minT (entT (T.E)) (T.E).length).node) n ⟨n, boot, now, Ent.zero.has, Ent.zero.x, Ent.zero.y, Ent.zero.a, Ent.zero.b, Ent.zero.d, Ent.zero.when_⟩) (i : Nat) (h : List (Option Chunk)) (hi : h[i]? = some (some (tblC T))) :
    CallOK Tryz.prog 6 [.pointer (some ⟨i, 0, some 0⟩), .int .i64 n, .int .i64 boot, .int .i64 seq, .int .i64 now] h (.int .i64 0) [(i, tblC (⟨T.most, E', setL T.lives n ⟨boot, false, ⟨true, seq, 1⟩⟩⟩))] [] := by
  refine call_res (G := tys) (livesOK T.lives) (tblH T) [⟨i, tblC T, tblC T, tblC (⟨T.most, E', setL T.lives n ⟨boot, false, ⟨true, seq, 1⟩⟩⟩)⟩] [] [.pointer (some ⟨0, 0, some 0⟩), .int .i64 n, .int .i64 boot, .int .i64 seq, .int .i64 now] tysOK mixed Tryz.func6 (by rfl) (Tryz.call6) ⟨hi, trivial⟩ ⟨⟨fun h => ⟨rfl, Nat.le_refl _⟩, Nat.le_refl _, fun j hj => absurd hj (Nat.not_lt_zero j)⟩, trivial⟩ (by simp [Apart]) ⟨.inr ⟨rfl, rfl⟩, trivial⟩ trivial ⟨.ptr rfl, .plain rfl, .plain rfl, .plain rfl, .plain rfl, trivial⟩ pack_opens ?_
  intro β hβ
  have hn := ha.1
  have hg := livesOK_none hβ hl
  have hbe : begE T.E n = T.E := by unfold begE; rw [hth]
  subst hE'
  repeat' (refine N.go ?_; first | with_reducible (first | refine N.obl (by decide) ?_ | refine N.eq ?_ | refine N.obl rfl ?_ | refine N.obl ⟨by kernel_rfl, by kernel_rfl⟩ ?_ | refine N.alt ?_ | refine N.forkT ?_ | refine N.forkF ?_) | refine N.call (cTnode _ _) ?_ | refine N.call (cSerMay _ _) ?_ | refine N.call (cTtime _ _) ?_ | refine N.forkNo (by rw [decide_eq_true ha.1]; rfl) ?_ | refine N.forkNo (by rw [decide_eq_true ha.2.1]; rfl) ?_ | refine N.forkNo (by rw [decide_eq_true ha.2.2.1]; rfl) ?_ | refine N.forkNo (by rw [decide_eq_true ha.2.2.2]; rfl) ?_ | fail)
  refine N.go ?_
  refine N.callAll (cBeginNN _ _ _ _ _ _ _ hn hg hth 0 1 2 _ (by rfl) (by rfl) (by rfl) (by decide) 3 (by rfl) (by decide)) fun v ms hR => ?_
  obtain ⟨q, rfl, rfl⟩ := hR
  rw [hbe]
  repeat' (refine N.go ?_; first | with_reducible (first | refine N.obl (by decide) ?_ | refine N.eq ?_ | refine N.obl rfl ?_ | refine N.obl ⟨by kernel_rfl, by kernel_rfl⟩ ?_ | refine N.alt ?_ | refine N.forkT ?_ | refine N.forkF ?_) | refine N_put lifV β.D ⟨boot, false, q⟩ rfl rfl ⟨by omega, by omega⟩ rfl Tryz.underlying59 Tryz.underlying3 ?_ | refine N.call (call_at [.pointer (some ⟨3, 0, some 0⟩), .int .i64 seq] (by rfl) rfl ⟨.ptr, .same _, trivial⟩ (.inr ⟨_, .head _⟩) (cWHear (atX q) Win.zero ⟨true, seq, 1⟩ seq 0 3 (by decide) ha.2.2.1 rfl _ (by rfl))) ?_ | refine N_look entV (T.E) rfl Tryz.underlying58 Tryz.underlying3 Tryz.type42 rfl (.tuple ⟨[entV Ent.zero, .bool false]⟩) (by rw [hth]; rfl) rfl ?_ | refine N_lenM entV (T.E) rfl rfl Tryz.underlying58 ?_ | refine N.forkYes (by rw [decide_eq_true_eq]; omega) ?_ | refine N.call (cElder _ true T.most (T.E) (dPut β.D n ⟨boot, false, q⟩) hE hpos 0 1 2 _ (by rfl) (by rfl) (by rfl) (by decide)) ?_ | refine N_del entV (T.E) rfl rfl rfl Tryz.underlying58 Tryz.underlying3 ?_ | refine N_put entV (dDel (T.E) (minT (entT (T.E)) (T.E).length).node) ⟨n, boot, now, Ent.zero.has, Ent.zero.x, Ent.zero.y, Ent.zero.a, Ent.zero.b, Ent.zero.d, Ent.zero.when_⟩ rfl rfl ⟨by omega, by omega⟩ rfl Tryz.underlying58 Tryz.underlying3 ?_ | refine N.forkT ?_ | refine N.forkF ?_ | refine N.forkYes (by decide) ?_ | refine N.forkNo (by decide) ?_ | fail)
  refine N.go ?_
  refine hearClose ⟨T.most, _, setL T.lives n ⟨boot, false, ⟨true, seq, 1⟩⟩⟩ _ β.F q ⟨true, seq, 1⟩ rfl (by rfl) (fun hq => livesOK_new hβ hq _) ?_
  repeat' (refine N.go ?_; first | with_reducible (first | refine N.obl (by decide) ?_ | refine N.eq ?_ | refine N.obl rfl ?_ | refine N.obl ⟨by kernel_rfl, by kernel_rfl⟩ ?_ | refine N.alt ?_ | refine N.forkT ?_ | refine N.forkF ?_) | refine N.obl (.plain rfl) ?_ | refine N.obl ⟨⟨_, rfl, id, Nat.le_refl _, fun j hj => absurd hj (Nat.not_lt_zero j)⟩, trivial⟩ ?_ | refine N.obl trivial ?_ | refine N.obl ⟨⟨.inr ⟨_, rfl, rfl⟩, trivial⟩, trivial⟩ ?_ | exact N.true | fail)
end Go.Proofs.YtimccfnlcnlffaaGreat


namespace Go.Proofs.YtimccfnlcnlffaaGreat
open Go Go.RowKit Sx
instance (n boot seq now : Int) : Decidable (argsOK n boot seq now) := by unfold argsOK; infer_instance
structure TOK (T : Tbl) : Prop where
  most : 1 ≤ T.most ∧ T.most ≤ 64
  len : T.E.length ≤ T.most
  seen : ∀ n l, T.lives n = some l → l.W.seen < 18446744073709551616
def Tbl.win (T : Tbl) (n boot now : Int) (E : List (Int × Ent)) (W : Win) : Tbl := ⟨T.most, heardE T.most E n boot now, setL T.lives n ⟨boot, false, W⟩⟩
def hearT (T : Tbl) (n boot seq now : Int) : Int × Tbl :=
  if argsOK n boot seq now then
    match T.lives n with
    | none => (0, T.win n boot now (begE T.E n) ⟨true, seq, 1⟩)
    | some l =>
      if l.boot = boot then
        if l.left = true then (9, T)
        else if (whear l.W seq).1 = 0 then (0, T.win n boot now T.E (whear l.W seq).2)
        else (9, ⟨T.most, T.E, setL T.lives n ⟨boot, false, (whear l.W seq).2⟩⟩)
      else if 0 < serD l.boot boot ∧ serD l.boot boot < 32768 then (0, T.win n boot now (begE T.E n) ⟨true, seq, 1⟩)
      else (9, T)
  else (1, T)
theorem whear_err (W : Win) (q : Int) : (whear W q).1 = 0 ∨ (whear W q).1 = 9 := by
  unfold whear
  split
  · exact .inl rfl
  split
  · exact .inr rfl
  split
  · exact .inl rfl
  split
  · exact .inr rfl
  · exact .inl rfl
theorem whear_seen (W : Win) (q : Int) (h : W.seen < 18446744073709551616) : (whear W q).2.seen < 18446744073709551616 := by
  unfold whear
  split
  · show 1 < _; decide
  split
  · exact h
  split
  · exact Nat.or_lt_two_pow (n := 64) (Nat.mod_lt _ (by decide)) (by decide)
  split
  · exact h
  · exact Nat.or_lt_two_pow (n := 64) h (bitW_lt _ _)
theorem len_put {α : Type} (D : List (Int × α)) (k : Int) (a : α) : (dPut D k a).length = if dGet D k = none then D.length + 1 else D.length := by
  unfold dPut
  cases hg : dGet D k with
  | none => simp
  | some b => simp
theorem len_del_le {α : Type} (D : List (Int × α)) (k : Int) : (dDel D k).length ≤ D.length := List.length_filter_le _ _
theorem heard_there {most : Int} {E : List (Int × Ent)} {n boot now : Int} {e : Ent} (h : dGet E n = some e) : heardE most E n boot now = dPut E n ⟨n, boot, now, e.has, e.x, e.y, e.a, e.b, e.d, e.when_⟩ := by
  unfold heardE
  rw [if_neg (by rw [h]; simp), h]; rfl
theorem heard_room {most : Int} {E : List (Int × Ent)} {n boot now : Int} (h : dGet E n = none) (hl : (E.length : Int) < most) : heardE most E n boot now = dPut E n ⟨n, boot, now, false, 0, 0, 0, 0, 0, 0⟩ := by
  unfold heardE
  rw [if_neg (by omega), h]; rfl
theorem heard_full {most : Int} {E : List (Int × Ent)} {n boot now : Int} (h : dGet E n = none) (hl : most ≤ (E.length : Int)) : heardE most E n boot now = dPut (dDel E (minT (entT E) E.length).node) n ⟨n, boot, now, false, 0, 0, 0, 0, 0, 0⟩ := by
  unfold heardE
  rw [if_pos ⟨h, hl⟩, h]; rfl
theorem beg_len (E : List (Int × Ent)) (n : Int) : (begE E n).length = E.length := by
  unfold begE
  cases h : dGet E n with
  | none => rfl
  | some e => simp only; rw [len_put, h]; simp
theorem beg_none {E : List (Int × Ent)} {n : Int} (h : dGet E n = none) : begE E n = E := by unfold begE; rw [h]
theorem beg_some {E : List (Int × Ent)} {n : Int} {e : Ent} (h : dGet E n = some e) : begE E n = dPut E n ⟨n, e.boot, e.heard, false, 0, 0, 0, 0, 0, 0⟩ := by unfold begE; rw [h]
theorem cHear (T : Tbl) (ok : TOK T) (n boot seq now e : Int) (T' : Tbl) (he : hearT T n boot seq now = (e, T')) (i : Nat) (h : List (Option Chunk)) (hi : h[i]? = some (some (tblC T))) :
    CallOK Tryz.prog 6 [.pointer (some ⟨i, 0, some 0⟩), .int .i64 n, .int .i64 boot, .int .i64 seq, .int .i64 now] h (.int .i64 e) [(i, tblC T')] [] := by
  obtain ⟨m1, m2⟩ := ok.most
  have hlen := ok.len
  have hl64 : T.E.length ≤ 64 := by omega
  unfold hearT at he
  by_cases ha : argsOK n boot seq now
  · rw [if_pos ha] at he
    cases hl : T.lives n with
    | none =>
      rw [hl] at he
      obtain ⟨rfl, rfl⟩ := Prod.mk.inj he
      unfold Tbl.win
      cases hE : dGet T.E n with
      | some e0 => rw [beg_some hE]; exact cHearNYthere T n boot seq now ha hl e0 hE _ (heard_there (dGet_put_same _ _ _)) i h hi
      | none =>
        rw [beg_none hE]
        by_cases hr : (T.E.length : Int) < T.most
        · exact cHearNNroom T n boot seq now ha hl hE hr _ (heard_room hE hr) i h hi
        · exact cHearNNfull T n boot seq now ha hl hE (by omega) hl64 (by omega) _ (heard_full hE (by omega)) i h hi
    | some l =>
      rw [hl] at he
      simp only at he
      have hs := ok.seen n l hl
      by_cases hb : l.boot = boot
      · rw [if_pos hb] at he
        cases hlf : l.left with
        | true =>
          rw [if_pos hlf] at he
          obtain ⟨rfl, rfl⟩ := Prod.mk.inj he
          exact cHearA T n boot seq now ha l hl hb hlf i h hi
        | false =>
          rw [if_neg (by rw [hlf]; decide)] at he
          obtain ⟨e1, W1, hw⟩ : ∃ e1 W1, whear l.W seq = (e1, W1) := ⟨_, _, rfl⟩
          have herr := whear_err l.W seq
          rw [hw] at he herr
          simp only at he herr
          rcases herr with rfl | rfl
          · rw [if_pos rfl] at he
            obtain ⟨rfl, rfl⟩ := Prod.mk.inj he
            unfold Tbl.win
            cases hE : dGet T.E n with
            | some e0 => exact cHearKthere T n boot seq now ha l hl hb hlf hs W1 hw e0 hE _ (heard_there hE) i h hi
            | none =>
              by_cases hr : (T.E.length : Int) < T.most
              · exact cHearKroom T n boot seq now ha l hl hb hlf hs W1 hw hE hr _ (heard_room hE hr) i h hi
              · exact cHearKfull T n boot seq now ha l hl hb hlf hs W1 hw hE (by omega) hl64 (by omega) _ (heard_full hE (by omega)) i h hi
          · rw [if_neg (by decide)] at he
            obtain ⟨rfl, rfl⟩ := Prod.mk.inj he
            exact cHearDup T n boot seq now ha l hl hb hlf hs W1 hw i h hi
      · rw [if_neg hb] at he
        by_cases hsd : 0 < serD l.boot boot ∧ serD l.boot boot < 32768
        · rw [if_pos hsd] at he
          obtain ⟨rfl, rfl⟩ := Prod.mk.inj he
          unfold Tbl.win
          cases hE : dGet T.E n with
          | some e0 => rw [beg_some hE]; exact cHearOYthere T n boot seq now ha l hl hb hsd e0 hE _ (heard_there (dGet_put_same _ _ _)) i h hi
          | none =>
            rw [beg_none hE]
            by_cases hr : (T.E.length : Int) < T.most
            · exact cHearONroom T n boot seq now ha l hl hb hsd hE hr _ (heard_room hE hr) i h hi
            · exact cHearONfull T n boot seq now ha l hl hb hsd hE (by omega) hl64 (by omega) _ (heard_full hE (by omega)) i h hi
        · rw [if_neg hsd] at he
          obtain ⟨rfl, rfl⟩ := Prod.mk.inj he
          exact cHearC T n boot seq now ha l hl hb hsd i h hi
  · rw [if_neg ha] at he
    obtain ⟨rfl, rfl⟩ := Prod.mk.inj he
    exact cHearArg T n boot seq now ha i h hi
structure EOK (E : List (Int × Ent)) : Prop where
  nodup : (E.map (·.1)).Nodup
  key : ∀ k e, dGet E k = some e → e.node = k
theorem put_nodup {α : Type} {D : List (Int × α)} {k : Int} {a : α} (h : (D.map (·.1)).Nodup) : ((dPut D k a).map (·.1)).Nodup := by
  unfold dPut
  cases hg : dGet D k with
  | none =>
    simp only [List.map_append, List.map_cons, List.map_nil]
    refine List.nodup_append.2 ⟨h, by simp, fun x hx y hy e => ?_⟩
    simp only [List.mem_singleton] at hy
    obtain ⟨q, hq, rfl⟩ := List.mem_map.1 hx
    exact dGet_none.1 hg q hq (e.trans hy)
  | some b =>
    simp only [List.map_map]
    have : (fun q : Int × α => (if q.1 = k then (k, a) else q).1) = fun q => q.1 := by
      funext q
      by_cases e : q.1 = k
      · rw [if_pos e, e]
      · rw [if_neg e]
    simpa [Function.comp_def, this] using h
theorem del_nodup {α : Type} {D : List (Int × α)} {k : Int} (h : (D.map (·.1)).Nodup) : ((dDel D k).map (·.1)).Nodup := (List.filter_sublist.map _).nodup h
theorem EOK.put {E : List (Int × Ent)} (h : EOK E) (e : Ent) : EOK (dPut E e.node e) := ⟨put_nodup h.nodup, fun k x hx => by
  by_cases hk : k = e.node
  · subst hk; rw [dGet_put_same] at hx; obtain rfl : e = x := by simpa using hx
    rfl
  · rw [dGet_put_ne _ _ hk] at hx; exact h.key k x hx⟩
theorem EOK.del {E : List (Int × Ent)} (h : EOK E) (n : Int) : EOK (dDel E n) := ⟨del_nodup h.nodup, fun k x hx => by
  by_cases hk : k = n
  · subst hk; rw [dGet_del_same] at hx; cases hx
  · rw [dGet_del_ne _ hk] at hx; exact h.key k x hx⟩
theorem EOK.nil : EOK [] := ⟨List.nodup_nil, fun k e h => by simp [dGet] at h⟩
theorem EOK.beg {E : List (Int × Ent)} (h : EOK E) (n : Int) : EOK (begE E n) := by
  cases hg : dGet E n with
  | none => rw [beg_none hg]; exact h
  | some e => rw [beg_some hg]; exact h.put ⟨n, e.boot, e.heard, false, 0, 0, 0, 0, 0, 0⟩
theorem minT_mem (T : Nat → Ent) : ∀ n, 1 ≤ n → ∃ j, j < n ∧ minT T n = T j
  | 0, h => absurd h (by decide)
  | 1, _ => ⟨0, by decide, rfl⟩
  | r + 2, _ => by
    obtain ⟨j, hj, e⟩ := minT_mem T (r + 1) (by omega)
    rw [minT_step T (r + 1) (by omega)]
    split
    · exact ⟨r + 1, by omega, rfl⟩
    · exact ⟨j, by omega, e⟩
theorem entT_at {E : List (Int × Ent)} {j : Nat} (h : j < E.length) : ∃ k e, (sortK E)[j]? = some k ∧ dGet E k = some e ∧ entT E j = e := by
  obtain ⟨k, hk, e0, he0⟩ := sortK_get h
  obtain ⟨e, he⟩ := dGet_has he0
  exact ⟨k, e, hk, he, entT_in hk he⟩
theorem elder_in {E : List (Int × Ent)} (h : EOK E) (hp : 0 < E.length) : ∃ e, dGet E (minT (entT E) E.length).node = some e ∧ minT (entT E) E.length = e := by
  obtain ⟨j, hj, e1⟩ := minT_mem (entT E) E.length hp
  obtain ⟨k, e, _, he, e2⟩ := entT_at hj
  rw [e1, e2, h.key k e he]; exact ⟨e, he, rfl⟩
theorem del_len {α : Type} {D : List (Int × α)} {k : Int} {a : α} (h : dGet D k = some a) : (dDel D k).length < D.length := by
  have hm := dGet_some h
  induction D with
  | nil => cases hm
  | cons q D ih =>
    unfold dDel
    rw [List.filter_cons]
    by_cases e : q.1 = k
    · rw [if_neg (by simp [e])]
      have := len_del_le D k
      unfold dDel at this
      simp only [List.length_cons]; omega
    · rw [if_pos (by simp [e])]
      have h' : dGet D k = some a := by
        unfold dGet at h ⊢
        rw [List.find?_cons] at h
        simpa [e] using h
      have := ih h' (dGet_some h')
      unfold dDel at this
      simp only [List.length_cons]; omega
theorem heard_ok {most : Int} {E : List (Int × Ent)} (h : EOK E) (n boot now : Int) : EOK (heardE most E n boot now) := by
  unfold heardE
  split
  · exact (h.del _).put { (dGet E n).getD Ent.zero with node := n, boot := boot, heard := now }
  · exact h.put { (dGet E n).getD Ent.zero with node := n, boot := boot, heard := now }
theorem heard_len {most : Int} {E : List (Int × Ent)} (h : EOK E) (n boot now : Int) (hm : 1 ≤ most) (hl : (E.length : Int) ≤ most) : ((heardE most E n boot now).length : Int) ≤ most := by
  cases hg : dGet E n with
  | some e => rw [heard_there hg, len_put, if_neg (by rw [hg]; simp)]; exact hl
  | none =>
    by_cases hr : (E.length : Int) < most
    · rw [heard_room hg hr, len_put, if_pos hg]; omega
    · rw [heard_full hg (by omega)]
      obtain ⟨e, he, _⟩ := elder_in h (by omega)
      have h1 := del_len he
      rw [len_put]
      split <;> omega
theorem hearT_ok {T T' : Tbl} {n boot seq now e : Int} (ok : TOK T) (hk : EOK T.E) (he : hearT T n boot seq now = (e, T')) : TOK T' ∧ EOK T'.E ∧ T'.most = T.most := by
  obtain ⟨m1, m2⟩ := ok.most
  have win : ∀ E W, EOK E → (E.length : Int) ≤ T.most → W.seen < 18446744073709551616 → TOK (T.win n boot now E W) ∧ EOK (T.win n boot now E W).E ∧ (T.win n boot now E W).most = T.most := fun E W hE hl hW => by
    refine ⟨⟨ok.most, heard_len hE n boot now m1 hl, fun m l hl' => ?_⟩, heard_ok hE n boot now, rfl⟩
    unfold Tbl.win setL at hl'
    simp only at hl'
    split at hl'
    · obtain rfl : _ = l := by simpa using hl'
      exact hW
    · exact ok.seen m l hl'
  have hb : ((begE T.E n).length : Int) ≤ T.most := by rw [beg_len]; exact ok.len
  unfold hearT at he
  split at he
  · split at he
    · obtain ⟨rfl, rfl⟩ := Prod.mk.inj he
      exact win _ _ (hk.beg n) hb (by show 1 < _; decide)
    · rename_i l hl
      have hs := ok.seen n l hl
      split at he
      · split at he
        · obtain ⟨rfl, rfl⟩ := Prod.mk.inj he; exact ⟨ok, hk, rfl⟩
        · split at he
          · obtain ⟨rfl, rfl⟩ := Prod.mk.inj he
            exact win _ _ hk ok.len (whear_seen _ _ hs)
          · obtain ⟨rfl, rfl⟩ := Prod.mk.inj he
            refine ⟨⟨ok.most, ok.len, fun m l' hl' => ?_⟩, hk, rfl⟩
            unfold setL at hl'
            simp only at hl'
            split at hl'
            · obtain rfl : _ = l' := by simpa using hl'
              exact whear_seen _ _ hs
            · exact ok.seen m l' hl'
      · split at he
        · obtain ⟨rfl, rfl⟩ := Prod.mk.inj he
          exact win _ _ (hk.beg n) hb (by show 1 < _; decide)
        · obtain ⟨rfl, rfl⟩ := Prod.mk.inj he; exact ⟨ok, hk, rfl⟩
  · obtain ⟨rfl, rfl⟩ := Prod.mk.inj he; exact ⟨ok, hk, rfl⟩
theorem new_ok (most : Int) : TOK (Tbl.new most) ∧ EOK (Tbl.new most).E := ⟨⟨by unfold Tbl.new; simp only; omega, by unfold Tbl.new; simp only [List.length_nil]; omega, fun n l h => by cases h⟩, EOK.nil⟩
end Go.Proofs.YtimccfnlcnlffaaGreat


namespace Go.Proofs.YtimccfnlcnlffaaGreat
open Go Go.RowKit Sx
theorem rdf_en {o : Bool} {c p n : Nat} {T : Nat → Ent} {v : Value} (i k : Nat) (h : i < c) (hk : k < 10) (e : p = i * 10 + k) (hv : encell (T i) k = v) (h1 : v.oneCell' = true) : Reads (enC o c T) p false n v := by
  subst e
  refine ⟨by show i * 10 + k < c * 10; omega, h1, ?_⟩
  rw [enC_f (by omega), show (i * 10 + k) / 10 = i from by omega, show (i * 10 + k) % 10 = k from by omega]
  exact hv
theorem hear_new {T : Tbl} {n boot seq now : Int} (ha : argsOK n boot seq now) (hl : T.lives n = none) (hE : dGet T.E n = none) : hearT T n boot seq now = (0, T.win n boot now T.E ⟨true, seq, 1⟩) := by
  unfold hearT; rw [if_pos ha, hl, beg_none hE]
theorem sortK_one {α : Type} (k : Int) (a : α) : sortK [(k, a)] = [k] := by simp [sortK]
theorem awk : ∃ T1 T2 T3 : Tbl, ∃ e : Ent, hearT (Tbl.new 1) 3 0 0 5 = (0, T1) ∧ hearT T1 4 0 0 6 = (0, T2) ∧ hearT T2 3 0 0 7 = (9, T3) ∧ T3.E = [(4, e)] ∧ e.node = 4 := by
  have n1 : hearT (Tbl.new 1) 3 0 0 5 = (0, (Tbl.new 1).win 3 0 5 [] ⟨true, 0, 1⟩) := hear_new (by decide) rfl rfl
  have e1 : ((Tbl.new 1).win 3 0 5 [] ⟨true, 0, 1⟩).E = [(3, ⟨3, 0, 5, false, 0, 0, 0, 0, 0, 0⟩)] := by
    show heardE (Tbl.new 1).most [] 3 0 5 = _
    rw [heard_room rfl (by decide)]; rfl
  generalize hT1 : (Tbl.new 1).win 3 0 5 [] ⟨true, 0, 1⟩ = T1 at n1 e1
  have m1 : T1.most = 1 := by rw [← hT1]; rfl
  have l1 : T1.lives 3 = some ⟨0, false, ⟨true, 0, 1⟩⟩ := by rw [← hT1]; rfl
  have l1' : T1.lives 4 = none := by rw [← hT1]; rfl
  have n2 : hearT T1 4 0 0 6 = (0, T1.win 4 0 6 T1.E ⟨true, 0, 1⟩) := hear_new (by decide) l1' (by rw [e1]; rfl)
  have e2 : (T1.win 4 0 6 T1.E ⟨true, 0, 1⟩).E = [(4, ⟨4, 0, 6, false, 0, 0, 0, 0, 0, 0⟩)] := by
    show heardE T1.most T1.E 4 0 6 = _
    rw [m1, e1, heard_full (by rfl) (by decide)]
    have hm : minT (entT [((3 : Int), (⟨3, 0, 5, false, 0, 0, 0, 0, 0, 0⟩ : Ent))]) 1 = ⟨3, 0, 5, false, 0, 0, 0, 0, 0, 0⟩ := entT_in (k := 3) (by rw [sortK_one]; rfl) rfl
    show dPut (dDel _ (minT (entT _) 1).node) 4 _ = _
    rw [hm]; rfl
  generalize hT2 : T1.win 4 0 6 T1.E ⟨true, 0, 1⟩ = T2 at n2 e2
  have l2 : T2.lives 3 = some ⟨0, false, ⟨true, 0, 1⟩⟩ := by rw [← hT2]; exact l1
  have n3 : hearT T2 3 0 0 7 = (9, ⟨T2.most, T2.E, setL T2.lives 3 ⟨0, false, ⟨true, 0, 1⟩⟩⟩) := by
    have hw : whear ⟨true, 0, 1⟩ 0 = (9, ⟨true, 0, 1⟩) := by rfl
    unfold hearT
    rw [if_pos (by decide), l2]
    simp only [hw]
    rfl
  exact ⟨T1, T2, _, _, n1, n2, n3, e2, rfl⟩
theorem awake_x   (w : World) : Calls Tryz.prog 19 #[] w fun e w' => e = .returned (.bool true) ∧ Below w.heap.size w w' := by
  obtain ⟨T1, T2, T3, e, n1, n2, n3, e3, en⟩ := awk
  obtain ⟨k0, q0⟩ := new_ok 1
  obtain ⟨k1, q1, _⟩ := hearT_ok k0 q0 n1
  obtain ⟨k2, q2, _⟩ := hearT_ok k1 q1 n2
  obtain ⟨k3, q3, _⟩ := hearT_ok k2 q2 n3
  refine calls_pure (G := tys) w tysOK mixed Tryz.func19 (by rfl) (by first | rfl | (simp only [List.all_cons, List.all_nil, plain_wz, plain_lim, plain_wi]; rfl)) (by first | exact plain3_wz _ | exact plain3_wi _ _ _ | rfl | (simp only [plain3, List.all_cons, List.all_nil, plain_wz, plain_lim, plain_wi]; rfl)) ?_
  repeat' (refine N.go ?_; first | with_reducible (first | refine N.obl (by decide) ?_ | refine N.eq ?_ | refine N.obl rfl ?_ | refine N.obl ⟨by kernel_rfl, by kernel_rfl⟩ ?_ | refine N.alt ?_ | refine N.forkT ?_ | refine N.forkF ?_) | refine N.call (cNewT 1 0 _ (by rfl)) ?_ | refine N.call (cHear _ k0 3 0 0 5 0 _ n1 0 _ (by rfl)) ?_ | refine N.call (cHear _ k1 4 0 0 6 0 _ n2 0 _ (by rfl)) ?_ | refine N.call (cHear _ k2 3 0 0 7 9 _ n3 0 _ (by rfl)) ?_ | fail)
  refine N.go ?_
  have hl3 : T3.E.length = 1 := by rw [e3]; rfl
  refine N.callAll (cAllT T3 (by omega) 0 1 _ (by rfl) (by rfl)) fun v ms hR => ?_
  rcases hR with ⟨hE0, _, _⟩ | ⟨cap, _, hcap, rfl, rfl⟩
  · rw [e3] at hE0; cases hE0
  rw [hl3]
  repeat' (refine N.go ?_; first | with_reducible (first | refine N.obl (by decide) ?_ | refine N.eq ?_ | refine N.obl rfl ?_ | refine N.obl ⟨by kernel_rfl, by kernel_rfl⟩ ?_ | refine N.alt ?_ | refine N.forkT ?_ | refine N.forkF ?_) | refine N.forkYes (by decide) ?_ | refine N.forkNo (by decide) ?_ | fail)
  refine N.go ?_
  refine N.idx 0 1 rfl (by decide) ?_
  repeat' (refine N.go ?_; first | with_reducible (first | refine N.obl (by decide) ?_ | refine N.eq ?_ | refine N.obl rfl ?_ | refine N.obl ⟨by kernel_rfl, by kernel_rfl⟩ ?_ | refine N.alt ?_ | refine N.forkT ?_ | refine N.forkF ?_) | refine N.forkYes (by decide) ?_ | refine N.forkNo (by decide) ?_ | fail)
  refine N.go ?_
  have he : entT T3.E 0 = e := by rw [e3]; exact entT_in (k := 4) (by rw [sortK_one]; rfl) rfl
  refine N.load (.int .i64 4) (rdf_en 0 0 (by omega) (by decide) rfl (by show Value.int .i64 (if 0 < 1 then entT T3.E 0 else Ent.zero).node = _; rw [if_pos (by decide), he, en]) rfl) ?_
  repeat' (refine N.go ?_; first | with_reducible (first | refine N.obl (by decide) ?_ | refine N.eq ?_ | refine N.obl rfl ?_ | refine N.obl ⟨by kernel_rfl, by kernel_rfl⟩ ?_ | refine N.alt ?_ | refine N.forkT ?_ | refine N.forkF ?_) | refine N.forkYes (by decide) ?_ | refine N.forkNo (by decide) ?_ | fail)
  all_goals rfl
theorem cAwake (h : List (Option Chunk)) : CallOK Tryz.prog 19 [] h (.bool true) [] [] := call_pure rfl rfl (Tryz.call19 _) awake_x
end Go.Proofs.YtimccfnlcnlffaaGreat


namespace Go.Proofs.YtimccfnlcnlffaaGreat
open Go Go.RowKit Sx
def ricell (x : Int) : Nat → Value
  | _ => .int .i64 x
theorem ricell_plain (x : Int) (k : Nat) : plain1 (ricell x k) = true := by unfold ricell; split <;> rfl
theorem ricell_in (x : Int) {k : Nat} (h : k < 1) : cellIn (.agg #[.int .i64 x]) k = ricell x k := by
  match k, h with
  | 0, _ => rfl
theorem ricell_zero (j : Nat) : repZ 1 (.agg #[.int .i64 0]) j = ricell (0) (j % 1) := by
  unfold repZ
  have h : j % 1 < 1 := Nat.mod_lt _ (by decide)
  generalize j % 1 = k at h
  match k, h with
  | 0, _ => rfl
abbrev riC (o : Bool) (c : Nat) (T : Nat → Int) : Chunk := ⟨o, c * 1, [(0, c * 1, .agg ⟨segL (c * 1) (fun j => ricell (T (j / 1)) (j % 1))⟩)]⟩
theorem riC_f {o : Bool} {c j : Nat} {T : Nat → Int} (h : j < c * 1) : (riC o c T).f j = ricell (T (j / 1)) (j % 1) := seg_cell h
theorem riC_re {ix : List (Nat × Nat)} {o o' : Bool} {c : Nat} {T T' : Nat → Int} (h : ∀ i, i < c → T i = T' i) : ChunkRe ix (riC o c T) (riC o' c T') := fun j hj => by
  have hj : j < c * 1 := hj
  rw [seg_cell hj, seg_cell hj, h (j / 1) (by omega)]; exact .plain (ricell_plain _ _)
theorem riC_post {ix : List (Nat × Nat)} {c : Nat} {T T' : Nat → Int} {hp : List (Option Chunk)} {n : Nat} (h : ∀ i, i < c → T i = T' i) (hh : hp[n]? = some (some (riC true c T'))) : PostC ix hp n (riC true c T) := ⟨_, hh, id, Nat.le_refl _, riC_re h⟩
theorem riC_ren {ix : List (Nat × Nat)} {c : Nat} {T T' : Nat → Int} (h : ∀ i, i < c → T i = T' i) : ChunkReLe ix (riC true c T) (riC true c T') := ⟨id, Nat.le_refl _, riC_re h⟩
def setri (T : Nat → Int) (l : Nat) (x : Int) (i : Nat) : Int := if i = l then x else T i
theorem wr_ri {c l p : Nat} {T : Nat → Int} {x : Int} (h : l < c) (e : p = l * 1) : Writes (riC true c T) p (1 * 1) (.agg #[.int .i64 x]) (riC true c (setri T l x)) := by
  subst e
  refine ⟨rfl, by show l * 1 + 1 * 1 ≤ c * 1; omega, rfl, fun j hj => ?_⟩
  have hj : j < c * 1 := hj
  rw [seg_cell hj, seg_cell hj]
  unfold setri
  by_cases e : l * 1 ≤ j ∧ j < l * 1 + 1 * 1
  · rw [if_pos e, if_pos (by omega), ricell_in _ (by omega)]
    congr 1; omega
  · rw [if_neg e, if_neg (by omega)]
def growri (T : Nat → Int) (l : Nat) (x : Int) (i : Nat) : Int := if i < l then T i else if i = l then x else 0
theorem grown_ri {ci : Chunk} {l cap : Nat} {T : Nat → Int} {x : Int} (h : l < cap) (hc : ∀ j, j < l * 1 → ci.f j = ricell (T (j / 1)) (j % 1)) {j : Nat} (hj : j < cap * 1) : (grown ci l 1 1 (.agg #[.int .i64 x]) (.agg #[.int .i64 0]) cap).f j = ricell (growri T l x (j / 1)) (j % 1) := by
  unfold growri
  by_cases h1 : j < l * 1
  · rw [grown_old h1, if_pos (by omega)]; exact hc j h1
  · rw [if_neg (by omega)]
    by_cases h2 : j < (l + 1) * 1
    · have := grown_new (ci := ci) (l := l) (m := 1) (size := 1) (cap := cap) (v := .agg #[.int .i64 x]) (z := .agg #[.int .i64 0]) (j := j - l * 1) (by omega)
      rw [show l * 1 + (j - l * 1) = j from by omega] at this
      rw [this, if_pos (by omega), ricell_in _ (by omega)]
      congr 1; omega
    · rw [grown_zero (by omega) hj, if_neg (by omega)]; exact ricell_zero j
theorem grownri_ren {ix : List (Nat × Nat)} {ci : Chunk} {l cap : Nat} {T T' : Nat → Int} {x : Int} (h : l < cap) (hc : ∀ j, j < l * 1 → ci.f j = ricell (T (j / 1)) (j % 1)) (he : ∀ i, i < cap → T' i = growri T l x i) : ChunkReLe ix (riC true cap T') (grown ci l 1 1 (.agg #[.int .i64 x]) (.agg #[.int .i64 0]) cap) :=
  ⟨fun _ => rfl, by show cap * 1 ≤ cap * 1; omega, fun j hj => by
    have hj : j < cap * 1 := hj
    rw [seg_cell hj, grown_ri h hc hj, he _ (by omega)]; exact .plain (ricell_plain _ _)⟩
abbrev rl (R : List Int) (c : Nat) : Chunk := riC true c (fun i => R.getD i 0)
theorem seti_rl (S : List Int) (x : Int) : setri (fun i => S.getD i 0) S.length x = fun i => (S ++ [x]).getD i 0 := by
  funext i
  unfold setri
  by_cases h : i = S.length
  · rw [if_pos h]; simp [h]
  · rw [if_neg h]
    by_cases h2 : i < S.length
    · simp [List.getD_eq_getElem?_getD, List.getElem?_append_left h2]
    · simp [List.getD_eq_getElem?_getD, List.getElem?_eq_none (l := S) (i := i) (by omega), List.getElem?_eq_none (l := S ++ [x]) (i := i) (by simp; omega)]
theorem growi_rl (S : List Int) (x : Int) (i : Nat) : (S ++ [x]).getD i 0 = growri (fun i => S.getD i 0) S.length x i := by
  rw [← congrFun (seti_rl S x) i]
  unfold setri growri
  by_cases h : i < S.length
  · rw [if_neg (by omega), if_pos h]
  · rw [if_neg h]
    by_cases h2 : i = S.length
    · rw [if_pos h2, if_pos h2]
    · rw [if_neg h2, if_neg h2]; simp [List.getD_eq_getElem?_getD, List.getElem?_eq_none (l := S) (i := i) (by omega)]
theorem rl_ren {ix : List (Nat × Nat)} {S S' : List Int} {c : Nat} (e : S' = S) : ChunkReLe ix (rl S' c) (rl S c) := by subst e; exact riC_ren fun _ _ => rfl
theorem set_ren {ix : List (Nat × Nat)} {S S' : List Int} {x : Int} {c : Nat} (e : S' = S ++ [x]) : ChunkReLe ix (rl S' c) (riC true c (setri (fun i => S.getD i 0) S.length x)) := by subst e; rw [seti_rl]; exact riC_ren fun _ _ => rfl
theorem grow_ren {ix : List (Nat × Nat)} {S S' : List Int} {x : Int} {c cap : Nat} (e : S' = S ++ [x]) (h : S.length < cap) (hc : S.length ≤ c) : ChunkReLe ix (rl S' cap) (grown (rl S c) S.length 1 1 (.agg #[.int .i64 x]) (.agg #[.int .i64 0]) cap) := by
  subst e
  exact grownri_ren h (fun j hj => riC_f (by omega)) fun i _ => growi_rl S x i
theorem sl_ren {ix : List (Nat × Nat)} {i j l l' c : Nat} (e : l' = l) (h : ixK ix i = some j) : Re ix (.slice (some ⟨j, 0, some 0⟩) l' c) (.slice (some ⟨i, 0, some 0⟩) l c) := by subst e; exact .one (.slice h)
def evP (now silent : Int) (x : Ent) : Bool := decide (max 1 silent ≤ now) && decide (x.heard ≤ now - max 1 silent)
def evL (E : List (Int × Ent)) (p : Ent → Bool) : Nat → List Int
  | 0 => []
  | r + 1 => if p (entT E r) = true then evL E p r ++ [(entT E r).node] else evL E p r
def evE (E : List (Int × Ent)) (p : Ent → Bool) : Nat → List (Int × Ent)
  | 0 => E
  | r + 1 => if p (entT E r) = true then dDel (evE E p r) (entT E r).node else evE E p r
theorem evL_le (E : List (Int × Ent)) (p : Ent → Bool) : ∀ r, (evL E p r).length ≤ r
  | 0 => Nat.le_refl _
  | r + 1 => by
    unfold evL
    split
    · rw [List.length_append]; have := evL_le E p r; simp only [List.length_cons, List.length_nil]; omega
    · have := evL_le E p r; omega
def Tbl.ev (T : Tbl) (now silent : Int) : Tbl := ⟨T.most, evE T.E (evP now silent) T.E.length, T.lives⟩
def evictL (T : Tbl) (now silent : Int) : List Int := evL T.E (evP now silent) T.E.length
def evR (T' : Tbl) (L : List Int) (i k : Nat) (v : Value) (ms : List (Nat × Chunk)) : Prop :=
  (L = [] ∧ v = .slice none 0 0 ∧ ms = [(i, tblC T')]) ∨ ∃ cap, 0 < L.length ∧ L.length ≤ cap ∧ v = .slice (some ⟨k, 0, some 0⟩) L.length cap ∧ ms = [(i, tblC T'), (k, rl L cap)]
def silV (silent : Int) (r : Nat) : Int := if r = 0 then silent else max 1 silent
theorem max_sil (silent : Int) (r : Nat) : max 1 (silV silent r) = max 1 silent := by unfold silV; split <;> omega
theorem rd_alle {E : List (Int × Ent)} {n cap r p m : Nat} (hr : r < n) (hc : n ≤ cap) (hm : m = 10) (hp : p = r * 10) : Reads (enC true cap (fun i => if i < n then entT E i else Ent.zero)) p true m (entV (entT E r)) := by
  have h := rd_en (o := true) (c := cap) (T := fun i => if i < n then entT E i else Ent.zero) r hm (by omega) hp
  simp only [if_pos hr] at h; exact h
theorem rl_safe {c : Nat} {S : List Int} {h : List (Option Chunk)} {j : Nat} (hj : j < c * 1) : Safe1 h ((rl S c).f j) := by
  rw [riC_f hj]; trivial
theorem grow0_ren {ix : List (Nat × Nat)} {S' : List Int} {x : Int} {cap : Nat} (e : S' = [] ++ [x]) (h : 0 < cap) : ChunkReLe ix (rl S' cap) (grown ⟨true, 0, []⟩ 0 1 1 (.agg #[.int .i64 x]) (.agg #[.int .i64 0]) cap) := by
  subst e
  exact grownri_ren (T := fun _ => 0) h (fun j hj => absurd hj (by omega)) fun i _ => growi_rl [] x i
inductive EvS where
  | no (r : Nat)
  | yes (r c : Nat)
def EvS.r : EvS → Nat
  | .no r => r
  | .yes r _ => r
def evOK (T : Tbl) (now silent : Int) : EvS → Prop
  | .no r => r ≤ T.E.length ∧ evL T.E (evP now silent) r = []
  | .yes r c => r ≤ T.E.length ∧ 0 < (evL T.E (evP now silent) r).length ∧ (evL T.E (evP now silent) r).length ≤ c
@[reducible] def evSet (T : Tbl) (now silent : Int) : EvS → List (Nat × Value)
  | .no r => [(13, .int .i64 (r : Int)), (7, .slice none 0 0), (2, .int .i64 (silV silent r))]
  | .yes r c => [(13, .int .i64 (r : Int)), (7, .slice (some ⟨4, 0, some 0⟩) (evL T.E (evP now silent) r).length c), (2, .int .i64 (silV silent r))]
@[reducible] def evHs (T : Tbl) (now silent : Int) : EvS → List (Nat × Chunk)
  | .no r => [(1, mapC entV (evE T.E (evP now silent) r))]
  | .yes r c => [(1, mapC entV (evE T.E (evP now silent) r)), (4, rl (evL T.E (evP now silent) r) c)]
theorem cEvict (T : Tbl) (hE : T.E.length ≤ 64) (now silent : Int) (hnow : now < 9223372036854775808) (hsl : -9223372036854775808 ≤ silent ∧ silent < 9223372036854775808) (i K : Nat) (h : List (Option Chunk)) (hi : h[i]? = some (some (tblC T))) (hK : h[K]? = some none) :
    CallAll Tryz.prog 12 [.pointer (some ⟨i, 0, some 0⟩), .int .i64 now, .int .i64 silent] h (evR (T.ev now silent) (evictL T now silent) i K) := by
  have key := call_resall (G := tys) (h := h) (vs := [.pointer (some ⟨i, 0, some 0⟩), .int .i64 now, .int .i64 silent]) (livesOK T.lives) (tblH T) (α := Option Nat) (fun κ => match κ with | none => evictL T now silent = [] | some cap => 0 < (evictL T now silent).length ∧ (evictL T now silent).length ≤ cap) (fun κ => match κ with | none => .slice none 0 0 | some cap => .slice (some ⟨K, 0, some 0⟩) (evictL T now silent).length cap) [⟨i, tblC T, tblC T, tblC (T.ev now silent)⟩] (fun _ => [tblC (T.ev now silent)])
    (fun κ => match κ with | none => [] | some cap => [⟨K, 4, rl (evictL T now silent) cap⟩]) [.pointer (some ⟨0, 0, some 0⟩), .int .i64 now, .int .i64 silent] tysOK mixed Tryz.func12 (by rfl) (Tryz.call12) ⟨hi, trivial⟩ ⟨⟨fun h => ⟨rfl, Nat.le_refl _⟩, Nat.le_refl _, fun j hj => absurd hj (Nat.not_lt_zero j)⟩, trivial⟩ (fun κ _ => ⟨⟨fun h => ⟨rfl, Nat.le_refl _⟩, Nat.le_refl _, fun j hj => absurd hj (Nat.not_lt_zero j)⟩, trivial⟩) (by simp [Apart]) ⟨.inr ⟨rfl, rfl⟩, trivial⟩ (fun κ hκ => by
      cases κ with
      | none => exact trivial
      | some cap => exact ⟨⟨hK, rfl, .inl (by show 0 < cap * 1; have := hκ.1; have := hκ.2; omega), by simp⟩, trivial⟩) ⟨.ptr rfl, .plain rfl, .plain rfl, trivial⟩ pack_opens ?_
  · refine callAll_mono key fun v ms hR => ?_
    obtain ⟨κ, hκ, rfl, rfl⟩ := hR
    cases κ with
    | none => exact .inl ⟨hκ, rfl, rfl⟩
    | some cap => exact .inr ⟨cap, hκ.1, hκ.2, rfl, rfl⟩
  intro β hβ
  repeat' (refine N.go ?_; first | with_reducible (first | refine N.obl (by decide) ?_ | refine N.eq ?_ | refine N.obl rfl ?_ | refine N.obl ⟨by kernel_rfl, by kernel_rfl⟩ ?_ | refine N.alt ?_ | refine N.forkT ?_ | refine N.forkF ?_) | refine N.forkYes (by rw [decide_eq_true_eq]; omega) ?_ | refine N.forkNo (by rw [decide_eq_false_iff_not]; omega) ?_ | refine N.forkYes (by decide) ?_ | refine N.forkNo (by decide) ?_ | fail)
  refine N.go ?_
  refine N.callAll (cAllI _ _ _ T.E hE 0 1 2 3 _ (by rfl) (by rfl) (by decide) (by rfl)) fun v ms hR => ?_
  rcases hR with ⟨hE0, rfl, rfl⟩ | ⟨ce, hpos, hce, rfl, rfl⟩
  · have hl0 : T.E.length = 0 := by rw [hE0]; rfl
    have hEv : (T.ev now silent).E = T.E := by unfold Tbl.ev; rw [hl0]; rfl
    have hLv : evictL T now silent = [] := by unfold evictL; rw [hl0]; rfl
    repeat' (refine N.go ?_; first | with_reducible (first | refine N.obl (by decide) ?_ | refine N.eq ?_ | refine N.obl rfl ?_ | refine N.obl ⟨by kernel_rfl, by kernel_rfl⟩ ?_ | refine N.alt ?_ | refine N.forkT ?_ | refine N.forkF ?_) | refine N.forkYes (by rw [decide_eq_true_eq]; omega) ?_ | refine N.forkNo (by rw [decide_eq_false_iff_not]; omega) ?_ | refine N.forkYes (by decide) ?_ | refine N.forkNo (by decide) ?_ | fail)
    refine N.go ?_
    refine N.roll 1 ?_
    repeat' (refine N.go ?_; first | with_reducible (first | refine N.obl (by decide) ?_ | refine N.eq ?_ | refine N.obl rfl ?_ | refine N.obl ⟨by kernel_rfl, by kernel_rfl⟩ ?_ | refine N.alt ?_ | refine N.forkT ?_ | refine N.forkF ?_) | refine N.forkYes (by rw [decide_eq_true_eq]; omega) ?_ | refine N.forkNo (by rw [decide_eq_false_iff_not]; omega) ?_ | refine N.forkYes (by decide) ?_ | refine N.forkNo (by decide) ?_ | fail)
    refine N.go ?_
    refine tblClose (T.ev now silent) β 0 1 2 [] tbl_piece (fun i hi => .inl (by simpa using hi)) hβ (by rfl) (by rfl) (by rfl) (by rfl) (by rfl) (by rfl) (by rfl) (by rw [hEv]; rfl) (by rfl) (by decide) (fun k hk => by cases hk) safe0 (plain_sc rfl) ?_
    refine N.some none ⟨hLv, ?_⟩
    refine N.obl (.plain rfl) ?_
    refine N.obl ⟨⟨_, rfl, id, Nat.le_refl _, fun j hj => absurd hj (Nat.not_lt_zero j)⟩, trivial⟩ ?_
    refine N.obl trivial ?_
    refine N.obl ⟨⟨.inr ⟨_, rfl, rfl⟩, trivial⟩, trivial⟩ ?_
    exact N.true
  · repeat' (refine N.go ?_; first | with_reducible (first | refine N.obl (by decide) ?_ | refine N.eq ?_ | refine N.obl rfl ?_ | refine N.obl ⟨by kernel_rfl, by kernel_rfl⟩ ?_ | refine N.alt ?_ | refine N.forkT ?_ | refine N.forkF ?_) | refine N.forkYes (by rw [decide_eq_true_eq]; omega) ?_ | refine N.forkNo (by rw [decide_eq_false_iff_not]; omega) ?_ | refine N.forkYes (by decide) ?_ | refine N.forkNo (by decide) ?_ | fail)
    refine N.go ?_
    refine N.loopR (α := EvS) (evOK T now silent) (fun s => T.E.length - s.r) (evSet T now silent) (evHs T now silent) (.no 0) [(0, 0), (1, 1), (2, 2), (3, 3)] ⟨Nat.zero_le _, rfl⟩ ?_ ?_
    · repeat' (refine N.go ?_; first | with_reducible (first | refine N.obl (by decide) ?_ | refine N.eq ?_ | refine N.obl rfl ?_ | refine N.obl ⟨by kernel_rfl, by kernel_rfl⟩ ?_ | refine N.alt ?_ | refine N.forkT ?_ | refine N.forkF ?_) | exact N.true | refine N.obl (.plain (by rfl)) ?_ | refine N.obl (.one (.ptr rfl)) ?_ | refine N.obl (.one (.slice rfl)) ?_ | refine N.obl map_ren ?_ | refine N.obl (main_ren rfl rfl) ?_ | refine N.obl (enC_ren fun _ _ => rfl) ?_ | fail)
    · intro s hs
      have hr : s.r ≤ T.E.length := by cases s <;> exact hs.1
      by_cases hlt : s.r < T.E.length
      · cases s with
        | no r =>
          obtain ⟨r1, r2⟩ := hs
          have hlt : r < T.E.length := hlt
          have r2 : evL T.E (evP now silent) r = [] := r2
          refine N.go ?_
          refine N.forkYes (by rw [decide_eq_true_eq]; omega) ?_
          refine N.go ?_
          refine N.idx r 1 rfl hlt ?_
          refine N.go ?_
          refine N.load _ (rd_alle hlt hce rfl (by first | rfl | omega)) ?_
          repeat' (refine N.go ?_; first | with_reducible (first | refine N.obl (by decide) ?_ | refine N.eq ?_ | refine N.obl rfl ?_ | refine N.obl ⟨by kernel_rfl, by kernel_rfl⟩ ?_ | refine N.alt ?_ | refine N.forkT ?_ | refine N.forkF ?_) | fail)
          refine N.go ?_
          refine N.max2 ?_
          rw [max_sil]
          by_cases hp : evP now silent (entT T.E r) = true
          · have e1 : evL T.E (evP now silent) (r + 1) = evL T.E (evP now silent) r ++ [(entT T.E r).node] := if_pos hp
            have e2 : evE T.E (evP now silent) (r + 1) = dDel (evE T.E (evP now silent) r) (entT T.E r).node := if_pos hp
            obtain ⟨h1, h2⟩ : max 1 silent ≤ now ∧ (entT T.E r).heard ≤ now - max 1 silent := by unfold evP at hp; simpa using hp
            have hw : IntKind.i64.wrap (now - max 1 silent) = now - max 1 silent := i64s _ (by omega) (by omega)
            repeat' (refine N.go ?_; first | with_reducible (first | refine N.obl (by decide) ?_ | refine N.eq ?_ | refine N.obl rfl ?_ | refine N.obl ⟨by kernel_rfl, by kernel_rfl⟩ ?_ | refine N.alt ?_ | refine N.forkT ?_ | refine N.forkF ?_) | refine N.forkYes (by rw [hw, decide_eq_true_eq]; omega) ?_ | refine N.forkNo (by rw [hw, decide_eq_false_iff_not]; omega) ?_ | refine N.forkYes (by rw [decide_eq_true_eq]; omega) ?_ | refine N.forkNo (by rw [decide_eq_false_iff_not]; omega) ?_ | refine N.forkYes (by rw [decide_eq_true_eq]; omega) ?_ | refine N.forkNo (by rw [decide_eq_false_iff_not]; omega) ?_ | refine N.forkYes (by decide) ?_ | refine N.forkNo (by decide) ?_ | fail)
            refine N.go ?_
            refine App0_mk (.agg #[.int .i64 (entT T.E r).node]) (rd_all (by rfl) (by rfl)) (by decide) (by decide) (by decide) fun cap hcap => ?_
            repeat' (refine N.go ?_; first | with_reducible (first | refine N.obl (by decide) ?_ | refine N.eq ?_ | refine N.obl rfl ?_ | refine N.obl ⟨by kernel_rfl, by kernel_rfl⟩ ?_ | refine N.alt ?_ | refine N.forkT ?_ | refine N.forkF ?_) | refine N_del entV _ rfl rfl rfl Tryz.underlying58 Tryz.underlying3 ?_ | refine N.forkYes (by rw [decide_eq_true_eq]; omega) ?_ | refine N.forkNo (by rw [decide_eq_false_iff_not]; omega) ?_ | refine N.forkYes (by decide) ?_ | refine N.forkNo (by decide) ?_ | fail)
            refine N.go ?_
            rw [r2] at e1
            refine N.nextR (α := EvS) (.yes (r + 1) cap) [(0, 0), (1, 1), (2, 2), (3, 3), (6, 4)] (And.intro ⟨hlt, by show 0 < (evL T.E (evP now silent) (r + 1)).length; rw [e1]; exact Nat.le_refl _, by show (evL T.E (evP now silent) (r + 1)).length ≤ cap; rw [e1]; exact hcap⟩ (by show T.E.length - (r + 1) < T.E.length - r; omega)) ?_
            repeat' (refine N.go ?_; first | with_reducible (first | refine N.obl (by decide) ?_ | refine N.eq ?_ | refine N.obl rfl ?_ | refine N.obl ⟨by kernel_rfl, by kernel_rfl⟩ ?_ | refine N.alt ?_ | refine N.forkT ?_ | refine N.forkF ?_) | refine N.obl (re_eq (int_eq (by rw [i64s ((r : Int) + 1) (by omega) (by omega)]; rfl)) rfl) ?_ | refine N.obl (re_eq (int_eq (show silV silent (r + 1) = max 1 silent from if_neg (Nat.succ_ne_zero _))) rfl) ?_ | refine N.obl (sl_ren (by show (evL T.E (evP now silent) (r + 1)).length = _; rw [e1]; rfl) (by rfl)) ?_ | refine N.obl (by show ChunkReLe _ (mapC entV (evE T.E (evP now silent) (r + 1))) _; rw [e2]; exact map_ren) ?_ | refine N.obl (grow0_ren e1 hcap) ?_ | exact N.true | refine N.obl (.plain (by rfl)) ?_ | refine N.obl (.one (.ptr rfl)) ?_ | refine N.obl (.one (.slice rfl)) ?_ | refine N.obl map_ren ?_ | refine N.obl (main_ren rfl rfl) ?_ | refine N.obl (enC_ren fun _ _ => rfl) ?_ | fail)
          · have e1 : evL T.E (evP now silent) (r + 1) = evL T.E (evP now silent) r := if_neg hp
            have e2 : evE T.E (evP now silent) (r + 1) = evE T.E (evP now silent) r := if_neg hp
            by_cases h1 : max 1 silent ≤ now
            · have hw : IntKind.i64.wrap (now - max 1 silent) = now - max 1 silent := i64s _ (by omega) (by omega)
              have h2 : ¬ (entT T.E r).heard ≤ now - max 1 silent := fun h2 => hp (by unfold evP; simp [h1, h2])
              repeat' (refine N.go ?_; first | with_reducible (first | refine N.obl (by decide) ?_ | refine N.eq ?_ | refine N.obl rfl ?_ | refine N.obl ⟨by kernel_rfl, by kernel_rfl⟩ ?_ | refine N.alt ?_ | refine N.forkT ?_ | refine N.forkF ?_) | refine N.forkYes (by rw [hw, decide_eq_true_eq]; omega) ?_ | refine N.forkNo (by rw [hw, decide_eq_false_iff_not]; omega) ?_ | refine N.forkYes (by rw [decide_eq_true_eq]; omega) ?_ | refine N.forkNo (by rw [decide_eq_false_iff_not]; omega) ?_ | refine N.forkYes (by rw [decide_eq_true_eq]; omega) ?_ | refine N.forkNo (by rw [decide_eq_false_iff_not]; omega) ?_ | refine N.forkYes (by decide) ?_ | refine N.forkNo (by decide) ?_ | fail)
              refine N.go ?_
              refine N.nextR (α := EvS) (.no (r + 1)) [(0, 0), (1, 1), (2, 2), (3, 3)] (And.intro ⟨hlt, by show evL T.E (evP now silent) (r + 1) = []; rw [e1, r2]⟩ (by show T.E.length - (r + 1) < T.E.length - r; omega)) ?_
              repeat' (refine N.go ?_; first | with_reducible (first | refine N.obl (by decide) ?_ | refine N.eq ?_ | refine N.obl rfl ?_ | refine N.obl ⟨by kernel_rfl, by kernel_rfl⟩ ?_ | refine N.alt ?_ | refine N.forkT ?_ | refine N.forkF ?_) | refine N.obl (re_eq (int_eq (by rw [i64s ((r : Int) + 1) (by omega) (by omega)]; rfl)) rfl) ?_ | refine N.obl (re_eq (int_eq (show silV silent (r + 1) = max 1 silent from if_neg (Nat.succ_ne_zero _))) rfl) ?_ | refine N.obl (sl_ren (by show (evL T.E (evP now silent) (r + 1)).length = _; rw [e1]) (by rfl)) ?_ | refine N.obl (by show ChunkReLe _ (mapC entV (evE T.E (evP now silent) (r + 1))) _; rw [e2]; exact map_ren) ?_ | refine N.obl (rl_ren e1) ?_ | exact N.true | refine N.obl (.plain (by rfl)) ?_ | refine N.obl (.one (.ptr rfl)) ?_ | refine N.obl (.one (.slice rfl)) ?_ | refine N.obl map_ren ?_ | refine N.obl (main_ren rfl rfl) ?_ | refine N.obl (enC_ren fun _ _ => rfl) ?_ | fail)
            · repeat' (refine N.go ?_; first | with_reducible (first | refine N.obl (by decide) ?_ | refine N.eq ?_ | refine N.obl rfl ?_ | refine N.obl ⟨by kernel_rfl, by kernel_rfl⟩ ?_ | refine N.alt ?_ | refine N.forkT ?_ | refine N.forkF ?_) | refine N.forkYes (by rw [hw, decide_eq_true_eq]; omega) ?_ | refine N.forkNo (by rw [hw, decide_eq_false_iff_not]; omega) ?_ | refine N.forkYes (by rw [decide_eq_true_eq]; omega) ?_ | refine N.forkNo (by rw [decide_eq_false_iff_not]; omega) ?_ | refine N.forkYes (by rw [decide_eq_true_eq]; omega) ?_ | refine N.forkNo (by rw [decide_eq_false_iff_not]; omega) ?_ | refine N.forkYes (by decide) ?_ | refine N.forkNo (by decide) ?_ | fail)
              refine N.go ?_
              refine N.nextR (α := EvS) (.no (r + 1)) [(0, 0), (1, 1), (2, 2), (3, 3)] (And.intro ⟨hlt, by show evL T.E (evP now silent) (r + 1) = []; rw [e1, r2]⟩ (by show T.E.length - (r + 1) < T.E.length - r; omega)) ?_
              repeat' (refine N.go ?_; first | with_reducible (first | refine N.obl (by decide) ?_ | refine N.eq ?_ | refine N.obl rfl ?_ | refine N.obl ⟨by kernel_rfl, by kernel_rfl⟩ ?_ | refine N.alt ?_ | refine N.forkT ?_ | refine N.forkF ?_) | refine N.obl (re_eq (int_eq (by rw [i64s ((r : Int) + 1) (by omega) (by omega)]; rfl)) rfl) ?_ | refine N.obl (re_eq (int_eq (show silV silent (r + 1) = max 1 silent from if_neg (Nat.succ_ne_zero _))) rfl) ?_ | refine N.obl (sl_ren (by show (evL T.E (evP now silent) (r + 1)).length = _; rw [e1]) (by rfl)) ?_ | refine N.obl (by show ChunkReLe _ (mapC entV (evE T.E (evP now silent) (r + 1))) _; rw [e2]; exact map_ren) ?_ | refine N.obl (rl_ren e1) ?_ | exact N.true | refine N.obl (.plain (by rfl)) ?_ | refine N.obl (.one (.ptr rfl)) ?_ | refine N.obl (.one (.slice rfl)) ?_ | refine N.obl map_ren ?_ | refine N.obl (main_ren rfl rfl) ?_ | refine N.obl (enC_ren fun _ _ => rfl) ?_ | fail)
        | yes r c =>
          obtain ⟨r1, r2, r3⟩ := hs
          have hlt : r < T.E.length := hlt
          have r2 : 0 < (evL T.E (evP now silent) r).length := r2
          have r3 : (evL T.E (evP now silent) r).length ≤ c := r3
          have r4 := evL_le T.E (evP now silent) r
          refine N.go ?_
          refine N.forkYes (by rw [decide_eq_true_eq]; omega) ?_
          refine N.go ?_
          refine N.idx r 1 rfl hlt ?_
          refine N.go ?_
          refine N.load _ (rd_alle hlt hce rfl (by first | rfl | omega)) ?_
          repeat' (refine N.go ?_; first | with_reducible (first | refine N.obl (by decide) ?_ | refine N.eq ?_ | refine N.obl rfl ?_ | refine N.obl ⟨by kernel_rfl, by kernel_rfl⟩ ?_ | refine N.alt ?_ | refine N.forkT ?_ | refine N.forkF ?_) | fail)
          refine N.go ?_
          refine N.max2 ?_
          rw [max_sil]
          by_cases hp : evP now silent (entT T.E r) = true
          · have e1 : evL T.E (evP now silent) (r + 1) = evL T.E (evP now silent) r ++ [(entT T.E r).node] := if_pos hp
            have e2 : evE T.E (evP now silent) (r + 1) = dDel (evE T.E (evP now silent) r) (entT T.E r).node := if_pos hp
            obtain ⟨h1, h2⟩ : max 1 silent ≤ now ∧ (entT T.E r).heard ≤ now - max 1 silent := by unfold evP at hp; simpa using hp
            have hw : IntKind.i64.wrap (now - max 1 silent) = now - max 1 silent := i64s _ (by omega) (by omega)
            repeat' (refine N.go ?_; first | with_reducible (first | refine N.obl (by decide) ?_ | refine N.eq ?_ | refine N.obl rfl ?_ | refine N.obl ⟨by kernel_rfl, by kernel_rfl⟩ ?_ | refine N.alt ?_ | refine N.forkT ?_ | refine N.forkF ?_) | refine N.forkYes (by rw [hw, decide_eq_true_eq]; omega) ?_ | refine N.forkNo (by rw [hw, decide_eq_false_iff_not]; omega) ?_ | refine N.forkYes (by rw [decide_eq_true_eq]; omega) ?_ | refine N.forkNo (by rw [decide_eq_false_iff_not]; omega) ?_ | refine N.forkYes (by rw [decide_eq_true_eq]; omega) ?_ | refine N.forkNo (by rw [decide_eq_false_iff_not]; omega) ?_ | refine N.forkYes (by decide) ?_ | refine N.forkNo (by decide) ?_ | fail)
            refine N.go ?_
            refine App_mk (.agg #[.int .i64 (entT T.E r).node]) (rd_all (by rfl) (by rfl)) (by rfl) (by show _ * 1 ≤ c * 1; omega) (by omega) (by show (_ + 1) * 8 ≤ _; omega) (riC true c (setri (fun i => (evL T.E (evP now silent) r).getD i 0) (evL T.E (evP now silent) r).length (entT T.E r).node)) (fun h => wr_ri (by omega) rfl) (fun hr => ?_) (fun hg2 cap hcap => ?_)
            · repeat' (refine N.go ?_; first | with_reducible (first | refine N.obl (by decide) ?_ | refine N.eq ?_ | refine N.obl rfl ?_ | refine N.obl ⟨by kernel_rfl, by kernel_rfl⟩ ?_ | refine N.alt ?_ | refine N.forkT ?_ | refine N.forkF ?_) | refine N_del entV _ rfl rfl rfl Tryz.underlying58 Tryz.underlying3 ?_ | refine N.forkYes (by rw [decide_eq_true_eq]; omega) ?_ | refine N.forkNo (by rw [decide_eq_false_iff_not]; omega) ?_ | refine N.forkYes (by decide) ?_ | refine N.forkNo (by decide) ?_ | fail)
              refine N.go ?_
              refine N.nextR (α := EvS) (.yes (r + 1) c) [(0, 0), (1, 1), (2, 2), (3, 3), (4, 4)] (And.intro ⟨hlt, by show 0 < (evL T.E (evP now silent) (r + 1)).length; rw [e1, List.length_append]; exact Nat.le_add_left _ _, by show (evL T.E (evP now silent) (r + 1)).length ≤ c; rw [e1, List.length_append]; exact hr⟩ (by show T.E.length - (r + 1) < T.E.length - r; omega)) ?_
              repeat' (refine N.go ?_; first | with_reducible (first | refine N.obl (by decide) ?_ | refine N.eq ?_ | refine N.obl rfl ?_ | refine N.obl ⟨by kernel_rfl, by kernel_rfl⟩ ?_ | refine N.alt ?_ | refine N.forkT ?_ | refine N.forkF ?_) | refine N.obl (re_eq (int_eq (by rw [i64s ((r : Int) + 1) (by omega) (by omega)]; rfl)) rfl) ?_ | refine N.obl (re_eq (int_eq (show silV silent (r + 1) = max 1 silent from if_neg (Nat.succ_ne_zero _))) rfl) ?_ | refine N.obl (sl_ren (by show (evL T.E (evP now silent) (r + 1)).length = _; rw [e1, List.length_append]; rfl) (by rfl)) ?_ | refine N.obl (by show ChunkReLe _ (mapC entV (evE T.E (evP now silent) (r + 1))) _; rw [e2]; exact map_ren) ?_ | refine N.obl (set_ren e1) ?_ | exact N.true | refine N.obl (.plain (by rfl)) ?_ | refine N.obl (.one (.ptr rfl)) ?_ | refine N.obl (.one (.slice rfl)) ?_ | refine N.obl map_ren ?_ | refine N.obl (main_ren rfl rfl) ?_ | refine N.obl (enC_ren fun _ _ => rfl) ?_ | fail)
            · repeat' (refine N.go ?_; first | with_reducible (first | refine N.obl (by decide) ?_ | refine N.eq ?_ | refine N.obl rfl ?_ | refine N.obl ⟨by kernel_rfl, by kernel_rfl⟩ ?_ | refine N.alt ?_ | refine N.forkT ?_ | refine N.forkF ?_) | refine N_del entV _ rfl rfl rfl Tryz.underlying58 Tryz.underlying3 ?_ | refine N.forkYes (by rw [decide_eq_true_eq]; omega) ?_ | refine N.forkNo (by rw [decide_eq_false_iff_not]; omega) ?_ | refine N.forkYes (by decide) ?_ | refine N.forkNo (by decide) ?_ | fail)
              refine N.go ?_
              refine N.nextR (α := EvS) (.yes (r + 1) cap) [(0, 0), (1, 1), (2, 2), (3, 3), (7, 4)] (And.intro ⟨hlt, by show 0 < (evL T.E (evP now silent) (r + 1)).length; rw [e1, List.length_append]; exact Nat.le_add_left _ _, by show (evL T.E (evP now silent) (r + 1)).length ≤ cap; rw [e1, List.length_append]; exact hcap⟩ (by show T.E.length - (r + 1) < T.E.length - r; omega)) ?_
              repeat' (refine N.go ?_; first | with_reducible (first | refine N.obl (by decide) ?_ | refine N.eq ?_ | refine N.obl rfl ?_ | refine N.obl ⟨by kernel_rfl, by kernel_rfl⟩ ?_ | refine N.alt ?_ | refine N.forkT ?_ | refine N.forkF ?_) | refine N.obl (re_eq (int_eq (by rw [i64s ((r : Int) + 1) (by omega) (by omega)]; rfl)) rfl) ?_ | refine N.obl (re_eq (int_eq (show silV silent (r + 1) = max 1 silent from if_neg (Nat.succ_ne_zero _))) rfl) ?_ | refine N.obl (sl_ren (by show (evL T.E (evP now silent) (r + 1)).length = _; rw [e1, List.length_append]; rfl) (by rfl)) ?_ | refine N.obl (by show ChunkReLe _ (mapC entV (evE T.E (evP now silent) (r + 1))) _; rw [e2]; exact map_ren) ?_ | refine N.obl (grow_ren e1 hcap r3) ?_ | exact N.true | refine N.obl (.plain (by rfl)) ?_ | refine N.obl (.one (.ptr rfl)) ?_ | refine N.obl (.one (.slice rfl)) ?_ | refine N.obl map_ren ?_ | refine N.obl (main_ren rfl rfl) ?_ | refine N.obl (enC_ren fun _ _ => rfl) ?_ | fail)
          · have e1 : evL T.E (evP now silent) (r + 1) = evL T.E (evP now silent) r := if_neg hp
            have e2 : evE T.E (evP now silent) (r + 1) = evE T.E (evP now silent) r := if_neg hp
            by_cases h1 : max 1 silent ≤ now
            · have hw : IntKind.i64.wrap (now - max 1 silent) = now - max 1 silent := i64s _ (by omega) (by omega)
              have h2 : ¬ (entT T.E r).heard ≤ now - max 1 silent := fun h2 => hp (by unfold evP; simp [h1, h2])
              repeat' (refine N.go ?_; first | with_reducible (first | refine N.obl (by decide) ?_ | refine N.eq ?_ | refine N.obl rfl ?_ | refine N.obl ⟨by kernel_rfl, by kernel_rfl⟩ ?_ | refine N.alt ?_ | refine N.forkT ?_ | refine N.forkF ?_) | refine N.forkYes (by rw [hw, decide_eq_true_eq]; omega) ?_ | refine N.forkNo (by rw [hw, decide_eq_false_iff_not]; omega) ?_ | refine N.forkYes (by rw [decide_eq_true_eq]; omega) ?_ | refine N.forkNo (by rw [decide_eq_false_iff_not]; omega) ?_ | refine N.forkYes (by rw [decide_eq_true_eq]; omega) ?_ | refine N.forkNo (by rw [decide_eq_false_iff_not]; omega) ?_ | refine N.forkYes (by decide) ?_ | refine N.forkNo (by decide) ?_ | fail)
              refine N.go ?_
              refine N.nextR (α := EvS) (.yes (r + 1) c) [(0, 0), (1, 1), (2, 2), (3, 3), (4, 4)] (And.intro ⟨hlt, by show 0 < (evL T.E (evP now silent) (r + 1)).length; rw [e1]; exact r2, by show (evL T.E (evP now silent) (r + 1)).length ≤ c; rw [e1]; exact r3⟩ (by show T.E.length - (r + 1) < T.E.length - r; omega)) ?_
              repeat' (refine N.go ?_; first | with_reducible (first | refine N.obl (by decide) ?_ | refine N.eq ?_ | refine N.obl rfl ?_ | refine N.obl ⟨by kernel_rfl, by kernel_rfl⟩ ?_ | refine N.alt ?_ | refine N.forkT ?_ | refine N.forkF ?_) | refine N.obl (re_eq (int_eq (by rw [i64s ((r : Int) + 1) (by omega) (by omega)]; rfl)) rfl) ?_ | refine N.obl (re_eq (int_eq (show silV silent (r + 1) = max 1 silent from if_neg (Nat.succ_ne_zero _))) rfl) ?_ | refine N.obl (sl_ren (by show (evL T.E (evP now silent) (r + 1)).length = _; rw [e1]) (by rfl)) ?_ | refine N.obl (by show ChunkReLe _ (mapC entV (evE T.E (evP now silent) (r + 1))) _; rw [e2]; exact map_ren) ?_ | refine N.obl (rl_ren e1) ?_ | exact N.true | refine N.obl (.plain (by rfl)) ?_ | refine N.obl (.one (.ptr rfl)) ?_ | refine N.obl (.one (.slice rfl)) ?_ | refine N.obl map_ren ?_ | refine N.obl (main_ren rfl rfl) ?_ | refine N.obl (enC_ren fun _ _ => rfl) ?_ | fail)
            · repeat' (refine N.go ?_; first | with_reducible (first | refine N.obl (by decide) ?_ | refine N.eq ?_ | refine N.obl rfl ?_ | refine N.obl ⟨by kernel_rfl, by kernel_rfl⟩ ?_ | refine N.alt ?_ | refine N.forkT ?_ | refine N.forkF ?_) | refine N.forkYes (by rw [hw, decide_eq_true_eq]; omega) ?_ | refine N.forkNo (by rw [hw, decide_eq_false_iff_not]; omega) ?_ | refine N.forkYes (by rw [decide_eq_true_eq]; omega) ?_ | refine N.forkNo (by rw [decide_eq_false_iff_not]; omega) ?_ | refine N.forkYes (by rw [decide_eq_true_eq]; omega) ?_ | refine N.forkNo (by rw [decide_eq_false_iff_not]; omega) ?_ | refine N.forkYes (by decide) ?_ | refine N.forkNo (by decide) ?_ | fail)
              refine N.go ?_
              refine N.nextR (α := EvS) (.yes (r + 1) c) [(0, 0), (1, 1), (2, 2), (3, 3), (4, 4)] (And.intro ⟨hlt, by show 0 < (evL T.E (evP now silent) (r + 1)).length; rw [e1]; exact r2, by show (evL T.E (evP now silent) (r + 1)).length ≤ c; rw [e1]; exact r3⟩ (by show T.E.length - (r + 1) < T.E.length - r; omega)) ?_
              repeat' (refine N.go ?_; first | with_reducible (first | refine N.obl (by decide) ?_ | refine N.eq ?_ | refine N.obl rfl ?_ | refine N.obl ⟨by kernel_rfl, by kernel_rfl⟩ ?_ | refine N.alt ?_ | refine N.forkT ?_ | refine N.forkF ?_) | refine N.obl (re_eq (int_eq (by rw [i64s ((r : Int) + 1) (by omega) (by omega)]; rfl)) rfl) ?_ | refine N.obl (re_eq (int_eq (show silV silent (r + 1) = max 1 silent from if_neg (Nat.succ_ne_zero _))) rfl) ?_ | refine N.obl (sl_ren (by show (evL T.E (evP now silent) (r + 1)).length = _; rw [e1]) (by rfl)) ?_ | refine N.obl (by show ChunkReLe _ (mapC entV (evE T.E (evP now silent) (r + 1))) _; rw [e2]; exact map_ren) ?_ | refine N.obl (rl_ren e1) ?_ | exact N.true | refine N.obl (.plain (by rfl)) ?_ | refine N.obl (.one (.ptr rfl)) ?_ | refine N.obl (.one (.slice rfl)) ?_ | refine N.obl map_ren ?_ | refine N.obl (main_ren rfl rfl) ?_ | refine N.obl (enC_ren fun _ _ => rfl) ?_ | fail)
      · cases s with
        | no r =>
          obtain ⟨r1, r2⟩ := hs
          have hr : r ≤ T.E.length := hr
          have hlt : ¬ r < T.E.length := hlt
          obtain rfl : r = T.E.length := by omega
          refine N.go ?_
          refine N.forkNo (by rw [decide_eq_false_iff_not]; omega) ?_
          repeat' (refine N.go ?_; first | with_reducible (first | refine N.obl (by decide) ?_ | refine N.eq ?_ | refine N.obl rfl ?_ | refine N.obl ⟨by kernel_rfl, by kernel_rfl⟩ ?_ | refine N.alt ?_ | refine N.forkT ?_ | refine N.forkF ?_) | fail)
          refine N.go ?_
          refine tblClose (T.ev now silent) β 0 1 2 [] tbl_piece (fun i hi => .inl (by simpa using hi)) hβ (by rfl) (by rfl) (by rfl) (by rfl) (by rfl) (by rfl) (by rfl) (by rfl) (by rfl) (by decide) (fun k hk => by cases hk) safe0 (plain_sc rfl) ?_
          refine N.some none ⟨r2, ?_⟩
          refine N.obl (.plain rfl) ?_
          refine N.obl ⟨⟨_, rfl, id, Nat.le_refl _, fun j hj => absurd hj (Nat.not_lt_zero j)⟩, trivial⟩ ?_
          refine N.obl trivial ?_
          refine N.obl ⟨⟨.inr ⟨_, rfl, rfl⟩, trivial⟩, trivial⟩ ?_
          exact N.true
        | yes r c =>
          obtain ⟨r1, r2, r3⟩ := hs
          have hr : r ≤ T.E.length := hr
          have hlt : ¬ r < T.E.length := hlt
          obtain rfl : r = T.E.length := by omega
          refine N.go ?_
          refine N.forkNo (by rw [decide_eq_false_iff_not]; omega) ?_
          repeat' (refine N.go ?_; first | with_reducible (first | refine N.obl (by decide) ?_ | refine N.eq ?_ | refine N.obl rfl ?_ | refine N.obl ⟨by kernel_rfl, by kernel_rfl⟩ ?_ | refine N.alt ?_ | refine N.forkT ?_ | refine N.forkF ?_) | fail)
          refine N.go ?_
          refine tblClose (T.ev now silent) β 0 1 2 [4] tbl_piece (fun i hi => .inl (by simpa using hi)) hβ (by rfl) (by rfl) (by rfl) (by rfl) (by rfl) (by rfl) (by rfl) (by rfl) (by rfl) (by decide) (fun k hk => by simp at hk; omega) (fun k hk d hd l hl => ?_) (fun ρ ρ' ha => by have := ha 4 ⟨_, rfl⟩; simp [den, den2, den1, den0, denA, this]) ?_
          · obtain rfl : k = 4 := by simpa using hk
            obtain rfl : rl (evL T.E (evP now silent) T.E.length) c = d := by simpa using hd
            exact rl_safe hl
          refine N.some (some c) ⟨⟨r2, r3⟩, ?_⟩
          refine N.obl (.one (.slice rfl)) ?_
          refine N.obl ⟨⟨_, rfl, id, Nat.le_refl _, fun j hj => absurd hj (Nat.not_lt_zero j)⟩, trivial⟩ ?_
          refine N.obl ⟨⟨Nat.le_of_ble_eq_true rfl, riC_post (c := c) (T := fun i => (evL T.E (evP now silent) T.E.length).getD i 0) (T' := fun i => (evL T.E (evP now silent) T.E.length).getD i 0) (fun _ _ => rfl) (by rfl)⟩, trivial⟩ ?_
          refine N.obl ⟨⟨.inr ⟨_, rfl, rfl⟩, trivial⟩, .inl rfl, trivial⟩ ?_
          exact N.true
end Go.Proofs.YtimccfnlcnlffaaGreat


namespace Go.Proofs.YtimccfnlcnlffaaGreat
abbrev Bs : Nat := 18446744073709551616
theorem bs_pos : 0 < Bs := by decide
theorem bsp_pos (n : Nat) : 0 < Bs ^ n := Nat.pow_pos bs_pos
def dg (v j : Nat) : Nat := v / Bs ^ j % Bs
theorem dg_lt (v j : Nat) : dg v j < 18446744073709551616 := Nat.mod_lt _ bs_pos
theorem dg_zero (j : Nat) : dg 0 j = 0 := by simp [dg]
theorem dg_step (v j : Nat) : v / Bs ^ j = v / Bs ^ (j + 1) * Bs + dg v j := by
  unfold dg
  rw [Nat.pow_succ, ← Nat.div_div_eq_div_mul]
  have := Nat.div_add_mod (v / Bs ^ j) Bs
  rw [Nat.mul_comm]; exact this.symm
theorem mod_step (v j : Nat) : v % Bs ^ (j + 1) = v % Bs ^ j + Bs ^ j * dg v j := by
  unfold dg
  rw [Nat.pow_succ, Nat.mod_mul]
theorem dg_big (v j : Nat) (h : v < Bs ^ j) : dg v j = 0 := by
  unfold dg; rw [Nat.div_eq_of_lt h]; rfl
theorem dg_mod (v n j : Nat) (h : j < n) : dg (v % Bs ^ n) j = dg v j := by
  unfold dg
  obtain ⟨k, rfl⟩ : ∃ k, n = j + (k + 1) := ⟨n - j - 1, by omega⟩
  rw [Nat.pow_add, Nat.mod_mul_right_div_self, Nat.pow_succ, Nat.mul_comm (Bs ^ k), Nat.mod_mul_right_mod]
theorem eq_of_dg (n a b : Nat) (ha : a < Bs ^ n) (hb : b < Bs ^ n) (h : ∀ j, j < n → dg a j = dg b j) : a = b := by
  have key : ∀ m, m ≤ n → a % Bs ^ m = b % Bs ^ m := by
    intro m
    induction m with
    | zero => intro _; simp [Nat.mod_one]
    | succ m ih => intro hm; rw [mod_step, mod_step, ih (by omega), h m (by omega)]
  have := key n (Nat.le_refl _)
  rwa [Nat.mod_eq_of_lt ha, Nat.mod_eq_of_lt hb] at this
def cry (a b i : Nat) : Nat := (a % Bs ^ i + b % Bs ^ i) / Bs ^ i
theorem cry_zero (a b : Nat) : cry a b 0 = 0 := by simp [cry, Nat.mod_one]
theorem cry_le (a b i : Nat) : cry a b i ≤ 1 := by
  unfold cry
  have h1 := Nat.mod_lt a (bsp_pos i)
  have h2 := Nat.mod_lt b (bsp_pos i)
  have : (a % Bs ^ i + b % Bs ^ i) / Bs ^ i < 2 := (Nat.div_lt_iff_lt_mul (bsp_pos i)).2 (by omega)
  omega
theorem cry_step (a b i : Nat) : dg a i + dg b i + cry a b i = dg (a + b) i + Bs * cry a b (i + 1) := by
  have e1 : ∀ m, a + b = (a / Bs ^ m + b / Bs ^ m + cry a b m) * Bs ^ m + (a % Bs ^ m + b % Bs ^ m) % Bs ^ m := by
    intro m
    have ha := Nat.div_add_mod a (Bs ^ m)
    have hb := Nat.div_add_mod b (Bs ^ m)
    have hc := Nat.div_add_mod (a % Bs ^ m + b % Bs ^ m) (Bs ^ m)
    unfold cry
    generalize Bs ^ m = q at *
    rw [Nat.add_mul, Nat.add_mul, Nat.mul_comm (a / q), Nat.mul_comm (b / q), Nat.mul_comm _ q]
    omega
  have e2 : ∀ m, (a + b) / Bs ^ m = a / Bs ^ m + b / Bs ^ m + cry a b m := by
    intro m
    have h := e1 m
    have hr := Nat.mod_lt (a % Bs ^ m + b % Bs ^ m) (bsp_pos m)
    rw [h, Nat.mul_comm, Nat.mul_add_div (bsp_pos m), Nat.div_eq_of_lt hr, Nat.add_zero]
  have s0 := dg_step a i
  have s1 := dg_step b i
  have s2 := dg_step (a + b) i
  have q0 := e2 i
  have q1 := e2 (i + 1)
  rw [q0, q1] at s2
  generalize a / Bs ^ (i + 1) = x at *
  generalize b / Bs ^ (i + 1) = y at *
  generalize cry a b (i + 1) = z at *
  generalize cry a b i = u at *
  simp only [Bs] at *
  omega
theorem cry_dig (a b i : Nat) : (dg a i + dg b i + cry a b i) % 18446744073709551616 = dg (a + b) i := by
  have := cry_step a b i
  have h := dg_lt (a + b) i
  simp only [Bs] at this
  omega
theorem cry_next (a b i : Nat) : (dg a i + dg b i + cry a b i) / 18446744073709551616 = cry a b (i + 1) := by
  have := cry_step a b i
  have h := dg_lt (a + b) i
  simp only [Bs] at this
  omega
end Go.Proofs.YtimccfnlcnlffaaGreat


namespace Go.Proofs.YtimccfnlcnlffaaGreat
open Go.RowKit
def lim (n : Nat) (f : Nat → Nat) : Array Value := ((List.range n).map fun j => Value.int .u64 ((f j : Nat) : Int)).toArray
@[simp] theorem lim_size (n : Nat) (f : Nat → Nat) : (lim n f).size = n := by simp [lim]
theorem lim_get (n : Nat) (f : Nat → Nat) (j : Nat) (h : j < n) : (lim n f)[j]? = some (.int .u64 ((f j : Nat) : Int)) := by
  simp [lim, h]
theorem lim_one (n : Nat) (f : Nat → Nat) : (lim n f).all (·.oneCell') = true := by
  rw [Array.all_eq_true_iff_forall_mem]
  intro x hx
  simp only [lim, List.mem_toArray, List.mem_map] at hx
  obtain ⟨j, _, rfl⟩ := hx
  rfl
theorem lim_set (n : Nat) (f g : Nat → Nat) (i : Nat) (v : Int) (hi : i < n) (hv : v = ((g i : Nat) : Int)) (h : ∀ j, j < n → j ≠ i → f j = g j) : (lim n f).setIfInBounds i (.int .u64 v) = lim n g := by
  apply Array.ext_getElem?
  intro j
  rw [Array.getElem?_setIfInBounds]
  by_cases hj : j < n
  · rw [lim_get n g j hj]
    split
    · rename_i e; subst e; rw [if_pos (by simpa using hj), hv]
    · rename_i e; rw [lim_get n f j hj, h j hj (Ne.symm e)]
  · rw [Array.getElem?_eq_none (by simp; omega), Array.getElem?_eq_none (by simp; omega), if_neg (by omega)]
theorem lim_same (n : Nat) (f g : Nat → Nat) (h : ∀ j, j < n → f j = g j) : lim n f = lim n g := by
  unfold lim
  congr 1
  apply List.map_congr_left
  intro j hj
  rw [h j (by simpa using hj)]
def sz (v : Nat) : Array Value := lim 16 (dg v)
@[simp] theorem sz_size (v : Nat) : (sz v).size = 16 := lim_size _ _
theorem sz_get (v j : Nat) (h : j < 16) : (sz v)[j]? = some (.int .u64 ((dg v j : Nat) : Int)) := lim_get _ _ _ h
theorem sz_one (v : Nat) : (sz v).all (·.oneCell') = true := lim_one _ _
theorem sz_zero : sz 0 = #[.int .u64 0, .int .u64 0, .int .u64 0, .int .u64 0, .int .u64 0, .int .u64 0, .int .u64 0, .int .u64 0, .int .u64 0, .int .u64 0, .int .u64 0, .int .u64 0, .int .u64 0, .int .u64 0, .int .u64 0, .int .u64 0] := by
  unfold sz
  rw [lim_same 16 (dg 0) (fun _ => 0) (fun j _ => dg_zero j)]
  rfl
theorem dg_small (v : Nat) (h : v < 18446744073709551616) (j : Nat) : dg v j = if j = 0 then v else 0 := by
  split
  · subst j; simp [dg]; exact h
  · apply dg_big
    exact Nat.lt_of_lt_of_le h (Nat.le_self_pow (by omega) Bs)
theorem sz_small (v : Nat) (h : v < 18446744073709551616) : sz v = #[.int .u64 v, .int .u64 0, .int .u64 0, .int .u64 0, .int .u64 0, .int .u64 0, .int .u64 0, .int .u64 0, .int .u64 0, .int .u64 0, .int .u64 0, .int .u64 0, .int .u64 0, .int .u64 0, .int .u64 0, .int .u64 0] := by
  unfold sz
  rw [lim_same 16 (dg v) (fun j => if j = 0 then v else 0) (fun j _ => dg_small v h j)]
  rfl
def wi (neg over : Bool) (v : Nat) : Array Value := #[.bool neg, .bool over] ++ sz v
@[simp] theorem wi_size (neg over : Bool) (v : Nat) : (wi neg over v).size = 18 := by simp [wi]
theorem wi_neg (neg over : Bool) (v : Nat) : (wi neg over v)[0]? = some (.bool neg) := by simp [wi, Array.getElem?_append]
theorem wi_one (neg over : Bool) (v : Nat) : (wi neg over v).all (·.oneCell') = true := by
  unfold wi
  rw [Array.all_append, sz_one]; simp [Value.oneCell']
def IsRow (w : World) (g : Nat) (t : TypeId) (cs : Array Value) : Prop := w.heap[g]? = some (.cells cs t (0, 0))
section
variable {w : World} {g : Nat} {t : TypeId} {cs : Array Value}
theorem IsRow.lt (h : IsRow w g t cs) : g < w.heap.size := (Array.getElem?_eq_some_iff.1 h).1
theorem IsRow.cell (h : IsRow w g t cs) {j : Nat} {v : Value} (hv : cs[j]? = some v) : w.cell? ⟨g, j, none⟩ = some v := by
  rw [cell_of_row w g j cs t _ h]; exact hv
theorem IsRow.frozen (h : IsRow w g t cs) (j : Nat) : w.frozen? ⟨g, j, none⟩ = false := by
  simp [World.frozen?, show w.heap[g]? = some (.cells cs t (0, 0)) from h]
theorem IsRow.alloc (h : IsRow w g t cs) (o : Obj) : IsRow (w.alloc o) g t cs := by
  have := h.lt
  unfold IsRow World.alloc at *
  simp only [Array.getElem?_push]
  rw [if_neg (by omega)]; exact h
theorem IsRow.drew (h : IsRow w g t cs) : IsRow w.drew g t cs := h
theorem IsRow.drewN (h : IsRow w g t cs) (n : Nat) : IsRow (w.drewN n) g t cs := h
theorem IsRow.new (w : World) (cs : Array Value) (t : TypeId) : IsRow (w.alloc (.cells cs t)) w.heap.size t cs := by
  unfold IsRow World.alloc; simp
theorem IsRow.set (h : IsRow w g t cs) (i : Nat) (v : Value) : IsRow (w.setCell ⟨g, i, none⟩ v) g t (cs.setIfInBounds i v) := by
  unfold IsRow
  rw [setCell_eq_setRow w g i cs t _ v h]
  exact setRow_heap w g cs _ t _ h
theorem IsRow.setOther (h : IsRow w g t cs) (a : Addr) (v : Value) (hne : a.block ≠ g) : IsRow (w.setCell a v) g t cs := by
  unfold IsRow World.setCell at *
  simp only [Array.getElem?_modify]
  rw [if_neg hne]; exact h
theorem IsRow.row (h : IsRow w g t cs) (ds : Array Value) : IsRow (w.setRow g ds) g t ds := setRow_heap w g cs ds t _ h
theorem IsRow.below {w' : World} {B : Nat} (h : IsRow w g t cs) (hb : Below B w w') (hg : g < B) : IsRow w' g t cs := (hb.block g hg).trans h
end
def Digs (w : World) (g o v : Nat) : Prop := ∀ j, j < 16 → w.cell? ⟨g, o + j, none⟩ = some (.int .u64 ((dg v j : Nat) : Int))
theorem Digs.of_sz {w : World} {g : Nat} {t : TypeId} {v : Nat} (h : IsRow w g t (sz v)) : Digs w g 0 v := fun j hj => by
  rw [Nat.zero_add]; exact h.cell (sz_get v j hj)
theorem Digs.lt {w : World} {g o v : Nat} (h : Digs w g o v) : g < w.heap.size := World.block_lt_of_cell? _ _ (h 0 (by omega))
theorem Digs.below {w w' : World} {g o v B : Nat} (h : Digs w g o v) (hb : Below B w w') (hg : g < B) : Digs w' g o v := fun j hj => (hb.cell (p := ⟨g, o + j, none⟩) hg).trans (h j hj)
theorem wpList_build1 {P : Program} {ops : Array Oper} {rest : List Oper} {o : Oper} {a : Act} {w : World} {Q : Exit → Act → World → Prop} (hg : o.guard = none) (t : TypeId) (i : Nat) (x : Operand) (ho : o.op = .build t #[(i, x)])
    (v : Value) (hv : a.eval x = v) (cs : Array Value) (hb : P.built t [(i, v)] = some cs)
    (h : wpList P ops Q rest (a.put o.dst (.agg cs)) w) : wpList P ops Q (o :: rest) a w := by
  subst hv
  have e : ((#[(i, x)] : Array (Nat × Operand)).map fun (i, x) => (i, a.eval x)).toList = [(i, a.eval x)] := by simp
  refine wpList_build hg t _ ho ?_ ?_
  · rw [e, hb]; rfl
  · rw [e, hb]; exact h
theorem wpList_build2 {P : Program} {ops : Array Oper} {rest : List Oper} {o : Oper} {a : Act} {w : World} {Q : Exit → Act → World → Prop} (hg : o.guard = none) (t : TypeId) (i j : Nat) (x y : Operand) (ho : o.op = .build t #[(i, x), (j, y)])
    (u v : Value) (hu : a.eval x = u) (hv : a.eval y = v) (cs : Array Value) (hb : P.built t [(i, u), (j, v)] = some cs)
    (h : wpList P ops Q rest (a.put o.dst (.agg cs)) w) : wpList P ops Q (o :: rest) a w := by
  subst hu hv
  have e : ((#[(i, x), (j, y)] : Array (Nat × Operand)).map fun (i, x) => (i, a.eval x)).toList = [(i, a.eval x), (j, a.eval y)] := by simp
  refine wpList_build hg t _ ho ?_ ?_
  · rw [e, hb]; rfl
  · rw [e, hb]; exact h
theorem Digs.cells {w : World} {g o v : Nat} (h : Digs w g o v) : ∀ j u, (sz v)[j]? = some u → w.cell? ⟨g, o + j, none⟩ = some u := fun j u hu => by
  have hj : j < 16 := by
    rcases Nat.lt_or_ge j 16 with h | h
    · exact h
    · rw [Array.getElem?_eq_none (by simpa using h)] at hu; cases hu
  rw [sz_get v j hj] at hu
  rw [h j hj]; exact hu
section
variable {P : Program} {ops : Array Oper} {rest : List Oper} {o : Oper} {a : Act} {w : World} {Q : Act → Prop}
theorem wpStill_load_row (hw : Region.wanted o (yielded ops a.tmps) = true) (ty : TypeId) (x : Operand) (ho : o.op = .load ty x)
    (g : Nat) (hx : a.eval x = .pointer (some ⟨g, 0, none⟩)) (t : TypeId) (cs : Array Value) (fr : Nat × Nat) (d : TypeDesc) (hg : w.heap[g]? = some (.cells cs t fr))
    (hu : P.underlying ty = some d) (hd : (match d with | .struct _ | .array _ _ => true | _ => false) = true) (hi : (P.info? ty).map (·.size) = some cs.size)
    (h : wpStill P ops w Q rest (a.put o.dst (.agg cs))) : wpStill P ops w Q (o :: rest) a := by
  unfold wpStill
  rw [if_pos hw]
  unfold Oper.still execOp
  simp only [ho, hx, Instr.loadAt, Instr.sureAddr, Sem.run_bind, Sem.run_pure, Result.andThen_ok, run_loadVar_row w g t ty cs fr d hg hu hd hi]
  exact ⟨rfl, h⟩
theorem wpStill_build0 (hw : Region.wanted o (yielded ops a.tmps) = true) (t : TypeId) (ho : o.op = .build t #[])
    (cs : Array Value) (hb : P.built t [] = some cs)
    (h : wpStill P ops w Q rest (a.put o.dst (.agg cs))) : wpStill P ops w Q (o :: rest) a := by
  have e : ((#[] : Array (Nat × Operand)).map fun (i, x) => (i, a.eval x)).toList = [] := by simp
  unfold wpStill
  rw [if_pos hw]
  unfold Oper.still execOp
  simp only [ho, Sem.run_bind, run_build w t _ cs (e ▸ hb), Result.andThen_ok]
  exact ⟨rfl, h⟩
theorem wpStill_build2 (hw : Region.wanted o (yielded ops a.tmps) = true) (t : TypeId) (i j : Nat) (x y : Operand) (ho : o.op = .build t #[(i, x), (j, y)])
    (u v : Value) (hu : a.eval x = u) (hv : a.eval y = v) (cs : Array Value) (hb : P.built t [(i, u), (j, v)] = some cs)
    (h : wpStill P ops w Q rest (a.put o.dst (.agg cs))) : wpStill P ops w Q (o :: rest) a := by
  subst hu hv
  have e : ((#[(i, x), (j, y)] : Array (Nat × Operand)).map fun (i, x) => (i, a.eval x)).toList = [(i, a.eval x), (j, a.eval y)] := by simp
  unfold wpStill
  rw [if_pos hw]
  unfold Oper.still execOp
  simp only [ho, Sem.run_bind, run_build w t _ cs (e ▸ hb), Result.andThen_ok]
  exact ⟨rfl, h⟩
end
section
variable {P : Program} {ops : Array Oper} {rest : List Oper} {o : Oper} {a : Act} {w : World}
theorem isLoadS {Q : Act → Prop} {ty : TypeId} {x : Operand} (ho : o.op = .load ty x) (h : wpStill P ops w Q (o :: rest) a) : wpStill P ops w Q (o :: rest) a := h
theorem isBuildS {Q : Act → Prop} {ty : TypeId} {ps : Array (Nat × Operand)} (ho : o.op = .build ty ps) (h : wpStill P ops w Q (o :: rest) a) : wpStill P ops w Q (o :: rest) a := h
theorem isBuildL {Q : Exit → Act → World → Prop} {ty : TypeId} {ps : Array (Nat × Operand)} (ho : o.op = .build ty ps) (h : wpList P ops Q (o :: rest) a w) : wpList P ops Q (o :: rest) a w := h
theorem isStoreL {Q : Exit → Act → World → Prop} {ty : TypeId} {x y : Operand} (ho : o.op = .store ty x y) (h : wpList P ops Q (o :: rest) a w) : wpList P ops Q (o :: rest) a w := h
end
section
variable {P : Program} {ops : Array Oper} {o : Oper} {a : Act} {w : World} {K : Act → World → Prop} {Q : Exit → Act → World → Prop} {E : Prop}
end
end Go.Proofs.YtimccfnlcnlffaaGreat


namespace Go.Proofs
open Go.Shelf
def Tryz.lays129_ren : Go.Shelf.Ren := ⟨fun | 129 => 83 | n => n, fun | 53 => 81 | 3 => 3 | 4 => 4 | 46 => 112 | 5 => 5 | 9 => 9 | n => n, fun | n => n⟩
theorem Tryz.lays129 : Go.Proofs.Lays.n129 Tryz.prog Tryz.lays129_ren := {
  mixed := by kernel_rfl
  f129 := Tryz.func83.trans (congrArg some (by kernel_rfl))
  t3 := Tryz.underlying3
  a3 := Tryz.isAgg3
  z3 := Tryz.sizeOf3
  v3 := Tryz.zeroValue3
  t4 := Tryz.underlying4
  a4 := Tryz.isAgg4
  z4 := Tryz.sizeOf4
  v4 := Tryz.zeroValue4
  t5 := Tryz.underlying5
  a5 := Tryz.isAgg5
  z5 := Tryz.sizeOf5
  v5 := Tryz.zeroValue5
  t9 := Tryz.underlying9
  a9 := Tryz.isAgg9
  z9 := Tryz.sizeOf9
  v9 := Tryz.zeroValue9
  t46 := Tryz.underlying112
  a46 := Tryz.isAgg112
  z46 := Tryz.sizeOf112
  v46 := Tryz.zeroValue112
  t53 := Tryz.underlying81
  a53 := Tryz.isAgg81
  z53 := Tryz.sizeOf81
  v53 := Tryz.zeroValue81 }
theorem Tryz.bits_Len64 (x : Int) (w : World) (h0 : 0 ≤ x) (h1 : x ≤ 18446744073709551615) :
    Calls Tryz.prog 83 #[.int .u64 x] w fun e w' => e = .returned (.int .i64 (Lib.bitLen x.toNat)) ∧ w' = w := Any.bits_Len64 Tryz.lays129 x w h0 h1
def Tryz.lays264_ren : Go.Shelf.Ren := ⟨fun | 264 => 88 | n => n, fun | 53 => 81 | 46 => 112 | n => n, fun | n => n⟩
theorem Tryz.lays264 : Go.Proofs.Lays.n264 Tryz.prog Tryz.lays264_ren := {
  mixed := by kernel_rfl
  f264 := Tryz.func88.trans (congrArg some (by kernel_rfl))
  t46 := Tryz.underlying112
  a46 := Tryz.isAgg112
  z46 := Tryz.sizeOf112
  v46 := Tryz.zeroValue112
  t53 := Tryz.underlying81
  a53 := Tryz.isAgg81
  z53 := Tryz.sizeOf81
  v53 := Tryz.zeroValue81 }
open Go.RowKit Go.Lib in
theorem Tryz.bits_Mul64 (x y : Nat) (hx : x < 18446744073709551616) (hy : y < 18446744073709551616) (w : World) :
    Calls Tryz.prog 88 #[.int .u64 x, .int .u64 y] w fun e w' => e = .returned (.tuple #[.int .u64 ((x * y / 18446744073709551616 : Nat) : Int), .int .u64 ((x * y % 18446744073709551616 : Nat) : Int)]) ∧ w' = w := Any.bits_Mul64 Tryz.lays264 x y hx hy w
namespace YtimccfnlcnlffaaGreat
open Go.RowKit
theorem add64 (x y c : Int) (hx : 0 ≤ x) (hx' : x < 18446744073709551616) (hy : 0 ≤ y) (hy' : y < 18446744073709551616) (hc0 : 0 ≤ c) (hc : c ≤ 1) (w : World) : (callFunc 89 #[.int .u64 x, .int .u64 y, .int .u64 c]).run Tryz.prog w =
    .ok (.value (.tuple #[.int .u64 ((x + y + c) % 18446744073709551616), .int .u64 ((x + y + c) / 18446744073709551616)])) w := by
  obtain ⟨x, rfl⟩ := Int.eq_ofNat_of_zero_le hx
  obtain ⟨y, rfl⟩ := Int.eq_ofNat_of_zero_le hy
  obtain ⟨c, rfl⟩ := Int.eq_ofNat_of_zero_le hc0
  rw [run_callFunc_extern Tryz.func89 (by kernel_rfl) (by kernel_rfl) (by kernel_rfl) (e := add64Entry) (by kernel_rfl), run_add64 x y c (by omega) (by omega) (by omega) (by omega)]
  simp only [Result.andThen]
end YtimccfnlcnlffaaGreat
end Go.Proofs


namespace Go.Proofs.YtimccfnlcnlffaaGreat
open Go.RowKit
def ndTo (v : Nat) : Nat → Nat
  | 0 => 0
  | n + 1 => if dg v n = 0 then ndTo v n else n + 1
def nd (v : Nat) : Nat := ndTo v 16
theorem ndTo_le (v n : Nat) : ndTo v n ≤ n := by
  induction n with
  | zero => exact Nat.le_refl _
  | succ n ih => unfold ndTo; split <;> omega
theorem nd_le (v : Nat) : nd v ≤ 16 := ndTo_le v 16
theorem parts_any (g o v : Nat) (w : World) (hd : Digs w g o v) :
    Calls Tryz.prog 87 #[.pointer (some ⟨g, o, none⟩)] w fun e w' => e = .returned (.int .i64 (nd v)) ∧ w = w' := by
  have HD := Lib.hid hd
  clear hd
  have hle := nd_le v
  go_enter Tryz.func87, Tryz.ntmps87
  go_wp2
  go_loopw [3] (fun i wr => wr = w ∧ ∃ n : Nat, n ≤ 16 ∧ i = .int .i64 n ∧ ndTo v n = nd v) (fun i _ => (intOf i).toNat)
  case atStart => exact ⟨rfl, 16, Nat.le_refl _, rfl, rfl⟩
  case round =>
    obtain ⟨rfl, n, hn, rfl, hq⟩ := hrel
    match n, hn, hq with
    | 0, hn, hq =>
      have hq' : nd v = 0 := hq.symm
      go_wp2_with fail
      go_ret
      exact ⟨by rw [hq']; rfl, rfl⟩
    | n + 1, hn, hq =>
      have hc := HD.out n (by omega)
      have e1 : ((n + 1 : Nat) : Int) - 1 = n := by omega
      by_cases hz : dg v n = 0
      · have hq2 : ndTo v n = nd v := by rw [← hq]; rw [ndTo, if_pos hz]
        rw [hz] at hc
        go_wp2_with fail
        go_roundw
        case rel => exact ⟨by first | trivial | rfl, n, by omega, by go_num, hq2⟩
        case measure => simp [intOf]
      · have hq2 : nd v = n + 1 := by rw [← hq]; rw [ndTo, if_neg hz]
        go_wp2_with fail
        go_ret
        exact ⟨by rw [hq2]; rfl, rfl⟩
def lb (n : Nat) : Nat := Lib.bitLen n
theorem lb_le (n : Nat) (h : n < 18446744073709551616) : lb n ≤ 64 := Lib.bitLen_le n 64 (Nat.le_refl _) h
theorem len64_any (n : Nat) (hn : n < 18446744073709551616) (w : World) : Calls Tryz.prog 83 #[.int .u64 n] w fun e w' => e = .returned (.int .i64 (lb n)) ∧ w = w' :=
  (Tryz.bits_Len64 n w (by omega) (by omega)).mono fun e w' h => ⟨h.1, h.2.symm⟩
def bl (v : Nat) : Nat := if nd v = 0 then 0 else 64 * (nd v - 1) + lb (dg v (nd v - 1))
theorem bits_any (g o v : Nat) (w : World) (hd : Digs w g o v) :
    Calls Tryz.prog 104 #[.pointer (some ⟨g, o, none⟩)] w fun e w' => e = .returned (.int .i64 (bl v)) ∧ w = w' := by
  have HD := Lib.hid hd
  clear hd
  have hle := nd_le v
  go_enter Tryz.func104, Tryz.ntmps104
  go_wp2_with fail
  refine (parts_any g o v _ HD.out).mono ?_
  rintro e w' ⟨rfl, rfl⟩
  by_cases hz : nd v = 0
  · have hb : bl v = 0 := by unfold bl; rw [if_pos hz]
    rw [hz]
    go_wp2_with fail
    go_ret
    exact ⟨by rw [hb]; rfl, rfl⟩
  · obtain ⟨n, hn⟩ : ∃ n, nd v = n + 1 := ⟨nd v - 1, by omega⟩
    have hb : bl v = 64 * n + lb (dg v n) := by unfold bl; rw [if_neg hz, hn]; rfl
    rw [hn]
    have e1 : ((n + 1 : Nat) : Int) - 1 = n := by omega
    have hc := HD.out n (by omega)
    have hlt := dg_lt v n
    have hlb := lb_le _ hlt
    have hw : wrap64 (64 * (n : Int) + (lb (dg v n) : Int)) = ((64 * n + lb (dg v n) : Nat) : Int) := by unfold wrap64; omega
    go_wp2_with fail
    refine (len64_any _ hlt _).mono ?_
    rintro e w' ⟨rfl, rfl⟩
    go_wp2_with fail
    go_ret
    exact ⟨by rw [hb]; exact ret_int (by omega), rfl⟩
def cm (a b : Nat) : Int := if a < b then -1 else if b < a then 1 else 0
theorem cmp_any (g o a h p b : Nat) (w : World) (hd : Digs w g o a) (he : Digs w h p b) (ha : a < Bs ^ 16) (hb : b < Bs ^ 16) :
    Calls Tryz.prog 102 #[.pointer (some ⟨g, o, none⟩), .pointer (some ⟨h, p, none⟩)] w fun e w' => e = .returned (.int .i64 (cm a b)) ∧ Below w.heap.size w w' ∧ w.heap.size = w'.heap.size := by
  have HD := Lib.hid hd
  have HE := Lib.hid he
  clear hd he
  go_enter Tryz.func102, Tryz.ntmps102
  go_wp2
  go_loopw [5] (fun i wr => (∃ n : Nat, n ≤ 16 ∧ i = .int .i64 (n - 1) ∧ a / Bs ^ n = b / Bs ^ n) ∧ Below w.heap.size w wr ∧ w.heap.size = wr.heap.size) (fun i _ => (intOf i + 1).toNat)
  case atStart => exact ⟨⟨16, by omega, rfl, by rw [Nat.div_eq_of_lt ha, Nat.div_eq_of_lt hb]⟩, Below.refl _ _, rfl⟩
  case round =>
    obtain ⟨⟨n, hn, rfl, hq⟩, hbel, hsz⟩ := hrel
    match n, hn, hq with
    | 0, hn, hq =>
      simp only [Nat.pow_zero, Nat.div_one] at hq
      have hc : cm a b = 0 := by unfold cm; rw [if_neg (by omega), if_neg (by omega)]
      go_wp2_with fail
      go_ret
      exact ⟨by rw [hc]; rfl, hbel, hsz⟩
    | n + 1, hn, hq =>
      have e1 : ((n + 1 : Nat) : Int) - 1 = n := by omega
      rw [e1]
      have c1 : wr.cell? ⟨g, o + n, none⟩ = some (.int .u64 ((dg a n : Nat) : Int)) := (hbel.cell (p := ⟨g, o + n, none⟩) HD.out.lt).trans (HD.out n (by omega))
      have c2 : wr.cell? ⟨h, p + n, none⟩ = some (.int .u64 ((dg b n : Nat) : Int)) := (hbel.cell (p := ⟨h, p + n, none⟩) HE.out.lt).trans (HE.out n (by omega))
      have s1 := dg_step a n
      have s2 := dg_step b n
      rw [hq] at s1
      have hbel1 : Below w.heap.size w wr.drew := hbel.drew
      by_cases hlt : dg a n < dg b n
      · have hcm : cm a b = -1 := by
          unfold cm
          have key : a < b := Nat.lt_of_div_lt_div (c := Bs ^ n) (by omega)
          rw [if_pos key]
        clear s1 s2 hq
        have hlt' : ((dg a n : Nat) : Int) < ((dg b n : Nat) : Int) := by omega
        go_wp2_with fail
        go_region
        go_wp2_with fail
        go_ret
        exact ⟨by rw [hcm]; rfl, by repeat (first | with_reducible exact hbel | with_reducible apply Below.drew | with_reducible apply below_drewN), hsz⟩
      · have hlt' : decide (((dg a n : Nat) : Int) < ((dg b n : Nat) : Int)) = false := decide_eq_false (by omega)
        by_cases hgt : dg b n < dg a n
        · have hcm : cm a b = 1 := by
            unfold cm
            have key : b < a := Nat.lt_of_div_lt_div (c := Bs ^ n) (by omega)
            rw [if_neg (by omega), if_pos key]
          clear s1 s2 hq
          have hgt' : ((dg b n : Nat) : Int) < ((dg a n : Nat) : Int) := by omega
          go_wp2_with fail
          go_region
          go_wp2_with fail
          go_region
          go_wp2_with fail
          go_ret
          exact ⟨by rw [hcm]; rfl, by repeat (first | with_reducible exact hbel | with_reducible apply Below.drew | with_reducible apply below_drewN), hsz⟩
        · have hgt' : decide (((dg b n : Nat) : Int) < ((dg a n : Nat) : Int)) = false := decide_eq_false (by omega)
          have hqq : a / Bs ^ n = b / Bs ^ n := by omega
          clear s1 s2 hq
          go_wp2_with fail
          go_region
          go_wp2_with fail
          go_region
          go_wp2_with fail
          go_roundw
          case rel => exact ⟨⟨n, by omega, by go_num, hqq⟩, by repeat (first | with_reducible exact hbel | with_reducible apply Below.drew | with_reducible apply below_drewN), hsz⟩
          case measure => simp [intOf]
end Go.Proofs.YtimccfnlcnlffaaGreat


namespace Go.Proofs.YtimccfnlcnlffaaGreat
open Go.RowKit
def addTo (a b i : Nat) : Nat → Nat := fun j => if j < i then dg (a + b) j else 0
theorem add_any (g o a h p b : Nat) (w : World) (hd : Digs w g o a) (he : Digs w h p b) :
    Calls Tryz.prog 101 #[.pointer (some ⟨g, o, none⟩), .pointer (some ⟨h, p, none⟩)] w fun e w' => e = .returned (.tuple #[.agg (sz (a + b)), .int .u64 (cry a b 16)]) ∧ Below w.heap.size w w' := by
  have HD := Lib.hid hd
  have HE := Lib.hid he
  clear hd he
  go_enter Tryz.func101, Tryz.ntmps101
  go_wp2
  go_loopw [7, 9] (fun c i wr => ∃ k : Nat, k ≤ 16 ∧ i = .int .i64 k ∧ c = .int .u64 (cry a b k) ∧ IsRow wr (w.heap.size + 1) 93 (lim 16 (addTo a b k)) ∧ IsRow wr w.heap.size 93 (sz 0) ∧ Below w.heap.size w wr) (fun _ i _ => 16 - (intOf i).toNat)
  case atStart =>
    refine ⟨0, by omega, rfl, by rw [cry_zero]; rfl, ?_, ?_, by repeat (first | with_reducible exact Below.refl _ _ | with_reducible refine Below.alloc ?_ (by first | (simp; done) | (simp; omega) | omega) _)⟩
    · rw [lim_same 16 (addTo a b 0) (dg 0) (fun j _ => by rw [dg_zero]; unfold addTo; rw [if_neg (by omega)])]
      rw [← sz_zero]
      have := IsRow.new (w.alloc (.cells (sz 0) 93)) (sz 0) 93
      rw [show (w.alloc (.cells (sz 0) 93)).heap.size = w.heap.size + 1 from by simp] at this
      exact this
    · rw [← sz_zero]
      exact (IsRow.new _ _ _).alloc _
  case round =>
    obtain ⟨k, hk, rfl, rfl, hrow, hres, hbel⟩ := hrel
    by_cases hlt : k < 16
    · have c1 : wr.cell? ⟨g, o + k, none⟩ = some (.int .u64 ((dg a k : Nat) : Int)) := (hbel.cell (p := ⟨g, o + k, none⟩) HD.out.lt).trans (HD.out k hlt)
      have c2 : wr.cell? ⟨h, p + k, none⟩ = some (.int .u64 ((dg b k : Nat) : Int)) := (hbel.cell (p := ⟨h, p + k, none⟩) HE.out.lt).trans (HE.out k hlt)
      have c3 := hrow.cell (lim_get 16 (addTo a b k) k hlt)
      have f3 := hrow.frozen k
      have hz := hbel.size
      have q1 := dg_lt a k
      have q2 := dg_lt b k
      have q3 := cry_le a b k
      have ha : ∀ w : World, (callFunc 89 #[.int .u64 (dg a k : Nat), .int .u64 (dg b k : Nat), .int .u64 (cry a b k : Nat)]).run Tryz.prog w =
        .ok (.value (.tuple #[.int .u64 (dg (a + b) k : Nat), .int .u64 (cry a b (k + 1) : Nat)])) w := fun w => by
        rw [add64 _ _ _ (by omega) (by omega) (by omega) (by omega) (by omega) (by omega)]
        have e1 := cry_dig a b k
        have e2 := cry_next a b k
        rw [show ((dg a k : Nat) : Int) + (dg b k : Nat) + (cry a b k : Nat) = ((dg a k + dg b k + cry a b k : Nat) : Int) from by omega]
        rw [show (((dg a k + dg b k + cry a b k : Nat) : Int) % 18446744073709551616) = ((dg (a + b) k : Nat) : Int) from by omega]
        rw [show (((dg a k + dg b k + cry a b k : Nat) : Int) / 18446744073709551616) = ((cry a b (k + 1) : Nat) : Int) from by omega]
      go_wp2_with fail
      go_region
      go_wp2_with fail
      go_roundw
      case rel =>
        refine ⟨k + 1, by omega, by go_num, rfl, ?_, ?_, by repeat (first | with_reducible exact hbel | with_reducible apply Below.drew | with_reducible apply below_drewN | with_reducible refine Below.setCell ?_ (by first | (simp; done) | (simp; omega) | omega) _)⟩
        · have := hrow.drew.set k (.int .u64 (dg (a + b) k : Nat))
          rw [lim_set 16 (addTo a b k) (addTo a b (k + 1)) k _ hlt (by unfold addTo; rw [if_pos (by omega)]) (fun j hj hne => by unfold addTo; by_cases hjk : j < k <;> simp [hjk, show j < k + 1 ↔ j < k by omega])] at this
          exact this
        · exact hres.drew.setOther _ _ (by simp)
      case measure => simp [intOf]; omega
    · obtain rfl : k = 16 := by omega
      rw [lim_same 16 (addTo a b 16) (dg (a + b)) (fun j hj => by unfold addTo; rw [if_pos hj])] at hrow
      have hrow' : IsRow wr (w.heap.size + 1) 93 (sz (a + b)) := hrow
      clear hrow
      go_wp2_with (first | (refine wpList_load_row rfl 93 _ rfl (w.heap.size + 1) rfl _ (sz (a + b)) _ _ hrow' Tryz.underlying93 rfl (by rw [sz_size]; kernel_rfl) ?_) | (refine wpList_store_row rfl 93 _ _ rfl w.heap.size (sz (a + b)) rfl rfl _ (sz 0) hres (by rw [sz_size]; kernel_rfl) (by simp) (sz_one _) ?_))
      have hrow2 := hres.row (sz (a + b))
      have hl := run_loadVar_row (P := Tryz.prog) (wr.setRow w.heap.size (sz (a + b))) w.heap.size _ 93 (sz (a + b)) _ _ hrow2 Tryz.underlying93 rfl (by rw [sz_size]; kernel_rfl)
      refine bodyPost_ret (v := .tuple #[.agg (sz (a + b)), .int .u64 (cry a b 16 : Nat)]) (by simp [results, Tryz.results101, asAddr, hl]) rfl ⟨rfl, below_setRow hbel (Nat.le_refl _) _⟩
end Go.Proofs.YtimccfnlcnlffaaGreat


namespace Go.Proofs.YtimccfnlcnlffaaGreat
open Go Go.RowKit Sx
def limL (n : Nat) (f : Nat → Nat) : List Value := (List.range n).map fun j => .int .u64 ((f j : Nat) : Int)
theorem lim_is (n : Nat) (f : Nat → Nat) : lim n f = ⟨limL n f⟩ := rfl
theorem limL_len (n : Nat) (f : Nat → Nat) : (limL n f).length = n := by simp [limL]
theorem limL_get {n : Nat} {f : Nat → Nat} {j : Nat} (h : j < n) : (limL n f).getD j undef = .int .u64 ((f j : Nat) : Int) := by simp [limL, List.getD_eq_getElem?_getD, h]
theorem limL_one (n : Nat) (f : Nat → Nat) : (limL n f).all Value.oneCell' = true := by simp [limL, Value.oneCell']
theorem limL_same {n : Nat} {f g : Nat → Nat} (h : ∀ j, j < n → f j = g j) : limL n f = limL n g := List.map_congr_left fun j hj => by rw [h j (by simpa using hj)]
theorem flat_lim (n : Nat) (f : Nat → Nat) : flatB (.agg ⟨limL n f⟩) n = true := by
  simp [flatB, limL_len, limL_one]
theorem plain_lim (n : Nat) (f : Nat → Nat) : plain2 (.agg ⟨limL n f⟩) = true := by
  simp [plain2, limL, plain1]
def wiL (neg over : Bool) (v : Nat) : List Value := .bool neg :: .bool over :: limL 16 (dg v)
theorem wi_is (neg over : Bool) (v : Nat) : wi neg over v = ⟨wiL neg over v⟩ := by
  apply Array.toList_inj.1
  simp [wi, wiL, sz, lim_is]
theorem flat_wi (neg over : Bool) (v : Nat) : flatB (.agg ⟨wiL neg over v⟩) 18 = true := by
  simp [flatB, wiL, limL_len, limL_one, Value.oneCell']
theorem plain_wi (neg over : Bool) (v : Nat) : plain2 (.agg ⟨wiL neg over v⟩) = true := by
  simp [plain2, wiL, limL, plain1]
theorem all2_map {F : Nat → Prop} {ρ : Nat → Nat × Nat} : ∀ {vs xs : List Value}, All2 (Den F ρ) vs xs → xs = vs.map (den ρ)
  | [], [], _ => rfl
  | [], _ :: _, h => h.elim
  | _ :: _, [], h => h.elim
  | v :: vs, x :: xs, h => by rw [List.map_cons, all2_map h.2, h.1.self]
theorem call_heap {P : Program} {g : FuncId} {vs : List Value} {h : List (Option Chunk)} {v : Value} (rh : List Nat) (hv : plain3 v = true) (hr : ∀ xs w, (callFunc g xs).run P w = .ok (.enter g xs) w)
    (hc : ∀ (ρ : Nat → Nat × Nat) (w : World), (∀ i ∈ rh, ∀ c, h[i]? = some (some c) → ∀ j, j < c.n → w.cell? ⟨(ρ i).1, (ρ i).2 + j, none⟩ = some (den1 ρ (c.f j))) → Calls P g ⟨vs.map (den ρ)⟩ w fun e w' => e = .returned v ∧ Below w.heap.size w w') : CallOK P g vs h v [] rh :=
  fun h₂ hrh _ X ρ w xs H hx => by
    have hxs : xs = vs.map (den ρ) := all2_map hx
    subst hxs
    refine .inr ⟨hr _ w, (hc ρ w (fun i hi c hic j hj => ?_)).mono ?_⟩
    · obtain ⟨x, hx, hd⟩ := H.cell i c ((hrh i hi).trans hic) j hj
      rw [hx, hd.self]
    · rintro e w' ⟨rfl, hb⟩
      exact ⟨v, rfl, ρ, AgreeOn.refl _ _, H.frame hb, fun r _ => den_plain3 hv r⟩
def Has (h : List (Option Chunk)) (i f v : Nat) : Prop := ∃ c, h[i]? = some (some c) ∧ f + 16 ≤ c.n ∧ ∀ j, j < 16 → c.f (f + j) = .int .u64 ((dg v j : Nat) : Int)
theorem Has.digs {h : List (Option Chunk)} {i f v : Nat} (hh : Has h i f v) {ρ : Nat → Nat × Nat} {w : World} {rh : List Nat} (hi : i ∈ rh) (hc : ∀ i ∈ rh, ∀ c, h[i]? = some (some c) → ∀ j, j < c.n → w.cell? ⟨(ρ i).1, (ρ i).2 + j, none⟩ = some (den1 ρ (c.f j))) : Digs w (ρ i).1 ((ρ i).2 + f) v := fun j hj => by
  obtain ⟨c, h1, h2, h3⟩ := hh
  rw [Nat.add_assoc, hc i hi c h1 (f + j) (by omega), h3 j hj]
  rfl
theorem has_wi {h : List (Option Chunk)} {i v : Nat} {o neg over : Bool} (hi : h[i]? = some (some ⟨o, 18, [(0, 18, .agg ⟨wiL neg over v⟩)]⟩)) : Has h i 2 v :=
  ⟨_, hi, Nat.le_refl _, fun j hj => by
    show cellOf _ _ = _
    rw [cellOf_cons, if_pos (by omega)]
    simp only [cellIn, wiL, Nat.sub_zero]
    rw [show 2 + j = j + 1 + 1 from by omega]
    simp only [List.getD_cons_succ]
    exact limL_get hj⟩
theorem cParts (i f v : Nat) (h : List (Option Chunk)) (hh : Has h i f v) : CallOK Tryz.prog 87 [.pointer (some ⟨i, f, some 0⟩)] h (.int .i64 (nd v)) [] [i] :=
  call_heap [i] rfl (Tryz.call87) fun ρ w hc => (parts_any (ρ i).1 ((ρ i).2 + f) v w (hh.digs (by simp) hc)).mono (by rintro e w' ⟨he, rfl⟩; exact ⟨he, Below.refl _ _⟩)
theorem reads_lim {o : Bool} {n p q : Nat} {f : Nat → Nat} (hp : p < n) (hq : q = p) : Reads ⟨o, n, [(0, n, .agg ⟨limL n f⟩)]⟩ q false 1 (.int .u64 ((f p : Nat) : Int)) := by
  subst hq
  refine ⟨hp, rfl, ?_⟩
  show cellOf _ _ = _
  rw [cellOf_cons, if_pos (by omega)]
  exact limL_get hp
theorem reads_wi {o neg over : Bool} {v p q : Nat} (hp : p < 16) (hq : q = 2 + p) : Reads ⟨o, 18, [(0, 18, .agg ⟨wiL neg over v⟩)]⟩ q false 1 (.int .u64 ((dg v p : Nat) : Int)) := by
  subst hq
  refine ⟨by show 2 + p < 18; omega, rfl, ?_⟩
  show cellOf _ _ = _
  rw [cellOf_cons, if_pos (by omega)]
  simp only [cellIn, wiL, Nat.sub_zero]
  rw [show 2 + p = p + 1 + 1 from by omega]
  simp only [List.getD_cons_succ]
  exact limL_get hp
theorem writes_lim {n p q : Nat} {f g : Nat → Nat} {x : Int} (hp : p < n) (hq : q = p) (hx : x = ((g p : Nat) : Int)) (hg : ∀ k, k < n → k ≠ p → g k = f k) : Writes ⟨true, n, [(0, n, .agg ⟨limL n f⟩)]⟩ q 1 (.int .u64 x) ⟨true, n, [(0, n, .agg ⟨limL n g⟩)]⟩ := by
  subst hq
  refine ⟨rfl, hp, rfl, fun k hk => ?_⟩
  have hk : k < n := hk
  have e : ∀ f : Nat → Nat, (⟨true, n, [(0, n, .agg ⟨limL n f⟩)]⟩ : Chunk).f k = .int .u64 ((f k : Nat) : Int) := fun f => by
    show cellOf _ _ = _
    rw [cellOf_cons, if_pos (by omega)]
    exact limL_get hk
  rw [e, e]
  by_cases h : k = q
  · subst h; rw [if_pos (by omega), hx]; rfl
  · rw [if_neg (by omega), hg k hk h]
theorem cMul64 (x y : Nat) (h : List (Option Chunk)) (hx : x < 18446744073709551616) (hy : y < 18446744073709551616) : CallOK Tryz.prog 88 [.int .u64 x, .int .u64 y] h (.tuple #[.int .u64 ((x * y / 18446744073709551616 : Nat) : Int), .int .u64 ((x * y % 18446744073709551616 : Nat) : Int)]) [] [] :=
  call_pure rfl rfl (Tryz.call88 _) fun w => (Tryz.bits_Mul64 x y hx hy w).mono (by rintro e w' ⟨he, rfl⟩; exact ⟨he, Below.refl _ _⟩)
theorem cAdd64 (x y c : Int) (h : List (Option Chunk)) (hx : 0 ≤ x) (hx' : x < 18446744073709551616) (hy : 0 ≤ y) (hy' : y < 18446744073709551616) (hc0 : 0 ≤ c) (hc : c ≤ 1) : CallOK Tryz.prog 89 [.int .u64 x, .int .u64 y, .int .u64 c] h (.tuple #[.int .u64 ((x + y + c) % 18446744073709551616), .int .u64 ((x + y + c) / 18446744073709551616)]) [] [] :=
  call_ext rfl rfl fun w => YtimccfnlcnlffaaGreat.add64 x y c hx hx' hy hy' hc0 hc w
end Go.Proofs.YtimccfnlcnlffaaGreat


namespace Go.Proofs.YtimccfnlcnlffaaGreat
open Go.RowKit
theorem Tryz.info_u64 : (Tryz.prog.info? 81).isSome = true := by kernel_rfl
theorem Tryz.cells_u64 : Tryz.prog.cellsOf 81 = 1 := by kernel_rfl
theorem run_part_u64 (w : World) {xs : Array Value} {off : Nat} {v : Value} (hx : xs[off]? = some v) : (part 81 xs off).run Tryz.prog w = .ok v w := by
  have ha : (isAgg 81).run Tryz.prog w = .ok false w := by
    unfold isAgg
    rw [Sem.run_bind, run_underlying Tryz.underlying81 w]
    rfl
  simp [part, Sem.run_bind, ha, hx]
theorem eqItems_lim (d n : Nat) (f g : Nat → Nat) (w : World) : ∀ is : List Nat, (∀ i ∈ is, i < n) → (Op.eqItems (d + 1) 81 1 (lim n f) (lim n g) is).run Tryz.prog w = .ok (is.all fun i => f i == g i) w
  | [], _ => by simp [Op.eqItems]
  | i :: is, h => by
    have ih := eqItems_lim d n f g w is (fun j hj => h j (by simp [hj]))
    have hi := h i (by simp)
    have e1 := run_part_u64 w (lim_get n f i hi)
    have e2 := run_part_u64 w (lim_get n g i hi)
    have e3 := run_equalIn_int (P := Tryz.prog) w d 81 .u64 .u64 (f i) (g i) Tryz.underlying81
    simp only [Op.eqItems, Sem.run_bind, Nat.mul_one, e1, e2, e3, Result.andThen_ok]
    by_cases hfg : f i = g i
    · simp [hfg, ih]
    · have : ((f i : Nat) : Int) ≠ (g i : Nat) := by omega
      simp [hfg, this]
theorem equal_sz (u v : Nat) (hu : u < Bs ^ 16) (hv : v < Bs ^ 16) (w : World) : (Op.equalIn 10000 93 (.agg (sz u)) (.agg (sz v))).run Tryz.prog w = .ok (decide (u = v)) w := by
  obtain ⟨i, hi⟩ := Option.isSome_iff_exists.1 Tryz.info_u64
  rw [run_equalIn_array (P := Tryz.prog) w 9999 (sz u) (sz v) Tryz.underlying93 hi, Tryz.cells_u64]
  unfold sz
  rw [eqItems_lim 9998 16 _ _ w (List.range 16) (fun i hi => by simpa using hi)]
  congr 1
  by_cases h : u = v
  · subst h; simp
  · simp only [h, decide_false]
    rw [← Bool.not_eq_true, List.all_eq_true]
    intro hall
    exact h (eq_of_dg 16 u v hu hv fun j hj => by simpa using hall j (by simpa using hj))
theorem equal_zero (u : Nat) (hu : u < Bs ^ 16) (w : World) : (Op.equalIn 10000 93 (.agg (sz u)) (.agg #[.int .u64 0, .int .u64 0, .int .u64 0, .int .u64 0, .int .u64 0, .int .u64 0, .int .u64 0, .int .u64 0, .int .u64 0, .int .u64 0, .int .u64 0, .int .u64 0, .int .u64 0, .int .u64 0, .int .u64 0, .int .u64 0])).run Tryz.prog w = .ok (decide (u = 0)) w := by
  rw [← sz_zero]
  exact equal_sz u 0 hu (bsp_pos 16) w
theorem lim_lit (f : Nat → Nat) : lim 16 f = #[.int .u64 (f 0 : Nat), .int .u64 (f 1 : Nat), .int .u64 (f 2 : Nat), .int .u64 (f 3 : Nat), .int .u64 (f 4 : Nat), .int .u64 (f 5 : Nat), .int .u64 (f 6 : Nat), .int .u64 (f 7 : Nat), .int .u64 (f 8 : Nat), .int .u64 (f 9 : Nat), .int .u64 (f 10 : Nat), .int .u64 (f 11 : Nat), .int .u64 (f 12 : Nat), .int .u64 (f 13 : Nat), .int .u64 (f 14 : Nat), .int .u64 (f 15 : Nat)] := by
  unfold lim
  rw [show List.range 16 = [0, 1, 2, 3, 4, 5, 6, 7, 8, 9, 10, 11, 12, 13, 14, 15] from rfl]
  rfl
theorem sz_lit (v : Nat) : sz v = #[.int .u64 (dg v 0 : Nat), .int .u64 (dg v 1 : Nat), .int .u64 (dg v 2 : Nat), .int .u64 (dg v 3 : Nat), .int .u64 (dg v 4 : Nat), .int .u64 (dg v 5 : Nat), .int .u64 (dg v 6 : Nat), .int .u64 (dg v 7 : Nat), .int .u64 (dg v 8 : Nat), .int .u64 (dg v 9 : Nat), .int .u64 (dg v 10 : Nat), .int .u64 (dg v 11 : Nat), .int .u64 (dg v 12 : Nat), .int .u64 (dg v 13 : Nat), .int .u64 (dg v 14 : Nat), .int .u64 (dg v 15 : Nat)] := lim_lit (dg v)
theorem wi_of (neg over : Bool) (f : Nat → Nat) : #[Value.bool neg, Value.bool over] ++ lim 16 f = #[.bool neg, .bool over, .int .u64 (f 0 : Nat), .int .u64 (f 1 : Nat), .int .u64 (f 2 : Nat), .int .u64 (f 3 : Nat), .int .u64 (f 4 : Nat), .int .u64 (f 5 : Nat), .int .u64 (f 6 : Nat), .int .u64 (f 7 : Nat), .int .u64 (f 8 : Nat), .int .u64 (f 9 : Nat), .int .u64 (f 10 : Nat), .int .u64 (f 11 : Nat), .int .u64 (f 12 : Nat), .int .u64 (f 13 : Nat), .int .u64 (f 14 : Nat), .int .u64 (f 15 : Nat)] := by
  rw [lim_lit]; simp
theorem wi_lit (neg over : Bool) (v : Nat) : wi neg over v = #[.bool neg, .bool over, .int .u64 (dg v 0 : Nat), .int .u64 (dg v 1 : Nat), .int .u64 (dg v 2 : Nat), .int .u64 (dg v 3 : Nat), .int .u64 (dg v 4 : Nat), .int .u64 (dg v 5 : Nat), .int .u64 (dg v 6 : Nat), .int .u64 (dg v 7 : Nat), .int .u64 (dg v 8 : Nat), .int .u64 (dg v 9 : Nat), .int .u64 (dg v 10 : Nat), .int .u64 (dg v 11 : Nat), .int .u64 (dg v 12 : Nat), .int .u64 (dg v 13 : Nat), .int .u64 (dg v 14 : Nat), .int .u64 (dg v 15 : Nat)] := wi_of neg over (dg v)
theorem wi_zero (neg over : Bool) : wi neg over 0 = #[.bool neg, .bool over, .int .u64 0, .int .u64 0, .int .u64 0, .int .u64 0, .int .u64 0, .int .u64 0, .int .u64 0, .int .u64 0, .int .u64 0, .int .u64 0, .int .u64 0, .int .u64 0, .int .u64 0, .int .u64 0, .int .u64 0, .int .u64 0] := by
  unfold wi; rw [sz_zero]; rfl
def TopBits : Nat := 1023
def Top : Nat := 2 ^ TopBits
theorem bs_two (n : Nat) : Bs ^ n = 2 ^ (64 * n) := by
  rw [Nat.pow_mul]
theorem pow_up (a b : Nat) (h : a < b) : 2 ^ a < 2 ^ b := Nat.pow_lt_pow_right (by decide) h
theorem top_of (n : Nat) (h : TopBits < 64 * n) : Top < Bs ^ n := by
  rw [bs_two]; exact pow_up _ _ h
theorem top_lt : Top < Bs ^ 16 := top_of 16 (by decide)
theorem ndTo_lt (v : Nat) : ∀ n, v < Bs ^ n → v < Bs ^ ndTo v n
  | 0, h => h
  | n + 1, h => by
    rw [ndTo]
    split
    · rename_i hz
      refine ndTo_lt v n ?_
      have s := dg_step v n
      rw [hz, Nat.div_eq_of_lt h] at s
      exact (Nat.div_eq_zero_iff_lt (bsp_pos n)).1 (by omega)
    · exact h
theorem ndTo_top (v : Nat) : ∀ n, ndTo v n = 0 ∨ dg v (ndTo v n - 1) ≠ 0
  | 0 => .inl rfl
  | n + 1 => by
    rw [ndTo]
    split
    · exact ndTo_top v n
    · rename_i h; exact .inr h
theorem bitLenAux_spec : ∀ (f x : Nat), x < 2 ^ f → x < 2 ^ Lib.bitLenAux f x ∧ (x ≠ 0 → 2 ^ (Lib.bitLenAux f x - 1) ≤ x ∧ 0 < Lib.bitLenAux f x)
  | 0, x, h => by
    have : x = 0 := by simpa using h
    subst this
    exact ⟨by simp [Lib.bitLenAux], fun h => absurd rfl h⟩
  | f + 1, x, h => by
    rw [Lib.bitLenAux]
    split
    · rename_i hz; subst hz; exact ⟨by decide, fun h => absurd rfl h⟩
    · rename_i hz
      obtain ⟨h1, h2⟩ := bitLenAux_spec f (x / 2) (by rw [Nat.pow_succ] at h; omega)
      refine ⟨by rw [Nat.add_comm, Nat.pow_succ]; omega, fun _ => ⟨?_, by omega⟩⟩
      rw [show 1 + Lib.bitLenAux f (x / 2) - 1 = Lib.bitLenAux f (x / 2) from by omega]
      by_cases hh : x / 2 = 0
      · have : Lib.bitLenAux f (x / 2) = 0 := by rw [hh]; cases f <;> simp [Lib.bitLenAux]
        rw [this]; simp; omega
      · obtain ⟨h3, h4⟩ := h2 hh
        obtain ⟨m, hm⟩ : ∃ m, Lib.bitLenAux f (x / 2) = m + 1 := ⟨_, (Nat.succ_pred_eq_of_pos h4).symm⟩
        rw [hm] at h3 ⊢
        rw [Nat.pow_succ]
        simp at h3
        omega
theorem bl_spec (v : Nat) (hv : v < Bs ^ 16) : v < 2 ^ bl v ∧ (v ≠ 0 → 2 ^ (bl v - 1) ≤ v ∧ 0 < bl v) := by
  have hlt := ndTo_lt v 16 hv
  have htop := ndTo_top v 16
  have e0 : ndTo v 16 = nd v := rfl
  rw [e0] at hlt htop
  rcases htop with h0 | h0
  · have hb : bl v = 0 := by unfold bl; rw [if_pos h0]
    rw [h0] at hlt
    have : v = 0 := by simpa using hlt
    subst this
    exact ⟨by rw [hb]; decide, fun h => absurd rfl h⟩
  · by_cases hz : nd v = 0
    · rw [hz] at hlt
      have : v = 0 := by simpa using hlt
      subst this
      exact absurd (dg_zero _) h0
    obtain ⟨n, hn⟩ : ∃ n, nd v = n + 1 := ⟨nd v - 1, by omega⟩
    have hb : bl v = 64 * n + lb (dg v n) := by unfold bl; rw [if_neg hz, hn]; rfl
    rw [hn] at hlt h0
    have h0' : dg v n ≠ 0 := h0
    have hd : v / Bs ^ n = dg v n := by
      have s := dg_step v n
      rw [Nat.div_eq_of_lt hlt] at s
      omega
    obtain ⟨b1, b2⟩ := bitLenAux_spec 64 (dg v n) (dg_lt v n)
    obtain ⟨b3, b4⟩ := b2 h0'
    have e1 : Lib.bitLenAux 64 (dg v n) = lb (dg v n) := rfl
    rw [e1] at b1 b3 b4
    have eB := bs_two n
    rw [hb]
    refine ⟨?_, fun _ => ⟨?_, by omega⟩⟩
    · rw [Nat.pow_add, ← eB, Nat.mul_comm, ← Nat.div_lt_iff_lt_mul (bsp_pos n), hd]; exact b1
    · rw [show 64 * n + lb (dg v n) - 1 = 64 * n + (lb (dg v n) - 1) from by omega, Nat.pow_add, ← eB, Nat.mul_comm, ← Nat.le_div_iff_mul_le (bsp_pos n), hd]
      exact b3
theorem bl_small (v k : Nat) (hv : v < Bs ^ 16) (h : v < 2 ^ k) : bl v ≤ k := by
  obtain ⟨h1, h2⟩ := bl_spec v hv
  by_cases hz : v = 0
  · subst hz
    have : bl 0 = 0 := by decide
    omega
  · obtain ⟨h3, h4⟩ := h2 hz
    have : bl v - 1 < k := (Nat.pow_lt_pow_iff_right (by decide)).1 (Nat.lt_of_le_of_lt h3 h)
    omega
end Go.Proofs.YtimccfnlcnlffaaGreat


namespace Go.Proofs.YtimccfnlcnlffaaGreat
open Go.RowKit
theorem built_of (x : Int) : Tryz.prog.built 93 [(0, .int .u64 x)] = some #[.int .u64 x, .int .u64 0, .int .u64 0, .int .u64 0, .int .u64 0, .int .u64 0, .int .u64 0, .int .u64 0, .int .u64 0, .int .u64 0, .int .u64 0, .int .u64 0, .int .u64 0, .int .u64 0, .int .u64 0, .int .u64 0] := by kernel_rfl
theorem built_sz (v : Nat) (h : v < 18446744073709551616) : Tryz.prog.built 93 [(0, .int .u64 v)] = some (sz v) := by
  rw [sz_small v h]; exact built_of _
theorem built_0 : Tryz.prog.built 93 [] = some (sz 0) := by
  rw [sz_zero]; kernel_rfl
theorem built_wi (neg : Bool) (v : Nat) : Tryz.prog.built 95 [(0, .bool neg), (2, .agg (sz v))] = some (wi neg false v) := by
  rw [sz_lit, wi_lit]; kernel_rfl
def zi (z : Int) : Array Value := wi (decide (z < 0)) false z.natAbs
@[simp] theorem zi_size (z : Int) : (zi z).size = 18 := wi_size _ _ _
theorem wof_neg (v : Nat) (h : 0 < v ∧ v ≤ 9223372036854775808) (w : World) : Calls Tryz.prog 62 #[.int .i64 (-(v : Int))] w fun e w' => e = .returned (.agg (wi true false v)) ∧ Below w.heap.size w w' := by
  have hB : Below w.heap.size w w := Below.refl _ _
  have hr := IsRow.new w (wi false false 0) 95
  rw [wi_zero] at hr
  obtain ⟨h0, h1⟩ := h
  have hwr : IntKind.u64.wrap (-IntKind.u64.wrap (-(v : Int))) = v := by
    show ((-((-(v : Int)) % 18446744073709551616)) % 18446744073709551616 : Int) = v
    omega
  have hb1 : Tryz.prog.built 93 [(0, .int .u64 (IntKind.u64.wrap (-IntKind.u64.wrap (-(v : Int)))))] = some (sz v) := by rw [hwr]; exact built_sz v (by omega)
  clear hwr
  have hn : -(v : Int) < 0 := by omega
  have hb2 := built_wi true v
  go_enter Tryz.func62, Tryz.ntmps62
  go_wp2_with (first | (refine isBuildL (ty := 93) rfl ?_; refine wpList_build1 ?_ 93 0 _ rfl (.int .u64 (IntKind.u64.wrap (-IntKind.u64.wrap (-(v : Int))))) rfl (sz v) (hb1) ?_; (focus rfl)) | (refine isBuildL (ty := 95) rfl ?_; refine wpList_build2 ?_ 95 0 2 _ _ rfl (.bool true) (.agg (sz v)) rfl rfl (wi true false v) (hb2) ?_; (focus rfl)) | (refine isStoreL (ty := 95) rfl ?_; refine wpList_store_row ?_ 95 _ _ rfl (w.heap.size) (wi true false v) rfl rfl _ (_) (hr) (by rw [wi_size]; kernel_rfl) (by simp) (wi_one _ _ _) ?_; (focus rfl)) | fail)
  exact bodyPost_ret (results_cell_row Tryz.results62 _ _ w.heap.size _ _ _ _ rfl (hr.row _) Tryz.underlying95 rfl (by rw [wi_size]; kernel_rfl)) rfl ⟨rfl, below_setRow (hB.alloc (Nat.le_refl _) _) (Nat.le_refl _) _⟩
theorem wof_pos (v : Nat) (h : v < 9223372036854775808) (w : World) : Calls Tryz.prog 62 #[.int .i64 ((v : Int))] w fun e w' => e = .returned (.agg (wi false false v)) ∧ Below w.heap.size w w' := by
  have hB : Below w.heap.size w w := Below.refl _ _
  have hr := IsRow.new w (wi false false 0) 95
  rw [wi_zero] at hr
  have hwr : IntKind.u64.wrap (v : Int) = v := by
    show ((v : Int) % 18446744073709551616 : Int) = v
    omega
  have hb1 : Tryz.prog.built 93 [(0, .int .u64 (v : Int))] = some (sz v) := built_sz v (by omega)
  have hn : ¬ (v : Int) < 0 := by omega
  have hb2 := built_wi false v
  go_enter Tryz.func62, Tryz.ntmps62
  go_wp2_with (first | (refine isBuildL (ty := 93) rfl ?_; refine wpList_build1 ?_ 93 0 _ rfl (.int .u64 (v : Int)) rfl (sz v) (hb1) ?_; (focus rfl)) | (refine isBuildL (ty := 95) rfl ?_; refine wpList_build2 ?_ 95 0 2 _ _ rfl (.bool false) (.agg (sz v)) rfl rfl (wi false false v) (hb2) ?_; (focus rfl)) | (refine isStoreL (ty := 95) rfl ?_; refine wpList_store_row ?_ 95 _ _ rfl (w.heap.size) (wi false false v) rfl rfl _ (_) (hr) (by rw [wi_size]; kernel_rfl) (by simp) (wi_one _ _ _) ?_; (focus rfl)) | fail)
  exact bodyPost_ret (results_cell_row Tryz.results62 _ _ w.heap.size _ _ _ _ rfl (hr.row _) Tryz.underlying95 rfl (by rw [wi_size]; kernel_rfl)) rfl ⟨rfl, below_setRow (hB.alloc (Nat.le_refl _) _) (Nat.le_refl _) _⟩
theorem wof_any (n : Int) (h0 : -9223372036854775808 ≤ n) (h1 : n < 9223372036854775808) (w : World) : Calls Tryz.prog 62 #[.int .i64 n] w fun e w' => e = .returned (.agg (zi n)) ∧ Below w.heap.size w w' := by
  by_cases hn : n < 0
  · have := wof_neg n.natAbs (by omega) w
    rw [show -(n.natAbs : Int) = n from by omega] at this
    unfold zi; rw [decide_eq_true hn]; exact this
  · have := wof_pos n.natAbs (by omega) w
    rw [show (n.natAbs : Int) = n from by omega] at this
    unfold zi; rw [decide_eq_false hn]; exact this
theorem made_any (neg : Bool) (v : Nat) (hv : v < Top) (w : World) : Calls Tryz.prog 90 #[.bool neg, .agg (sz v)] w fun e w' => e = .returned (.agg (wi (neg && decide (v ≠ 0)) false v)) ∧ Below w.heap.size w w' := by
  have hv16 : v < Bs ^ 16 := Nat.lt_trans hv top_lt
  have hbl : bl v ≤ 1023 := bl_small v TopBits hv16 hv
  have hB : Below w.heap.size w w := Below.refl _ _
  have hr := (IsRow.new w (sz v) 93).alloc (.cells (wi false false 0) 95)
  have hr2 := IsRow.new (w.alloc (.cells (sz v) 93)) (wi false false 0) 95
  have hdg := Digs.of_sz hr
  rw [wi_zero] at hdg hr hr2
  have HD := Lib.hid hdg
  clear hdg
  have hB2 : Below w.heap.size w ((w.alloc (.cells (sz v) 93)).alloc (.cells #[.bool false, .bool false, .int .u64 0, .int .u64 0, .int .u64 0, .int .u64 0, .int .u64 0, .int .u64 0, .int .u64 0, .int .u64 0, .int .u64 0, .int .u64 0, .int .u64 0, .int .u64 0, .int .u64 0, .int .u64 0, .int .u64 0, .int .u64 0] 95)) := by
    refine Below.alloc (Below.alloc hB ?_ _) ?_ _
    · exact Nat.le_refl _
    · simp
  go_enter Tryz.func90, Tryz.ntmps90
  go_wp2_with fail
  refine (bits_any w.heap.size 0 v _ HD.out).mono ?_
  rintro e w' ⟨rfl, rfl⟩
  clear HD
  cases neg
  · go_wp2_with fail
    rw [show (w.alloc (.cells (sz v) 93)).heap.size = w.heap.size + 1 from by simp] at hr2
    generalize hW : ((w.alloc (.cells (sz v) 93)).alloc (.cells #[.bool false, .bool false, .int .u64 0, .int .u64 0, .int .u64 0, .int .u64 0, .int .u64 0, .int .u64 0, .int .u64 0, .int .u64 0, .int .u64 0, .int .u64 0, .int .u64 0, .int .u64 0, .int .u64 0, .int .u64 0, .int .u64 0, .int .u64 0] 95)) = W at hr hr2 hB2 ⊢
    clear hW
    have heq := equal_sz v 0 hv16 (bsp_pos 16) W.drew
    clear heq
    refine wp_region_still_tail 8 (by kernel_rfl) (by kernel_rfl) ?_
    simp only [List.take_succ_cons, List.take_zero, List.drop_succ_cons, List.drop_zero]
    repeat (first | (refine isLoadS (ty := 93) rfl ?_; refine wpStill_load_row ?_ 93 _ rfl (w.heap.size) rfl _ (sz v) _ _ (hr.drew) Tryz.underlying93 rfl (by rw [sz_size]; kernel_rfl) ?_; (focus (first | rfl | (go_simp; done)))) | (refine isBuildS (ty := 93) rfl ?_; refine wpStill_build0 ?_ 93 rfl (sz 0) (built_0) ?_; (focus (first | rfl | (go_simp; done)))) | (refine isBuildS (ty := 95) rfl ?_; refine wpStill_build2 ?_ 95 0 2 _ _ rfl (.bool false) (.agg (sz v)) rfl rfl (wi false false v) (built_wi _ _) ?_; (focus (first | rfl | (go_simp; done)))) | still_step)
    refine wpStill_nil ?_
    change wpList _ _ _ _ _ W.drew
    go_wp2_with (refine isStoreL (ty := 95) rfl ?_; refine wpList_store_row ?_ 95 _ _ rfl (w.heap.size + 1) (wi false false v) rfl rfl _ (_) (hr2.drew) (by rw [wi_size]; kernel_rfl) (by simp) (wi_one _ _ _) ?_; (focus rfl))
    exact bodyPost_ret (results_cell_row Tryz.results90 _ _ (w.heap.size + 1) _ _ _ _ rfl (hr2.drew.row _) Tryz.underlying95 rfl (by rw [wi_size]; kernel_rfl)) rfl ⟨by rw [show (false && decide (v ≠ 0)) = false from by simp], below_setRow hB2.drew (by omega) _⟩
  · by_cases hz : v = 0
    · have HZ := Lib.hid hz
      clear hz
      go_wp2_with fail
      rw [show (w.alloc (.cells (sz v) 93)).heap.size = w.heap.size + 1 from by simp] at hr2
      generalize hW : ((w.alloc (.cells (sz v) 93)).alloc (.cells #[.bool false, .bool false, .int .u64 0, .int .u64 0, .int .u64 0, .int .u64 0, .int .u64 0, .int .u64 0, .int .u64 0, .int .u64 0, .int .u64 0, .int .u64 0, .int .u64 0, .int .u64 0, .int .u64 0, .int .u64 0, .int .u64 0, .int .u64 0] 95)) = W at hr hr2 hB2 ⊢
      clear hW
      have heq := equal_sz v 0 hv16 (bsp_pos 16) W.drew
      rw [decide_eq_true HZ.out] at heq
      refine wp_region_still_tail 8 (by kernel_rfl) (by kernel_rfl) ?_
      simp only [List.take_succ_cons, List.take_zero, List.drop_succ_cons, List.drop_zero]
      repeat (first | (refine isLoadS (ty := 93) rfl ?_; refine wpStill_load_row ?_ 93 _ rfl (w.heap.size) rfl _ (sz v) _ _ (hr.drew) Tryz.underlying93 rfl (by rw [sz_size]; kernel_rfl) ?_; (focus (first | rfl | (go_simp; done)))) | (refine isBuildS (ty := 93) rfl ?_; refine wpStill_build0 ?_ 93 rfl (sz 0) (built_0) ?_; (focus (first | rfl | (go_simp; done)))) | (refine isBuildS (ty := 95) rfl ?_; refine wpStill_build2 ?_ 95 0 2 _ _ rfl (.bool false) (.agg (sz v)) rfl rfl (wi false false v) (built_wi _ _) ?_; (focus (first | rfl | (go_simp; done)))) | still_step)
      refine wpStill_nil ?_
      change wpList _ _ _ _ _ W.drew
      go_wp2_with (refine isStoreL (ty := 95) rfl ?_; refine wpList_store_row ?_ 95 _ _ rfl (w.heap.size + 1) (wi false false v) rfl rfl _ (_) (hr2.drew) (by rw [wi_size]; kernel_rfl) (by simp) (wi_one _ _ _) ?_; (focus rfl))
      exact bodyPost_ret (results_cell_row Tryz.results90 _ _ (w.heap.size + 1) _ _ _ _ rfl (hr2.drew.row _) Tryz.underlying95 rfl (by rw [wi_size]; kernel_rfl)) rfl ⟨by rw [show (true && decide (v ≠ 0)) = false from by simp [HZ.out]], below_setRow hB2.drew (by omega) _⟩
    · have HZ := Lib.hid hz
      clear hz
      go_wp2_with fail
      rw [show (w.alloc (.cells (sz v) 93)).heap.size = w.heap.size + 1 from by simp] at hr2
      generalize hW : ((w.alloc (.cells (sz v) 93)).alloc (.cells #[.bool false, .bool false, .int .u64 0, .int .u64 0, .int .u64 0, .int .u64 0, .int .u64 0, .int .u64 0, .int .u64 0, .int .u64 0, .int .u64 0, .int .u64 0, .int .u64 0, .int .u64 0, .int .u64 0, .int .u64 0, .int .u64 0, .int .u64 0] 95)) = W at hr hr2 hB2 ⊢
      clear hW
      have heq := equal_sz v 0 hv16 (bsp_pos 16) W.drew
      rw [decide_eq_false HZ.out] at heq
      refine wp_region_still_tail 8 (by kernel_rfl) (by kernel_rfl) ?_
      simp only [List.take_succ_cons, List.take_zero, List.drop_succ_cons, List.drop_zero]
      repeat (first | (refine isLoadS (ty := 93) rfl ?_; refine wpStill_load_row ?_ 93 _ rfl (w.heap.size) rfl _ (sz v) _ _ (hr.drew) Tryz.underlying93 rfl (by rw [sz_size]; kernel_rfl) ?_; (focus (first | rfl | (go_simp; done)))) | (refine isBuildS (ty := 93) rfl ?_; refine wpStill_build0 ?_ 93 rfl (sz 0) (built_0) ?_; (focus (first | rfl | (go_simp; done)))) | (refine isBuildS (ty := 95) rfl ?_; refine wpStill_build2 ?_ 95 0 2 _ _ rfl (.bool true) (.agg (sz v)) rfl rfl (wi true false v) (built_wi _ _) ?_; (focus (first | rfl | (go_simp; done)))) | still_step)
      refine wpStill_nil ?_
      change wpList _ _ _ _ _ W.drew
      go_wp2_with (refine isStoreL (ty := 95) rfl ?_; refine wpList_store_row ?_ 95 _ _ rfl (w.heap.size + 1) (wi true false v) rfl rfl _ (_) (hr2.drew) (by rw [wi_size]; kernel_rfl) (by simp) (wi_one _ _ _) ?_; (focus rfl))
      exact bodyPost_ret (results_cell_row Tryz.results90 _ _ (w.heap.size + 1) _ _ _ _ rfl (hr2.drew.row _) Tryz.underlying95 rfl (by rw [wi_size]; kernel_rfl)) rfl ⟨by rw [show (true && decide (v ≠ 0)) = true from by simp [HZ.out]], below_setRow hB2.drew (by omega) _⟩
end Go.Proofs.YtimccfnlcnlffaaGreat


namespace Go.Proofs.YtimccfnlcnlffaaGreat
end Go.Proofs.YtimccfnlcnlffaaGreat


namespace Go.Proofs.YtimccfnlcnlffaaGreat
open Go.RowKit
end Go.Proofs.YtimccfnlcnlffaaGreat


namespace Go.Proofs.YtimccfnlcnlffaaGreat
open Go.RowKit
end Go.Proofs.YtimccfnlcnlffaaGreat


namespace Go.Proofs.YtimccfnlcnlffaaGreat
open Go.RowKit
end Go.Proofs.YtimccfnlcnlffaaGreat


namespace Go.Proofs.YtimccfnlcnlffaaGreat.Knuth
abbrev h : Nat := 4294967296
variable {y1 y0 u d q r : Nat}
structure Guess (y1 y0 u d q r : Nat) : Prop where
  sum : q * y1 + r = u
  ge : (u * h + d) / (y1 * h + y0) ≤ q
  le : q ≤ h + 1
theorem digit_lt (hd : d < h) (hu : u < y1 * h + y0) : (u * h + d) / (y1 * h + y0) < h := by
  rw [Nat.div_lt_iff_lt_mul (by omega)]
  have : (u + 1) * h ≤ (y1 * h + y0) * h := Nat.mul_le_mul_right _ hu
  rw [Nat.add_mul] at this
  rw [Nat.mul_comm h]
  simp only [h] at *
  omega
theorem first (hy1 : 2147483648 ≤ y1) (hy1' : y1 < h) (hy0 : y0 < h) (hd : d < h) (hu : u < y1 * h + y0) : Guess y1 y0 u d (u / y1) (u % y1) := by
  have hp : 0 < y1 := by omega
  refine ⟨by rw [Nat.mul_comm]; exact Nat.div_add_mod u y1, ?_, ?_⟩
  · -- the digit is at most u / y1
    have e1 : (u * h + d) / (y1 * h + y0) ≤ (u * h + d) / (y1 * h) := Nat.div_le_div_left (by omega) (by simp only [h]; omega)
    have e2 : (u * h + d) / (y1 * h) = u / y1 := by
      rw [Nat.mul_comm y1, ← Nat.div_div_eq_div_mul, Nat.mul_comm u, Nat.mul_add_div (by decide), Nat.div_eq_of_lt hd, Nat.add_zero]
    omega
  · have : u / y1 < h + 2 := by
      rw [Nat.div_lt_iff_lt_mul hp, Nat.add_mul]
      simp only [h] at *
      omega
    omega
theorem too_great (hp : 0 < y1 * h + y0) (hs : q * y1 + r = u) (hg : h * r + d < q * y0) : (u * h + d) / (y1 * h + y0) < q := by
  rw [Nat.div_lt_iff_lt_mul hp]
  have e : q * (y1 * h + y0) = q * y1 * h + q * y0 := by rw [Nat.mul_add, Nat.mul_assoc]
  rw [e, ← hs, Nat.add_mul, Nat.mul_comm r h]
  omega
theorem down (hd : d < h) (hu : u < y1 * h + y0) (g : Guess y1 y0 u d q r) (ht : h ≤ q ∨ h * r + d < q * y0) : 0 < q ∧ Guess y1 y0 u d (q - 1) (r + y1) := by
  have hp : 0 < y1 * h + y0 := by omega
  have hlt := digit_lt hd hu
  have hq : (u * h + d) / (y1 * h + y0) < q := by
    rcases ht with h1 | h1
    · exact Nat.lt_of_lt_of_le hlt h1
    · exact too_great hp g.sum h1
  have h0 : 0 < q := Nat.lt_of_le_of_lt (Nat.zero_le _) hq
  obtain ⟨k, rfl⟩ : ∃ k, q = k + 1 := ⟨q - 1, by omega⟩
  refine ⟨h0, ⟨?_, by simp only [Nat.add_sub_cancel]; omega, by have := g.le; simp only [Nat.add_sub_cancel]; omega⟩⟩
  have := g.sum
  rw [Nat.add_mul, Nat.one_mul] at this
  simp only [Nat.add_sub_cancel]
  omega
theorem two (u d1 d0 Y : Nat) (hY : 0 < Y) : (u * h * h + d1 * h + d0) / Y = (u * h + d1) / Y * h + ((u * h + d1) % Y * h + d0) / Y ∧ (u * h * h + d1 * h + d0) % Y = ((u * h + d1) % Y * h + d0) % Y := by
  have e0 := Nat.div_add_mod (u * h + d1) Y
  have e : u * h * h + d1 * h + d0 = Y * ((u * h + d1) / Y * h) + ((u * h + d1) % Y * h + d0) := by
    rw [← Nat.add_mul]
    conv => lhs; rw [← e0]
    rw [Nat.add_mul, Nat.mul_assoc, Nat.add_assoc]
  rw [e, Nat.mul_add_div hY, Nat.mul_add_mod]
  exact ⟨rfl, rfl⟩
theorem words (hi lo s : Nat) (hs : s < 64) : (hi * 18446744073709551616 + lo) * 2 ^ s = (hi * 2 ^ s + lo / 2 ^ (64 - s)) * 18446744073709551616 + lo * 2 ^ s % 18446744073709551616 := by
  have e : (18446744073709551616 : Nat) = 2 ^ (64 - s) * 2 ^ s := by rw [← Nat.pow_add, show 64 - s + s = 64 from by omega]
  have hp : 0 < 2 ^ s := Nat.pow_pos (by decide)
  have e1 : lo * 2 ^ s / 18446744073709551616 = lo / 2 ^ (64 - s) := by
    rw [e, Nat.mul_div_mul_right _ _ hp]
  have e2 := Nat.div_add_mod (lo * 2 ^ s) 18446744073709551616
  rw [e1] at e2
  rw [Nat.add_mul, Nat.add_mul, Nat.mul_right_comm hi]
  omega
theorem back (n y s : Nat) : n * 2 ^ s / (y * 2 ^ s) = n / y ∧ n * 2 ^ s % (y * 2 ^ s) / 2 ^ s = n % y := by
  have hp : 0 < 2 ^ s := Nat.pow_pos (by decide)
  refine ⟨Nat.mul_div_mul_right _ _ hp, ?_⟩
  rw [Nat.mul_mod_mul_right, Nat.mul_div_cancel _ hp]
end Go.Proofs.YtimccfnlcnlffaaGreat.Knuth


namespace Go.Proofs.YtimccfnlcnlffaaGreat
open Go.RowKit
end Go.Proofs.YtimccfnlcnlffaaGreat


namespace Go.Proofs.YtimccfnlcnlffaaGreat
open Go Go.RowKit Sx
theorem plain3_wi (neg over : Bool) (v : Nat) : plain3 (.agg ⟨wiL neg over v⟩) = true := plain_wi neg over v
theorem cMade (neg : Bool) (v : Nat) (h : List (Option Chunk)) (hv : v < Top) : CallOK Tryz.prog 90 [.bool neg, .agg ⟨limL 16 (dg v)⟩] h (.agg ⟨wiL (neg && decide (v ≠ 0)) false v⟩) [] [] :=
  call_pure (by simp [plain_lim]; rfl) (plain3_wi _ _ _) (Tryz.call90 _) fun w => by
    have := made_any neg v hv w
    rw [wi_is] at this
    exact this
theorem cOf (n : Int) (h : List (Option Chunk)) (h0 : -9223372036854775808 ≤ n) (h1 : n < 9223372036854775808) : CallOK Tryz.prog 62 [.int .i64 n] h (.agg ⟨wiL (decide (n < 0)) false n.natAbs⟩) [] [] :=
  call_pure rfl (plain3_wi _ _ _) (Tryz.call62 _) fun w => by
    have := wof_any n h0 h1 w
    unfold zi at this
    rw [wi_is] at this
    exact this
theorem reads_lims {o : Bool} {n m p : Nat} {f : Nat → Nat} (hp : p + m ≤ n) : Reads ⟨o, n, [(0, n, .agg ⟨limL n f⟩)]⟩ p true m (.agg ⟨limL m (fun k => f (p + k))⟩) := by
  refine ⟨hp, _, rfl, limL_len _ _, fun k hk => ?_⟩
  show cellOf _ _ = _
  rw [cellOf_cons, if_pos (by omega)]
  simp only [cellIn]
  rw [limL_get hk, show p + k - 0 = p + k from rfl, limL_get (by omega)]
theorem writes_all {n : Nat} {ps : List (Nat × Nat × Value)} {v : Value} : Writes ⟨true, n, ps⟩ 0 n v ⟨true, n, [(0, n, v)]⟩ := by
  refine ⟨rfl, by show 0 + n ≤ n; omega, rfl, fun k hk => ?_⟩
  have hk : k < n := hk
  show cellOf _ _ = _
  rw [cellOf_cons, if_pos (by omega), if_pos (by omega)]
end Go.Proofs.YtimccfnlcnlffaaGreat


namespace Go.Proofs.YtimccfnlcnlffaaGreat
def mT (v u i : Nat) : Nat := v % Bs ^ i * u
def mX (v u i j : Nat) : Nat := mT v u i + Bs ^ i * dg v i * (u % Bs ^ j)
def mC (v u i j : Nat) : Nat := mX v u i j / Bs ^ (i + j) - mT v u i / Bs ^ (i + j)
def mA (v u i j k : Nat) : Nat := if k < i + j then dg (mX v u i j) k else dg (mT v u i) k
theorem mX_zero (v u i : Nat) : mX v u i 0 = mT v u i := by simp [mX, Nat.mod_one]
theorem mC_zero (v u i : Nat) : mC v u i 0 = 0 := by simp [mC, mX_zero]
theorem mA_zero (v u i k : Nat) : mA v u i 0 k = dg (mT v u i) k := by unfold mA; rw [mX_zero]; split <;> rfl
theorem mT_zero (v u : Nat) : mT v u 0 = 0 := by simp [mT, Nat.mod_one]
theorem mX_succ (v u i j : Nat) : mX v u i (j + 1) = mX v u i j + Bs ^ (i + j) * (dg v i * dg u j) := by
  unfold mX
  rw [mod_step, Nat.mul_add, ← Nat.add_assoc, Nat.pow_add]
  congr 1
  simp only [Nat.mul_assoc, Nat.mul_left_comm]
theorem mX_ge (v u i j : Nat) : mT v u i ≤ mX v u i j := Nat.le_add_right _ _
theorem mX_div (v u i j : Nat) : mX v u i j / Bs ^ (i + j) = mT v u i / Bs ^ (i + j) + mC v u i j := by
  unfold mC
  have := Nat.div_le_div_right (c := Bs ^ (i + j)) (mX_ge v u i j)
  omega
theorem mX_next (v u i j : Nat) : mX v u i (j + 1) / Bs ^ (i + j) = mT v u i / Bs ^ (i + j) + mC v u i j + dg v i * dg u j := by
  rw [mX_succ, Nat.add_mul_div_left _ _ (bsp_pos _), mX_div]
theorem mC_step (v u i j : Nat) : mC v u i (j + 1) = (dg v i * dg u j + dg (mT v u i) (i + j) + mC v u i j) / 18446744073709551616 := by
  have h := mX_next v u i j
  have hs := dg_step (mT v u i) (i + j)
  have h2 : mX v u i (j + 1) / Bs ^ (i + (j + 1)) = mX v u i (j + 1) / Bs ^ (i + j) / Bs := by
    rw [Nat.div_div_eq_div_mul, show i + (j + 1) = (i + j) + 1 from rfl, Nat.pow_succ]
  generalize hc : mC v u i j = c at *
  show mX v u i (j + 1) / Bs ^ (i + (j + 1)) - mT v u i / Bs ^ (i + (j + 1)) = _
  rw [h2, h, hs, show i + (j + 1) = (i + j) + 1 from rfl]
  rw [show mT v u i / Bs ^ (i + j + 1) * Bs + dg (mT v u i) (i + j) + c + dg v i * dg u j = Bs * (mT v u i / Bs ^ (i + j + 1)) + (dg v i * dg u j + dg (mT v u i) (i + j) + c) from by rw [Nat.mul_comm]; omega]
  rw [Nat.mul_add_div bs_pos, Nat.add_sub_cancel_left]
theorem mA_dig (v u i j : Nat) : dg (mX v u i (j + 1)) (i + j) = (dg v i * dg u j + dg (mT v u i) (i + j) + mC v u i j) % 18446744073709551616 := by
  have h := mX_next v u i j
  have hs := dg_step (mT v u i) (i + j)
  show mX v u i (j + 1) / Bs ^ (i + j) % Bs = _
  rw [h, hs]
  rw [show mT v u i / Bs ^ (i + j + 1) * Bs + dg (mT v u i) (i + j) + mC v u i j + dg v i * dg u j = Bs * (mT v u i / Bs ^ (i + j + 1)) + (dg v i * dg u j + dg (mT v u i) (i + j) + mC v u i j) from by rw [Nat.mul_comm]; omega]
  rw [Nat.mul_add_mod]
theorem total_lt {a b t c : Nat} (ha : a < 18446744073709551616) (hb : b < 18446744073709551616) (ht : t < 18446744073709551616) (hc : c < 18446744073709551616) : (a * b + t + c) / 18446744073709551616 < 18446744073709551616 := by
  have : a * b ≤ 18446744073709551615 * 18446744073709551615 := Nat.mul_le_mul (by omega) (by omega)
  omega
theorem mC_lt (v u i : Nat) : ∀ j, mC v u i j < 18446744073709551616
  | 0 => by rw [mC_zero]; decide
  | j + 1 => by rw [mC_step]; exact total_lt (dg_lt _ _) (dg_lt _ _) (dg_lt _ _) (mC_lt v u i j)
theorem dg_add (x y p k : Nat) (h : k < p) : dg (x + Bs ^ p * y) k = dg x k := by
  rw [← dg_mod (x + Bs ^ p * y) p k h, Nat.add_mul_mod_self_left, dg_mod x p k h]
theorem mA_step (v u i j k : Nat) (h : k ≠ i + j) : mA v u i (j + 1) k = mA v u i j k := by
  unfold mA
  by_cases hk : k < i + j
  · rw [if_pos hk, if_pos (by omega), mX_succ, dg_add _ _ _ _ hk]
  · rw [if_neg hk, if_neg (by omega)]
theorem mA_at (v u i j : Nat) : mA v u i (j + 1) (i + j) = (dg v i * dg u j + dg (mT v u i) (i + j) + mC v u i j) % 18446744073709551616 := by
  unfold mA; rw [if_pos (by omega), mA_dig]
theorem mA_old (v u i j : Nat) : mA v u i j (i + j) = dg (mT v u i) (i + j) := by unfold mA; rw [if_neg (by omega)]
theorem mX_end (v u i n : Nat) (hu : u < Bs ^ n) : mX v u i n = mT v u (i + 1) := by
  unfold mX mT
  rw [Nat.mod_eq_of_lt hu, mod_step, Nat.add_mul]
theorem mT_lt (v u i n : Nat) (hu : u < Bs ^ n) : mT v u i < Bs ^ (i + n) := by
  unfold mT
  rw [Nat.pow_add]
  have h1 := Nat.mod_lt v (bsp_pos i)
  exact Nat.mul_lt_mul'' h1 hu
theorem mul_end (v u i n k : Nat) (hu : u < Bs ^ n) : dg (mT v u (i + 1)) k = if k < i + n then mA v u i n k else if k = i + n then mC v u i n else dg (mT v u i) k := by
  have hx := mX_end v u i n hu
  have h0 : mT v u i / Bs ^ (i + n) = 0 := Nat.div_eq_of_lt (mT_lt v u i n hu)
  by_cases h1 : k < i + n
  · rw [if_pos h1]; unfold mA; rw [if_pos h1, hx]
  · rw [if_neg h1]
    by_cases h2 : k = i + n
    · rw [if_pos h2]
      subst h2
      have h3 := mX_div v u i n
      rw [h0, Nat.zero_add, hx] at h3
      show mT v u (i + 1) / Bs ^ (i + n) % Bs = _
      rw [h3, Nat.mod_eq_of_lt (mC_lt v u i n)]
    · rw [if_neg h2]
      have h4 : i + n ≤ k := by omega
      have h5 : Bs ^ (i + n) ≤ Bs ^ k := Nat.pow_le_pow_right bs_pos h4
      have h6 : Bs ^ (i + 1 + n) ≤ Bs ^ k := Nat.pow_le_pow_right bs_pos (by omega)
      rw [dg_big _ _ (Nat.lt_of_lt_of_le (mT_lt v u i n hu) h5), dg_big _ _ (Nat.lt_of_lt_of_le (mT_lt v u (i + 1) n hu) h6)]
theorem mA_high (v u i n k : Nat) (h : i + n ≤ k) : mA v u i n k = dg (mT v u i) k := by unfold mA; rw [if_neg (by omega)]
theorem mT_end (v u m : Nat) (hv : v < Bs ^ m) : mT v u m = v * u := by unfold mT; rw [Nat.mod_eq_of_lt hv]
end Go.Proofs.YtimccfnlcnlffaaGreat


namespace Go.Proofs.YtimccfnlcnlffaaGreat
open Go Go.RowKit Sx
theorem mul_low (ab t c : Nat) : (((((ab % 18446744073709551616 : Nat) : Int) + (t : Int) + 0) % 18446744073709551616) + (c : Int) + 0) % 18446744073709551616 = (((ab + t + c) % 18446744073709551616 : Nat) : Int) := by omega
theorem mul_high (ab t c : Nat) (h : (ab + t + c) / 18446744073709551616 < 18446744073709551616) : IntKind.u64.wrap (IntKind.u64.wrap (((ab / 18446744073709551616 : Nat) : Int) + (((ab % 18446744073709551616 : Nat) : Int) + (t : Int) + 0) / 18446744073709551616) + ((((ab % 18446744073709551616 : Nat) : Int) + (t : Int) + 0) % 18446744073709551616 + (c : Int) + 0) / 18446744073709551616) = (((ab + t + c) / 18446744073709551616 : Nat) : Int) := by
  rw [IntKind.wrap_u64, IntKind.wrap_u64]; omega
theorem int_u64 {a b : Int} (h : a = b) : Value.int .u64 a = .int .u64 b := by rw [h]
theorem int_i64 {a b : Int} (h : a = b) : Value.int .i64 a = .int .i64 b := by rw [h]
theorem mul_x (n1 n2 : Bool) (v u : Nat) (hv : v < Bs ^ 16) (hu : u < Bs ^ 16) (hvu : v * u < Top) (w : World) :
    Calls Tryz.prog 69 #[.agg ⟨wiL n1 false v⟩, .agg ⟨wiL n2 false u⟩] w fun e w' => e = .returned (.agg ⟨wiL ((n1 != n2) && decide (v * u ≠ 0)) false (v * u)⟩) ∧ Below w.heap.size w w' := by
  have hn1 := nd_le v
  have hn2 := nd_le u
  have hvm : v < Bs ^ nd v := ndTo_lt v 16 hv
  have hun : u < Bs ^ nd u := ndTo_lt u 16 hu
  refine calls_pure (G := tys) w tysOK mixed Tryz.func69 (by rfl) (by simp [plain_wi]) (by exact plain_wi _ _ _) ?_
  repeat (refine N.go ?_; first | with_reducible (first | refine N.obl (flat_wi _ _ _) ?_ | refine N.obl (flat_lim _ _) ?_ | refine N.eq ?_ | refine N.obl rfl ?_ | refine N.obl ⟨by kernel_rfl, by kernel_rfl⟩ ?_ | refine N.alt ?_ | refine N.forkT ?_ | refine N.forkF ?_) | refine N.call (cParts _ _ _ _ (has_wi (by rfl))) ?_)
  refine N.go ?_
  refine N.loop (α := Nat) (fun i => i ≤ nd v) (fun i => nd v - i) (fun i => [(29, .int .i64 (i : Int))]) (fun i => [(3, ⟨true, 32, [(0, 32, .agg ⟨limL 32 (dg (mT v u i))⟩)]⟩)]) 0 (Nat.zero_le _) ?_ ?_
  · repeat (refine N.go ?_; first | exact N.true | with_reducible (first | refine N.obl rfl ?_ | refine N.obl (ChunkLe.refl _) ?_) | refine N.obl (ChunkLe.of (by rw [mT_zero, limL_same (g := fun _ => 0) (fun j _ => dg_zero j)]; rfl)) ?_)
  · intro i hi
    by_cases hlt : i < nd v
    · refine N.go ?_
      refine N.forkYes (by simpa using hlt) ?_
      refine N.go ?_
      refine N.loop (α := Nat) (fun j => j ≤ nd u) (fun j => nd u - j) (fun j => [(33, .int .i64 (j : Int)), (9, .int .u64 ((mC v u i j : Nat) : Int))]) (fun j => [(3, ⟨true, 32, [(0, 32, .agg ⟨limL 32 (mA v u i j)⟩)]⟩)]) 0 (Nat.zero_le _) ?_ ?_
      · repeat (refine N.go ?_; first | exact N.true | with_reducible (first | refine N.obl rfl ?_ | refine N.obl (ChunkLe.refl _) ?_) | refine N.obl (ChunkLe.of (by rw [limL_same (f := mA v u i 0) (g := dg (mT v u i)) (fun k _ => mA_zero v u i k)])) ?_ | refine N.obl (by rw [mC_zero]; rfl) ?_)
      · intro j hj
        have da := dg_lt v i
        have db := dg_lt u j
        have dt := dg_lt (mT v u i) (i + j)
        have dc := mC_lt v u i j
        by_cases hlt2 : j < nd u
        · have hab : dg v i * dg u j ≤ 18446744073709551615 * 18446744073709551615 := Nat.mul_le_mul (by omega) (by omega)
          refine N.go ?_
          refine N.forkYes (by simpa using hlt2) ?_
          refine N.go ?_
          refine N.alt ?_
          refine N.go ?_
          refine N.idx i 1 rfl (by omega) ?_
          refine N.go ?_
          refine N.load _ (reads_wi (p := i) (by omega) rfl) ?_
          refine N.go ?_
          refine N.idx j 1 rfl (by omega) ?_
          refine N.go ?_
          refine N.load _ (reads_wi (p := j) (by omega) rfl) ?_
          refine N.go ?_
          refine N.call (cMul64 (dg v i) (dg u j) _ da db) ?_
          refine N.go ?_
          refine N.obl ⟨by kernel_rfl, by kernel_rfl⟩ ?_
          refine N.go ?_
          refine N.idx (i + j) 1 (by rw [IntWalk.i64_in _ (by omega)]; omega) (by omega) ?_
          refine N.go ?_
          refine N.load _ (reads_lim (p := i + j) (by omega) rfl) ?_
          rw [mA_old]
          refine N.go ?_
          refine N.call (cAdd64 _ _ _ _ (by omega) (by omega) (by omega) (by omega) (by omega) (by omega)) ?_
          refine N.go ?_
          refine N.call (cAdd64 _ _ _ _ (by omega) (by omega) (by omega) (by omega) (by omega) (by omega)) ?_
          refine N.go ?_
          refine N.idx (i + j) 1 (by rw [IntWalk.i64_in _ (by omega)]; omega) (by omega) ?_
          refine N.go ?_
          refine N.store ⟨true, 32, [(0, 32, .agg ⟨limL 32 (mA v u i (j + 1))⟩)]⟩ (writes_lim (p := i + j) (by omega) rfl (by rw [mA_at]; exact mul_low _ _ _) (fun k _ hk => mA_step v u i j k hk)) ?_
          refine N.go ?_
          refine N.next (j + 1) ⟨by omega, by omega⟩ ?_
          repeat (refine N.go ?_; first | exact N.true | with_reducible (first | refine N.obl rfl ?_ | refine N.obl (ChunkLe.refl _) ?_) | refine N.obl (int_i64 (by rw [IntWalk.i64_in _ (by omega)]; rfl)) ?_ | refine N.obl (int_u64 (by rw [mC_step]; exact mul_high _ _ _ (total_lt da db dt dc))) ?_)
        · refine N.go ?_
          refine N.forkNo (by simpa using hlt2) ?_
          obtain rfl : j = nd u := by omega
          refine N.go ?_
          refine N.idx (i + nd u) 1 (by rw [IntWalk.i64_in _ (by omega)]; omega) (by omega) ?_
          refine N.go ?_
          refine N.store ⟨true, 32, [(0, 32, .agg ⟨limL 32 (dg (mT v u (i + 1)))⟩)]⟩ (writes_lim (p := i + nd u) (by omega) rfl (by rw [mul_end v u i (nd u) _ hun, if_neg (by omega), if_pos rfl]) (fun k _ hk => by
            rw [mul_end v u i (nd u) k hun]
            by_cases h : k < i + nd u
            · rw [if_pos h]
            · rw [if_neg h, if_neg hk, mA_high _ _ _ _ _ (by omega)])) ?_
          refine N.go ?_
          refine N.next (i + 1) ⟨by omega, by omega⟩ ?_
          repeat (refine N.go ?_; first | exact N.true | with_reducible (first | refine N.obl rfl ?_ | refine N.obl (ChunkLe.refl _) ?_) | refine N.obl (int_i64 (by rw [IntWalk.i64_in _ (by omega)]; rfl)) ?_)
    · have hm : i = nd v := by omega
      subst hm
      refine N.go ?_
      refine N.forkNo (by simp) ?_
      refine N.go ?_
      rw [mT_end v u _ hvm]
      refine N.mk ⟨0, 16, 0, rfl, rfl, ?_⟩
      refine N.go ?_
      refine N.mk ⟨0, 16, 0, ⟨rfl, by decide⟩, rfl, ?_⟩
      refine N.go ?_
      refine N.mk ⟨16, .agg ⟨limL 16 (dg (v * u))⟩, ⟨true, 16, [(0, 16, .agg ⟨limL 16 (dg (v * u))⟩)]⟩, rfl, ?_, flat_lim _ _, writes_all, ?_⟩
      · have := reads_lims (o := true) (n := 32) (m := 16) (p := 0) (f := dg (v * u)) (by omega)
        simp only [Nat.zero_add] at this
        exact this
      refine N.go ?_
      refine N.obl ⟨by kernel_rfl, by kernel_rfl⟩ ?_
      refine N.go ?_
      refine N.mk ⟨16, 32, 1, rfl, ⟨rfl, by decide⟩, ?_⟩
      refine N.go ?_
      refine N.loop (α := Nat) (fun j => j ≤ 16) (fun j => 16 - j) (fun j => [(86, .int .i64 (j : Int))]) (fun _ => []) 0 (by omega) ?_ ?_
      · repeat (refine N.go ?_; first | exact N.true | with_reducible refine N.obl rfl ?_ | with_reducible refine N.obl (ChunkLe.refl _) ?_ )
      · intro j hj
        by_cases hlt3 : j < 16
        · refine N.go ?_
          refine N.forkYes (by simp; omega) ?_
          refine N.go ?_
          refine N.idx j 1 rfl hlt3 ?_
          refine N.go ?_
          refine N.load _ (reads_lim (p := 16 + j) (by omega) rfl) ?_
          refine N.go ?_
          have hz : dg (v * u) (16 + j) = 0 := dg_big _ _ (Nat.lt_of_lt_of_le (Nat.lt_trans hvu top_lt) (Nat.pow_le_pow_right bs_pos (by omega)))
          rw [hz]
          refine N.forkNo rfl ?_
          refine N.go ?_
          refine N.next (j + 1) ⟨by omega, by omega⟩ ?_
          repeat (refine N.go ?_; first | exact N.true | with_reducible (first | refine N.obl rfl ?_ | refine N.obl (ChunkLe.refl _) ?_) | refine N.obl (int_i64 (by rw [IntWalk.i64_in _ (by omega)]; rfl)) ?_)
        · refine N.go ?_
          refine N.forkNo (by simp; omega) ?_
          repeat (refine N.go ?_; first | with_reducible (first | refine N.obl (flat_wi _ _ _) ?_ | refine N.obl (flat_lim _ _) ?_ | refine N.eq ?_ | refine N.obl rfl ?_ | refine N.obl ⟨by kernel_rfl, by kernel_rfl⟩ ?_ | refine N.alt ?_ | refine N.forkT ?_ | refine N.forkF ?_) | refine N.call (cMade _ _ _ hvu) ?_)
          rfl
end Go.Proofs.YtimccfnlcnlffaaGreat


namespace Go.Proofs.YtimccfnlcnlffaaGreat
open Go Go.RowKit Sx
abbrev wz (z : Int) : Value := .agg ⟨wiL (decide (z < 0)) false z.natAbs⟩
theorem plain_wz (z : Int) : plain2 (wz z) = true := plain_wi _ _ _
theorem plain3_wz (z : Int) : plain3 (wz z) = true := plain_wi _ _ _
theorem cNegBool (a b : Int) : ((decide (a < 0) != decide (b < 0)) && decide (a.natAbs * b.natAbs ≠ 0)) = decide (a * b < 0) := by
  by_cases h0 : a = 0
  · subst h0; simp
  by_cases h1 : b = 0
  · subst h1; simp
  have hne : a.natAbs * b.natAbs ≠ 0 := Nat.mul_ne_zero (by omega) (by omega)
  rw [decide_eq_true hne, Bool.and_true]
  rcases Int.lt_or_gt_of_ne h0 with ha | ha <;> rcases Int.lt_or_gt_of_ne h1 with hb | hb
  · have := Int.mul_pos_of_neg_of_neg ha hb
    rw [decide_eq_true ha, decide_eq_true hb, decide_eq_false (by omega)]; rfl
  · have := Int.mul_neg_of_neg_of_pos ha hb
    rw [decide_eq_true ha, decide_eq_false (by omega : ¬ b < 0), decide_eq_true this]; rfl
  · have := Int.mul_neg_of_pos_of_neg ha hb
    rw [decide_eq_false (by omega : ¬ a < 0), decide_eq_true hb, decide_eq_true this]; rfl
  · have := Int.mul_pos ha hb
    rw [decide_eq_false (by omega : ¬ a < 0), decide_eq_false (by omega : ¬ b < 0), decide_eq_false (by omega)]; rfl
theorem cMulz (a b : Int) (h : List (Option Chunk)) (ha : a.natAbs < Bs ^ 16) (hb : b.natAbs < Bs ^ 16) (hab : (a * b).natAbs < Top) : CallOK Tryz.prog 69 [wz a, wz b] h (wz (a * b)) [] [] :=
  call_pure (by simp [plain_wz]) (plain3_wz _) (Tryz.call69 _) fun w => by
    have := mul_x (decide (a < 0)) (decide (b < 0)) a.natAbs b.natAbs ha hb (by rwa [← Int.natAbs_mul]) w
    rw [cNegBool, ← Int.natAbs_mul] at this
    exact this
theorem cOfz (n : Int) (h : List (Option Chunk)) (h0 : -9223372036854775808 ≤ n) (h1 : n < 9223372036854775808) : CallOK Tryz.prog 62 [.int .i64 n] h (wz n) [] [] := cOf n h h0 h1
theorem cAdd (i f v j g u : Nat) (h : List (Option Chunk)) (h1 : Has h i f v) (h2 : Has h j g u) : CallOK Tryz.prog 101 [.pointer (some ⟨i, f, some 0⟩), .pointer (some ⟨j, g, some 0⟩)] h (.tuple #[.agg ⟨limL 16 (dg (v + u))⟩, .int .u64 (cry v u 16)]) [] [i, j] :=
  call_heap [i, j] (by simp [plain3, plain_lim]; rfl) (Tryz.call101) fun ρ w hc => add_any (ρ i).1 ((ρ i).2 + f) v (ρ j).1 ((ρ j).2 + g) u w (h1.digs (by simp) hc) (h2.digs (by simp) hc)
theorem guard_size : Tryz.prog.eqGuardType Tryz.prog.depth 93 = false := by kernel_rfl
theorem eq_size0 (op : BinOp) (x y : Operand) (u : Nat) (hu : u < Bs ^ 16) (neg : Bool) (hop : op = if neg then .neq else .eql) : BinIs Tryz.prog op 93 x y (.agg ⟨limL 16 (dg u)⟩) (.agg #[.int .u64 0, .int .u64 0, .int .u64 0, .int .u64 0, .int .u64 0, .int .u64 0, .int .u64 0, .int .u64 0, .int .u64 0, .int .u64 0, .int .u64 0, .int .u64 0, .int .u64 0, .int .u64 0, .int .u64 0, .int .u64 0]) (.bool (if neg then !decide (u = 0) else decide (u = 0))) := by
  have he := equal_zero u hu
  refine ⟨plain_lim _ _, rfl, by cases neg <;> rfl, fun w => ?_⟩
  have hg : ∀ op, (eqGuard op 93 x y (.agg ⟨limL 16 (dg u)⟩) (.agg #[.int .u64 0, .int .u64 0, .int .u64 0, .int .u64 0, .int .u64 0, .int .u64 0, .int .u64 0, .int .u64 0, .int .u64 0, .int .u64 0, .int .u64 0, .int .u64 0, .int .u64 0, .int .u64 0, .int .u64 0, .int .u64 0])).run Tryz.prog w = .ok () w := fun op => by
    cases op <;> simp [eqGuard, Sem.run_bind, run_program, guard_size]
  subst hop
  cases neg
  · simp only [Sem.run_bind, hg, Result.andThen_ok, if_false, Bool.false_eq_true]
    show (do pure (.bool (← Op.equal 93 (.agg ⟨limL 16 (dg u)⟩) (.agg #[.int .u64 0, .int .u64 0, .int .u64 0, .int .u64 0, .int .u64 0, .int .u64 0, .int .u64 0, .int .u64 0, .int .u64 0, .int .u64 0, .int .u64 0, .int .u64 0, .int .u64 0, .int .u64 0, .int .u64 0, .int .u64 0]))) : Sem Value).run Tryz.prog w = _
    simp only [Sem.run_bind]
    rw [show (Op.equal 93 (.agg ⟨limL 16 (dg u)⟩) (.agg #[.int .u64 0, .int .u64 0, .int .u64 0, .int .u64 0, .int .u64 0, .int .u64 0, .int .u64 0, .int .u64 0, .int .u64 0, .int .u64 0, .int .u64 0, .int .u64 0, .int .u64 0, .int .u64 0, .int .u64 0, .int .u64 0])).run Tryz.prog w = .ok (decide (u = 0)) w from he w]
    rfl
  · simp only [Sem.run_bind, hg, Result.andThen_ok, if_true]
    show (do pure (.bool (!(← Op.equal 93 (.agg ⟨limL 16 (dg u)⟩) (.agg #[.int .u64 0, .int .u64 0, .int .u64 0, .int .u64 0, .int .u64 0, .int .u64 0, .int .u64 0, .int .u64 0, .int .u64 0, .int .u64 0, .int .u64 0, .int .u64 0, .int .u64 0, .int .u64 0, .int .u64 0, .int .u64 0])))) : Sem Value).run Tryz.prog w = _
    simp only [Sem.run_bind]
    rw [show (Op.equal 93 (.agg ⟨limL 16 (dg u)⟩) (.agg #[.int .u64 0, .int .u64 0, .int .u64 0, .int .u64 0, .int .u64 0, .int .u64 0, .int .u64 0, .int .u64 0, .int .u64 0, .int .u64 0, .int .u64 0, .int .u64 0, .int .u64 0, .int .u64 0, .int .u64 0, .int .u64 0])).run Tryz.prog w = .ok (decide (u = 0)) w from he w]
    rfl
end Go.Proofs.YtimccfnlcnlffaaGreat


namespace Go.Proofs.YtimccfnlcnlffaaGreat
open Go Go.RowKit Sx
theorem neg_x (z : Int) (hz : z.natAbs < Top) (w : World) : Calls Tryz.prog 85 #[wz z] w fun e w' => e = .returned (wz (-z)) ∧ Below w.heap.size w w' := by
  refine calls_pure (G := tys) w tysOK mixed Tryz.func85 (by rfl) (by first | rfl | (simp only [List.all_cons, List.all_nil, plain_wz, plain_lim, plain_wi]; rfl)) (by first | exact plain3_wz _ | exact plain3_wi _ _ _ | rfl | (simp only [plain3, List.all_cons, List.all_nil, plain_wz, plain_lim, plain_wi]; rfl)) ?_
  repeat' (refine N.go ?_; first | with_reducible (first | refine N.obl (flat_wi _ _ _) ?_ | refine N.obl (flat_lim _ _) ?_ | refine N.eq ?_ | refine N.obl rfl ?_ | refine N.obl ⟨by kernel_rfl, by kernel_rfl⟩ ?_ | refine N.alt ?_ | refine N.forkT ?_ | refine N.forkF ?_) | with_reducible refine N.call (cMade _ _ _ hz) ?_)
  all_goals
    simp only [wz, Value.agg.injEq, Array.mk.injEq, Int.natAbs_neg]
    congr 1
    by_cases h : z < 0
    · rw [decide_eq_true h, decide_eq_false (by omega : ¬ -z < 0)]; rfl
    · by_cases h0 : z = 0
      · subst h0; rfl
      · rw [decide_eq_false h, decide_eq_true (by omega : -z < 0), decide_eq_true (by omega : z.natAbs ≠ 0)]; rfl
theorem cNeg (z : Int) (h : List (Option Chunk)) (hz : z.natAbs < Top) : CallOK Tryz.prog 85 [wz z] h (wz (-z)) [] [] :=
  call_pure (by simp [plain_wz]) (plain3_wz _) (Tryz.call85 _) (neg_x z hz)
end Go.Proofs.YtimccfnlcnlffaaGreat


namespace Go.Proofs.YtimccfnlcnlffaaGreat
open Go Go.RowKit Sx
theorem wiL_len (n o : Bool) (v : Nat) : (wiL n o v).length = 18 := by simp [wiL, limL_len]
theorem wi_re {ix : List (Nat × Nat)} {w : Bool} {m : Nat} (n o : Bool) (v : Nat) : ((⟨false, 18, [(0, 18, .agg ⟨wiL n o v⟩)]⟩ : Chunk).own = true → (⟨w, 18, [(0, 18, .agg ⟨wiL n o v⟩)]⟩ : Chunk).own = true ∧ m ≤ (⟨w, 18, [(0, 18, .agg ⟨wiL n o v⟩)]⟩ : Chunk).n) ∧ (⟨false, 18, [(0, 18, .agg ⟨wiL n o v⟩)]⟩ : Chunk).n ≤ (⟨w, 18, [(0, 18, .agg ⟨wiL n o v⟩)]⟩ : Chunk).n ∧ ChunkRe ix ⟨w, 18, [(0, 18, .agg ⟨wiL n o v⟩)]⟩ ⟨false, 18, [(0, 18, .agg ⟨wiL n o v⟩)]⟩ :=
  reSame (agg_plain (wiL_len _ _ _) (plain_wi _ _ _))
theorem sub64 (x y b : Nat) (hb : b ≤ 1) (w : World) : (callFunc 109 #[.int .u64 x, .int .u64 y, .int .u64 b]).run Tryz.prog w =
    .ok (.value (.tuple #[.int .u64 (((x + 18446744073709551616 - y - b) % 18446744073709551616 : Nat) : Int), .int .u64 ((if x < y + b then 1 else 0 : Nat) : Int)])) w := by
  rw [run_callFunc_extern Tryz.func109 (by kernel_rfl) (by kernel_rfl) (by kernel_rfl) (e := Proofs.sub64Entry) (by kernel_rfl), Proofs.run_sub64 x y b hb]
  rfl
theorem cSub64 (x y b p q : Nat) (h : List (Option Chunk)) (hb : b ≤ 1) (hp : (x + 18446744073709551616 - y - b) % 18446744073709551616 = p) (hq : (if x < y + b then 1 else 0) = q) : CallOK Tryz.prog 109 [.int .u64 x, .int .u64 y, .int .u64 b] h (.tuple #[.int .u64 p, .int .u64 q]) [] [] := by
  subst hp; subst hq
  exact call_ext rfl rfl fun w => sub64 x y b hb w
def subTo (d i : Nat) : Nat → Nat := fun j => if j < i then dg d j else 0
theorem subTo_zero (d : Nat) : limL 16 (subTo d 0) = limL 16 (fun _ => 0) := limL_same fun j _ => by simp [subTo]
theorem subTo_end (d : Nat) : limL 16 (subTo d 16) = limL 16 (dg d) := limL_same fun j hj => by unfold subTo; rw [if_pos hj]
theorem cSubS (i j v u : Nat) (n1 o1 n2 o2 w1 w2 : Bool) (h : List (Option Chunk)) (hi : h[i]? = some (some ⟨w1, 18, [(0, 18, .agg ⟨wiL n1 o1 v⟩)]⟩)) (hj : h[j]? = some (some ⟨w2, 18, [(0, 18, .agg ⟨wiL n2 o2 u⟩)]⟩)) (huv : u ≤ v) :
    CallOK Tryz.prog 103 [.pointer (some ⟨i, 2, some 0⟩), .pointer (some ⟨j, 2, some 0⟩)] h (.agg ⟨limL 16 (dg (v - u))⟩) [] [i, j] := by
  obtain ⟨d, rfl⟩ : ∃ d, v = u + d := ⟨v - u, by omega⟩
  rw [Nat.add_sub_cancel_left]
  refine call_sub (G := tys) [⟨i, _, ⟨false, 18, [(0, 18, .agg ⟨wiL n1 o1 (u + d)⟩)]⟩, ⟨false, 0, []⟩⟩, ⟨j, _, ⟨false, 18, [(0, 18, .agg ⟨wiL n2 o2 u⟩)]⟩, ⟨false, 0, []⟩⟩] [] [.pointer (some ⟨0, 2, some 0⟩), .pointer (some ⟨1, 2, some 0⟩)] tysOK mixed Tryz.func103 (by rfl) (Tryz.call103) ⟨hi, hj, trivial⟩ ⟨wi_re _ _ _, wi_re _ _ _, trivial⟩ (by simp [Apart]) trivial ⟨.ptr rfl, .ptr rfl, trivial⟩ ?_
  repeat' (refine N.go ?_; first | with_reducible (first | refine N.obl (by decide) ?_ | refine N.obl (flat_wi _ _ _) ?_ | refine N.obl (flat_lim _ _) ?_ | refine N.eq ?_ | refine N.obl rfl ?_ | refine N.obl ⟨by kernel_rfl, by kernel_rfl⟩ ?_ | refine N.alt ?_ | refine N.forkT ?_) | with_reducible refine N.forkF ?_)
  refine N.go ?_
  refine N.loop (α := Nat) (fun i => i ≤ 16) (fun i => 16 - i) (fun i => [(8, .int .i64 (i : Int)), (6, .int .u64 ((cry u d i : Nat) : Int))]) (fun i => [(3, ⟨true, 16, [(0, 16, .agg ⟨limL 16 (subTo d i)⟩)]⟩)]) 0 (Nat.zero_le _) ?_ ?_
  · repeat (refine N.go ?_; first | exact N.true | with_reducible (first | refine N.obl rfl ?_ | refine N.obl (ChunkLe.refl _) ?_) | refine N.obl (ChunkLe.of (by rw [subTo_zero]; rfl)) ?_ | refine N.obl (by rw [cry_zero]; rfl) ?_)
  · intro i hi
    by_cases hlt : i < 16
    · have c1 : dg u i + dg d i + cry u d i = dg (u + d) i + 18446744073709551616 * cry u d (i + 1) := cry_step u d i
      have c2 := cry_le u d i
      have c3 := cry_le u d (i + 1)
      have c4 := dg_lt u i
      have c5 := dg_lt d i
      have c6 := dg_lt (u + d) i
      have hp : (dg (u + d) i + 18446744073709551616 - dg u i - cry u d i) % 18446744073709551616 = dg d i := by omega
      have hq : (if dg (u + d) i < dg u i + cry u d i then 1 else 0) = cry u d (i + 1) := by split <;> omega
      repeat' (refine N.go ?_; first | with_reducible (first | refine N.obl (by decide) ?_ | refine N.obl (flat_wi _ _ _) ?_ | refine N.obl (flat_lim _ _) ?_ | refine N.eq ?_ | refine N.obl rfl ?_ | refine N.obl ⟨by kernel_rfl, by kernel_rfl⟩ ?_ | refine N.alt ?_ | refine N.forkT ?_ | refine N.forkF ?_) | refine N.forkYes (by rw [decide_eq_true_eq]; omega) ?_ | refine N.idx i 1 rfl hlt ?_ | refine N.load _ (reads_wi (p := i) hlt rfl) ?_ | refine N.call (cSub64 _ _ _ _ _ _ c2 hp hq) ?_ | refine N.store ⟨true, 16, [(0, 16, .agg ⟨limL 16 (subTo d (i + 1))⟩)]⟩ (writes_lim (p := i) hlt (by first | rfl | omega) (by unfold subTo; rw [if_pos (by omega)]) (fun k _ hk => by unfold subTo; by_cases h : k < i <;> simp [h] <;> omega)) ?_)
      refine N.go ?_
      refine N.next (i + 1) ⟨by omega, by omega⟩ ?_
      repeat (refine N.go ?_; first | exact N.true | with_reducible (first | refine N.obl rfl ?_ | refine N.obl (ChunkLe.refl _) ?_) | refine N.obl (int_i64 (by rw [IntWalk.i64_in _ (by omega)]; rfl)) ?_)
    · obtain rfl : i = 16 := by omega
      refine N.go ?_
      refine N.forkNo (by decide) ?_
      rw [subTo_end]
      repeat' (refine N.go ?_; first | with_reducible (first | refine N.obl (by decide) ?_ | refine N.obl (flat_wi _ _ _) ?_ | refine N.obl (flat_lim _ _) ?_ | refine N.eq ?_ | refine N.obl rfl ?_ | refine N.obl ⟨by kernel_rfl, by kernel_rfl⟩ ?_ | refine N.alt ?_ | refine N.forkT ?_ | refine N.forkF ?_) | exact N.true | refine N.obl trivial ?_ | refine N.obl (.plain (plain_lim _ _)) ?_)
theorem cCmpS (i f v j g u : Nat) (h : List (Option Chunk)) (h1 : Has h i f v) (h2 : Has h j g u) (hv : v < Bs ^ 16) (hu : u < Bs ^ 16) : CallOK Tryz.prog 102 [.pointer (some ⟨i, f, some 0⟩), .pointer (some ⟨j, g, some 0⟩)] h (.int .i64 (cm v u)) [] [i, j] :=
  call_heap [i, j] rfl (Tryz.call102) fun ρ w hc => (cmp_any (ρ i).1 ((ρ i).2 + f) v (ρ j).1 ((ρ j).2 + g) u w (h1.digs (by simp) hc) (h2.digs (by simp) hc) hv hu).mono (by rintro e w' ⟨he, hb, _⟩; exact ⟨he, hb⟩)
theorem cry_top (v u : Nat) (h : v + u < Bs ^ 16) : cry v u 16 = 0 := by
  unfold cry
  have h1 : v % Bs ^ 16 ≤ v := Nat.mod_le _ _
  have h2 : u % Bs ^ 16 ≤ u := Nat.mod_le _ _
  exact Nat.div_eq_of_lt (by omega)
theorem add_false_same_x (v u : Nat) (hv : v < Top) (hu : u < Top) (hs : v + u < Top) (w : World) : Calls Tryz.prog 84 #[.agg ⟨wiL false false v⟩, .agg ⟨wiL false false u⟩] w fun e w' => e = .returned (.agg ⟨wiL (false && decide (v + u ≠ 0)) false (v + u)⟩) ∧ Below w.heap.size w w' := by
  have hv16 := Nat.lt_trans hv top_lt
  have hu16 := Nat.lt_trans hu top_lt
  refine calls_pure (G := tys) w tysOK mixed Tryz.func84 (by rfl) (by first | rfl | (simp only [List.all_cons, List.all_nil, plain_wz, plain_lim, plain_wi]; rfl)) (by first | exact plain3_wz _ | exact plain3_wi _ _ _ | rfl | (simp only [plain3, List.all_cons, List.all_nil, plain_wz, plain_lim, plain_wi]; rfl)) ?_
  repeat' (refine N.go ?_; first | with_reducible (first | refine N.obl (by decide) ?_ | refine N.obl (flat_wi _ _ _) ?_ | refine N.obl (flat_lim _ _) ?_ | refine N.eq ?_ | refine N.obl rfl ?_ | refine N.obl ⟨by kernel_rfl, by kernel_rfl⟩ ?_ | refine N.alt ?_ | refine N.forkT ?_ | refine N.forkF ?_) | refine N.call (cAdd _ _ _ _ _ _ _ (has_wi (by rfl)) (has_wi (by rfl))) ?_ | refine N.forkNo (by rw [cry_top _ _ (Nat.lt_trans hs top_lt)]; decide) ?_ | with_reducible refine N.call (cMade _ _ _ hs) ?_ | refine N.forkNo (by decide) ?_ | refine N.forkYes (by decide) ?_)
  all_goals rfl
theorem add_false_ge_x (v u : Nat) (hv : v < Top) (hu : u < Top) (hs : u ≤ v) (w : World) : Calls Tryz.prog 84 #[.agg ⟨wiL false false v⟩, .agg ⟨wiL true false u⟩] w fun e w' => e = .returned (.agg ⟨wiL (false && decide (v - u ≠ 0)) false (v - u)⟩) ∧ Below w.heap.size w w' := by
  have hv16 := Nat.lt_trans hv top_lt
  have hu16 := Nat.lt_trans hu top_lt
  refine calls_pure (G := tys) w tysOK mixed Tryz.func84 (by rfl) (by first | rfl | (simp only [List.all_cons, List.all_nil, plain_wz, plain_lim, plain_wi]; rfl)) (by first | exact plain3_wz _ | exact plain3_wi _ _ _ | rfl | (simp only [plain3, List.all_cons, List.all_nil, plain_wz, plain_lim, plain_wi]; rfl)) ?_
  repeat' (refine N.go ?_; first | with_reducible (first | refine N.obl (by decide) ?_ | refine N.obl (flat_wi _ _ _) ?_ | refine N.obl (flat_lim _ _) ?_ | refine N.eq ?_ | refine N.obl rfl ?_ | refine N.obl ⟨by kernel_rfl, by kernel_rfl⟩ ?_ | refine N.alt ?_ | refine N.forkT ?_ | refine N.forkF ?_) | refine N.call (cCmpS _ _ _ _ _ _ _ (has_wi (by rfl)) (has_wi (by rfl)) hv16 hu16) ?_ | refine N.call (cSubS _ _ _ _ _ _ _ _ _ _ _ (by rfl) (by rfl) (by omega)) ?_ | refine N.forkYes (by rw [decide_eq_true_eq]; unfold cm; split <;> (try split) <;> omega) ?_ | with_reducible refine N.call (cMade _ _ _ (Nat.lt_of_le_of_lt (Nat.sub_le _ _) hv)) ?_ | refine N.forkNo (by decide) ?_ | refine N.forkYes (by decide) ?_)
  all_goals rfl
theorem add_false_lt_x (v u : Nat) (hv : v < Top) (hu : u < Top) (hs : v < u) (w : World) : Calls Tryz.prog 84 #[.agg ⟨wiL false false v⟩, .agg ⟨wiL true false u⟩] w fun e w' => e = .returned (.agg ⟨wiL (true && decide (u - v ≠ 0)) false (u - v)⟩) ∧ Below w.heap.size w w' := by
  have hv16 := Nat.lt_trans hv top_lt
  have hu16 := Nat.lt_trans hu top_lt
  refine calls_pure (G := tys) w tysOK mixed Tryz.func84 (by rfl) (by first | rfl | (simp only [List.all_cons, List.all_nil, plain_wz, plain_lim, plain_wi]; rfl)) (by first | exact plain3_wz _ | exact plain3_wi _ _ _ | rfl | (simp only [plain3, List.all_cons, List.all_nil, plain_wz, plain_lim, plain_wi]; rfl)) ?_
  repeat' (refine N.go ?_; first | with_reducible (first | refine N.obl (by decide) ?_ | refine N.obl (flat_wi _ _ _) ?_ | refine N.obl (flat_lim _ _) ?_ | refine N.eq ?_ | refine N.obl rfl ?_ | refine N.obl ⟨by kernel_rfl, by kernel_rfl⟩ ?_ | refine N.alt ?_ | refine N.forkT ?_ | refine N.forkF ?_) | refine N.call (cCmpS _ _ _ _ _ _ _ (has_wi (by rfl)) (has_wi (by rfl)) hv16 hu16) ?_ | refine N.call (cSubS _ _ _ _ _ _ _ _ _ _ _ (by rfl) (by rfl) (by omega)) ?_ | refine N.forkNo (by rw [decide_eq_false_iff_not]; unfold cm; split <;> (try split) <;> omega) ?_ | with_reducible refine N.call (cMade _ _ _ (Nat.lt_of_le_of_lt (Nat.sub_le _ _) hu)) ?_ | refine N.forkNo (by decide) ?_ | refine N.forkYes (by decide) ?_)
  all_goals rfl
theorem add_true_same_x (v u : Nat) (hv : v < Top) (hu : u < Top) (hs : v + u < Top) (w : World) : Calls Tryz.prog 84 #[.agg ⟨wiL true false v⟩, .agg ⟨wiL true false u⟩] w fun e w' => e = .returned (.agg ⟨wiL (true && decide (v + u ≠ 0)) false (v + u)⟩) ∧ Below w.heap.size w w' := by
  have hv16 := Nat.lt_trans hv top_lt
  have hu16 := Nat.lt_trans hu top_lt
  refine calls_pure (G := tys) w tysOK mixed Tryz.func84 (by rfl) (by first | rfl | (simp only [List.all_cons, List.all_nil, plain_wz, plain_lim, plain_wi]; rfl)) (by first | exact plain3_wz _ | exact plain3_wi _ _ _ | rfl | (simp only [plain3, List.all_cons, List.all_nil, plain_wz, plain_lim, plain_wi]; rfl)) ?_
  repeat' (refine N.go ?_; first | with_reducible (first | refine N.obl (by decide) ?_ | refine N.obl (flat_wi _ _ _) ?_ | refine N.obl (flat_lim _ _) ?_ | refine N.eq ?_ | refine N.obl rfl ?_ | refine N.obl ⟨by kernel_rfl, by kernel_rfl⟩ ?_ | refine N.alt ?_ | refine N.forkT ?_ | refine N.forkF ?_) | refine N.call (cAdd _ _ _ _ _ _ _ (has_wi (by rfl)) (has_wi (by rfl))) ?_ | refine N.forkNo (by rw [cry_top _ _ (Nat.lt_trans hs top_lt)]; decide) ?_ | with_reducible refine N.call (cMade _ _ _ hs) ?_ | refine N.forkNo (by decide) ?_ | refine N.forkYes (by decide) ?_)
  all_goals rfl
theorem add_true_ge_x (v u : Nat) (hv : v < Top) (hu : u < Top) (hs : u ≤ v) (w : World) : Calls Tryz.prog 84 #[.agg ⟨wiL true false v⟩, .agg ⟨wiL false false u⟩] w fun e w' => e = .returned (.agg ⟨wiL (true && decide (v - u ≠ 0)) false (v - u)⟩) ∧ Below w.heap.size w w' := by
  have hv16 := Nat.lt_trans hv top_lt
  have hu16 := Nat.lt_trans hu top_lt
  refine calls_pure (G := tys) w tysOK mixed Tryz.func84 (by rfl) (by first | rfl | (simp only [List.all_cons, List.all_nil, plain_wz, plain_lim, plain_wi]; rfl)) (by first | exact plain3_wz _ | exact plain3_wi _ _ _ | rfl | (simp only [plain3, List.all_cons, List.all_nil, plain_wz, plain_lim, plain_wi]; rfl)) ?_
  repeat' (refine N.go ?_; first | with_reducible (first | refine N.obl (by decide) ?_ | refine N.obl (flat_wi _ _ _) ?_ | refine N.obl (flat_lim _ _) ?_ | refine N.eq ?_ | refine N.obl rfl ?_ | refine N.obl ⟨by kernel_rfl, by kernel_rfl⟩ ?_ | refine N.alt ?_ | refine N.forkT ?_ | refine N.forkF ?_) | refine N.call (cCmpS _ _ _ _ _ _ _ (has_wi (by rfl)) (has_wi (by rfl)) hv16 hu16) ?_ | refine N.call (cSubS _ _ _ _ _ _ _ _ _ _ _ (by rfl) (by rfl) (by omega)) ?_ | refine N.forkYes (by rw [decide_eq_true_eq]; unfold cm; split <;> (try split) <;> omega) ?_ | with_reducible refine N.call (cMade _ _ _ (Nat.lt_of_le_of_lt (Nat.sub_le _ _) hv)) ?_ | refine N.forkNo (by decide) ?_ | refine N.forkYes (by decide) ?_)
  all_goals rfl
theorem add_true_lt_x (v u : Nat) (hv : v < Top) (hu : u < Top) (hs : v < u) (w : World) : Calls Tryz.prog 84 #[.agg ⟨wiL true false v⟩, .agg ⟨wiL false false u⟩] w fun e w' => e = .returned (.agg ⟨wiL (false && decide (u - v ≠ 0)) false (u - v)⟩) ∧ Below w.heap.size w w' := by
  have hv16 := Nat.lt_trans hv top_lt
  have hu16 := Nat.lt_trans hu top_lt
  refine calls_pure (G := tys) w tysOK mixed Tryz.func84 (by rfl) (by first | rfl | (simp only [List.all_cons, List.all_nil, plain_wz, plain_lim, plain_wi]; rfl)) (by first | exact plain3_wz _ | exact plain3_wi _ _ _ | rfl | (simp only [plain3, List.all_cons, List.all_nil, plain_wz, plain_lim, plain_wi]; rfl)) ?_
  repeat' (refine N.go ?_; first | with_reducible (first | refine N.obl (by decide) ?_ | refine N.obl (flat_wi _ _ _) ?_ | refine N.obl (flat_lim _ _) ?_ | refine N.eq ?_ | refine N.obl rfl ?_ | refine N.obl ⟨by kernel_rfl, by kernel_rfl⟩ ?_ | refine N.alt ?_ | refine N.forkT ?_ | refine N.forkF ?_) | refine N.call (cCmpS _ _ _ _ _ _ _ (has_wi (by rfl)) (has_wi (by rfl)) hv16 hu16) ?_ | refine N.call (cSubS _ _ _ _ _ _ _ _ _ _ _ (by rfl) (by rfl) (by omega)) ?_ | refine N.forkNo (by rw [decide_eq_false_iff_not]; unfold cm; split <;> (try split) <;> omega) ?_ | with_reducible refine N.call (cMade _ _ _ (Nat.lt_of_le_of_lt (Nat.sub_le _ _) hu)) ?_ | refine N.forkNo (by decide) ?_ | refine N.forkYes (by decide) ?_)
  all_goals rfl
theorem wz_neg {z : Int} (h : z < 0) : wz z = .agg ⟨wiL true false z.natAbs⟩ := by unfold wz; rw [decide_eq_true h]
theorem wz_pos {z : Int} (h : 0 ≤ z) : wz z = .agg ⟨wiL false false z.natAbs⟩ := by unfold wz; rw [decide_eq_false (by omega)]
theorem wi_wz {b : Bool} {n : Nat} {z : Int} (h1 : n = z.natAbs) (h2 : b = decide (z < 0)) : (Value.agg ⟨wiL b false n⟩) = wz z := by subst h1 h2; rfl
theorem add_z (a b : Int) (ha : a.natAbs < Top) (hb : b.natAbs < Top) (hab : (a + b).natAbs < Top) (w : World) : Calls Tryz.prog 84 #[wz a, wz b] w fun e w' => e = .returned (wz (a + b)) ∧ Below w.heap.size w w' := by
  by_cases h1 : a < 0 <;> by_cases h2 : b < 0
  · rw [wz_neg h1, wz_neg h2]
    have := add_true_same_x a.natAbs b.natAbs ha hb (by omega) w
    rwa [wi_wz (b := true && decide (a.natAbs + b.natAbs ≠ 0)) (n := a.natAbs + b.natAbs) (z := a + b) (by omega) (by rw [Bool.true_and]; exact decide_eq_decide.2 (by omega))] at this
  · rw [wz_neg h1, wz_pos (by omega : 0 ≤ b)]
    by_cases h3 : b.natAbs ≤ a.natAbs
    · have := add_true_ge_x a.natAbs b.natAbs ha hb h3 w
      rwa [wi_wz (b := true && decide (a.natAbs - b.natAbs ≠ 0)) (n := a.natAbs - b.natAbs) (z := a + b) (by omega) (by rw [Bool.true_and]; exact decide_eq_decide.2 (by omega))] at this
    · have := add_true_lt_x a.natAbs b.natAbs ha hb (by omega) w
      rwa [wi_wz (b := false && decide (b.natAbs - a.natAbs ≠ 0)) (n := b.natAbs - a.natAbs) (z := a + b) (by omega) (by rw [Bool.false_and, decide_eq_false (by omega)])] at this
  · rw [wz_pos (by omega : 0 ≤ a), wz_neg h2]
    by_cases h3 : b.natAbs ≤ a.natAbs
    · have := add_false_ge_x a.natAbs b.natAbs ha hb h3 w
      rwa [wi_wz (b := false && decide (a.natAbs - b.natAbs ≠ 0)) (n := a.natAbs - b.natAbs) (z := a + b) (by omega) (by rw [Bool.false_and, decide_eq_false (by omega)])] at this
    · have := add_false_lt_x a.natAbs b.natAbs ha hb (by omega) w
      rwa [wi_wz (b := true && decide (b.natAbs - a.natAbs ≠ 0)) (n := b.natAbs - a.natAbs) (z := a + b) (by omega) (by rw [Bool.true_and]; exact decide_eq_decide.2 (by omega))] at this
  · rw [wz_pos (by omega : 0 ≤ a), wz_pos (by omega : 0 ≤ b)]
    have := add_false_same_x a.natAbs b.natAbs ha hb (by omega) w
    rwa [wi_wz (b := false && decide (a.natAbs + b.natAbs ≠ 0)) (n := a.natAbs + b.natAbs) (z := a + b) (by omega) (by rw [Bool.false_and, decide_eq_false (by omega)])] at this
theorem cAddz (a b : Int) (h : List (Option Chunk)) (ha : a.natAbs < Top) (hb : b.natAbs < Top) (hab : (a + b).natAbs < Top) : CallOK Tryz.prog 84 [wz a, wz b] h (wz (a + b)) [] [] :=
  call_pure (by simp [plain_wz]) (plain3_wz _) (Tryz.call84 _) (add_z a b ha hb hab)
theorem sub_z_x (a b : Int) (ha : a.natAbs < Top) (hb : b.natAbs < Top) (hab : (a - b).natAbs < Top) (w : World) : Calls Tryz.prog 68 #[wz a, wz b] w fun e w' => e = .returned (wz (a - b)) ∧ Below w.heap.size w w' := by
  have hn : (-b).natAbs < Top := by rwa [Int.natAbs_neg]
  have hs : (a + -b).natAbs < Top := by rwa [← Int.sub_eq_add_neg]
  refine calls_pure (G := tys) w tysOK mixed Tryz.func68 (by rfl) (by first | rfl | (simp only [List.all_cons, List.all_nil, plain_wz, plain_lim, plain_wi]; rfl)) (by first | exact plain3_wz _ | exact plain3_wi _ _ _ | rfl | (simp only [plain3, List.all_cons, List.all_nil, plain_wz, plain_lim, plain_wi]; rfl)) ?_
  repeat' (refine N.go ?_; first | with_reducible (first | refine N.obl (by decide) ?_ | refine N.obl (flat_wi _ _ _) ?_ | refine N.obl (flat_lim _ _) ?_ | refine N.eq ?_ | refine N.obl rfl ?_ | refine N.obl ⟨by kernel_rfl, by kernel_rfl⟩ ?_ | refine N.alt ?_ | refine N.forkT ?_ | refine N.forkF ?_ | refine N.call (cNeg _ _ hb) ?_) | with_reducible refine N.call (cAddz _ _ _ ha hn hs) ?_)
  all_goals (rw [Int.sub_eq_add_neg])
theorem cSubz (a b : Int) (h : List (Option Chunk)) (ha : a.natAbs < Top) (hb : b.natAbs < Top) (hab : (a - b).natAbs < Top) : CallOK Tryz.prog 68 [wz a, wz b] h (wz (a - b)) [] [] :=
  call_pure (by simp [plain_wz]) (plain3_wz _) (Tryz.call68 _) (sub_z_x a b ha hb hab)
def sgn (z : Int) : Int := if z < 0 then -1 else if z = 0 then 0 else 1
theorem sgn_pos (z : Int) : sgn z > 0 ↔ z > 0 := by unfold sgn; split <;> (try split) <;> omega
theorem sign_z_x (z : Int) (hz : z.natAbs < Top) (w : World) : Calls Tryz.prog 49 #[wz z] w fun e w' => e = .returned (.int .i64 (sgn z)) ∧ Below w.heap.size w w' := by
  have hz16 := Nat.lt_trans hz top_lt
  refine calls_pure (G := tys) w tysOK mixed Tryz.func49 (by rfl) (by first | rfl | (simp only [List.all_cons, List.all_nil, plain_wz, plain_lim, plain_wi]; rfl)) (by first | exact plain3_wz _ | exact plain3_wi _ _ _ | rfl | (simp only [plain3, List.all_cons, List.all_nil, plain_wz, plain_lim, plain_wi]; rfl)) ?_
  repeat' (refine N.go ?_; first | with_reducible (first | refine N.obl (by decide) ?_ | refine N.obl (flat_wi _ _ _) ?_ | refine N.obl (flat_lim _ _) ?_ | refine N.eq ?_ | refine N.obl rfl ?_ | refine N.obl ⟨by kernel_rfl, by kernel_rfl⟩ ?_ | refine N.alt ?_ | refine N.forkT ?_ | refine N.forkF ?_ | refine N.bin _ (eq_size0 _ _ _ _ hz16 false rfl) ?_) | refine N.forkNo (by decide) ?_ | refine N.forkYes (by decide) ?_ | with_reducible refine N.fork (fun hb => ?_) (fun hb => ?_))
  all_goals
    simp only [decide_eq_true_eq, decide_eq_false_iff_not, Bool.false_eq_true, if_false] at *
    unfold sgn
    first
      | rw [if_neg (by omega), if_pos (by omega)]
      | rw [if_pos (by omega)]
      | rw [if_neg (by omega), if_neg (by omega)]
theorem cSign (z : Int) (h : List (Option Chunk)) (hz : z.natAbs < Top) : CallOK Tryz.prog 49 [wz z] h (.int .i64 (sgn z)) [] [] :=
  call_pure (by simp [plain_wz]) rfl (Tryz.call49 _) (sign_z_x z hz)
end Go.Proofs.YtimccfnlcnlffaaGreat


namespace Go.Proofs.YtimccfnlcnlffaaGreat
open Go Go.RowKit Sx
theorem tup2 {a b : Int} (h : a = b) : Value.tuple ⟨[Value.int IntKind.i64 a, Value.bool true]⟩ = Value.tuple #[Value.int IntKind.i64 b, Value.bool true] := by rw [h]
end Go.Proofs.YtimccfnlcnlffaaGreat


namespace Go.Proofs.YtimccfnlcnlffaaGreat
end Go.Proofs.YtimccfnlcnlffaaGreat


namespace Go.Proofs.YtimccfnlcnlffaaGreat
open Go Go.RowKit Sx
end Go.Proofs.YtimccfnlcnlffaaGreat


namespace Go.Proofs.YtimccfnlcnlffaaGreat
open Go Go.RowKit Sx
end Go.Proofs.YtimccfnlcnlffaaGreat
