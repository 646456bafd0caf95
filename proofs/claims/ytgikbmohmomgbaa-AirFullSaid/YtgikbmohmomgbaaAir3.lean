/-
  The walks of air at mails without data: Double, Take.
-/
import Derived.Test.YtgikbmohmomgbaaAir2
set_option linter.unusedVariables false
set_option linter.unusedSimpArgs false
namespace Go.Proofs.Ytgikbmohmomgbaa
open Go Go.RowKit Sx

theorem CallAll.mono {P : Program} {g : FuncId} {vs : List Value} {h : List (Option Chunk)} {R R' : Value → List (Nat × Chunk) → Prop} (k : CallAll P g vs h R) (hR : ∀ v ms, R v ms → R' v ms) : CallAll P g vs h R' := by
  intro X ρ w xs H hx
  rcases k X ρ w xs H hx with ⟨v, w', hr, u, ms, ρ', hq, ha⟩ | ⟨hr, hcl⟩
  · exact .inl ⟨v, w', hr, _, _, ρ', hR _ _ hq, ha⟩
  · refine .inr ⟨hr, hcl.mono ?_⟩
    rintro e w' ⟨y, he, u, ms, ρ', hq, ha⟩
    exact ⟨y, he, _, _, ρ', hR _ _ hq, ha⟩
set_option maxRecDepth 100000 in
set_option maxHeartbeats 2000000 in
theorem cDoubleB (K : Nat) (i L n c : Nat) (T : Nat → Int) (h : List (Option Chunk)) (hi : h[i]? = some (some (airC true (.slice (some ⟨L, 0, some 0⟩) n c)))) (hL : h[L]? = some (some (mlT true c T))) (hiL : i ≠ L) (hn : 1 ≤ n) (hc : n ≤ c) (hm : n < 512) (h0 : h[K]? = some none) :
    CallAll Try.prog 10 [.pointer (some ⟨i, 0, some 0⟩), .int .i64 0] h (putR i L K n c T (T 0)) := by
  have hKL : K ≠ i ∧ K ≠ L := ⟨fun e => (by subst e; rw [hi] at h0; cases h0), fun e => (by subst e; rw [hL] at h0; cases h0)⟩
  have key := call_suball (P := Try.prog) (G := tys) (α := Option Nat) (h := h) (vs := [.pointer (some ⟨i, 0, some 0⟩), .int .i64 0]) (fun κ => match κ with | none => n < c | some c' => n < c' ∧ c ≤ n) (fun κ => .bool true) [⟨i, _, airC true (.slice (some ⟨1, 0, some 0⟩) n c), airC true (.slice (some ⟨L, 0, some 0⟩) n c)⟩, ⟨L, _, mlT true c T, mlT true c T⟩] (fun κ => (match κ with | none => [airC true (.slice (some ⟨L, 0, some 0⟩) (n + 1) c), mlT true c (setT T n (T 0))] | some c' => [airC true (.slice (some ⟨K, 0, some 0⟩) (n + 1) c'), mlT true c T])) (fun κ => match κ with | none => [] | some c' => [⟨K, 7, mlT true c' (growT T n (T 0))⟩]) [.pointer (some ⟨0, 0, some 0⟩), .int .i64 0] tysOK mixed Try.func10 (by rfl) (Try.call10) ⟨hi, hL, trivial⟩ ⟨⟨fun h => ⟨rfl, Nat.le_refl _⟩, Nat.le_refl _, air_re (by rfl)⟩, ⟨fun h => ⟨rfl, Nat.le_refl _⟩, Nat.le_refl _, mlT_re (fun _ _ => rfl)⟩, trivial⟩ (fun κ _ => by cases κ <;> exact ⟨⟨fun h => ⟨rfl, Nat.le_refl _⟩, Nat.le_refl _, air_re (by rfl)⟩, ⟨fun h => ⟨rfl, Nat.le_refl _⟩, Nat.le_refl _, mlT_re (fun _ _ => rfl)⟩, trivial⟩) (by simp [Apart, hiL]) (fun κ hκ => by
    cases κ with
    | none => exact trivial
    | some c' => exact ⟨⟨h0, rfl, by show 0 < c' * 5; have := hκ.1; omega, by simp⟩, trivial⟩) ⟨.ptr rfl, .plain rfl, trivial⟩ ?_
  · refine CallAll.mono key ?_
    rintro v ms ⟨κ, hκ, rfl, rfl⟩
    refine ⟨rfl, ?_⟩
    cases κ with
    | none => exact .inl ⟨hκ, rfl⟩
    | some c' => exact .inr ⟨c', hκ.1, hκ.2, rfl⟩
  repeat' (refine N.go ?_; first | with_reducible refine N.obl (by decide) ?_ | with_reducible refine N.obl (flat_wi _ _ _) ?_ | with_reducible refine N.obl (flat_lim _ _) ?_ | with_reducible refine N.eq ?_ | with_reducible refine N.obl rfl ?_ | with_reducible refine N.obl ⟨by kernel_rfl, by kernel_rfl⟩ ?_ | with_reducible refine N.forkT ?_ | with_reducible refine N.forkF ?_ | refine N.call (cGetA 0 _ _ _ _ n c T _ (by rfl) (by rfl) (by decide) hn hc (by omega) (by omega)) ?_ | refine N.forkNo (by decide) ?_ | refine N.forkYes (by decide) ?_ | fail_if_success skip)
  refine N.go ?_
  refine N.callAll (cPutB (T 0) 7 0 1 n c T _ (by rfl) (by rfl) (by decide) hn hc hm (by rfl)) fun v ms hR => ?_
  obtain ⟨rfl, ⟨hr, rfl⟩ | ⟨c', hc', hcn, rfl⟩⟩ := hR
  · repeat' (refine N.go ?_; first | with_reducible refine N.obl (by decide) ?_ | with_reducible refine N.obl (flat_wi _ _ _) ?_ | with_reducible refine N.obl (flat_lim _ _) ?_ | with_reducible refine N.eq ?_ | with_reducible refine N.obl rfl ?_ | with_reducible refine N.obl ⟨by kernel_rfl, by kernel_rfl⟩ ?_ | with_reducible refine N.forkT ?_ | with_reducible refine N.forkF ?_ | refine N.call (cGetA 0 _ _ _ _ n c T _ (by rfl) (by rfl) (by decide) hn hc (by omega) (by omega)) ?_ | refine N.forkNo (by decide) ?_ | refine N.forkYes (by decide) ?_ | fail_if_success skip)
    refine N.go ?_
    refine N.some none ⟨hr, ?_⟩
    refine N.obl (.plain rfl) ?_
    refine N.obl ⟨airS_post 1 (by rfl) (by rfl), mlT_post (fun _ _ => rfl) (by rfl), trivial⟩ ?_
    refine N.obl trivial ?_
    exact N.true
  · repeat' (refine N.go ?_; first | with_reducible refine N.obl (by decide) ?_ | with_reducible refine N.obl (flat_wi _ _ _) ?_ | with_reducible refine N.obl (flat_lim _ _) ?_ | with_reducible refine N.eq ?_ | with_reducible refine N.obl rfl ?_ | with_reducible refine N.obl ⟨by kernel_rfl, by kernel_rfl⟩ ?_ | with_reducible refine N.forkT ?_ | with_reducible refine N.forkF ?_ | refine N.call (cGetA 0 _ _ _ _ n c T _ (by rfl) (by rfl) (by decide) hn hc (by omega) (by omega)) ?_ | refine N.forkNo (by decide) ?_ | refine N.forkYes (by decide) ?_ | fail_if_success skip)
    refine N.go ?_
    refine N.some (some c') ⟨⟨hc', hcn⟩, ?_⟩
    refine N.obl (.plain rfl) ?_
    refine N.obl ⟨airS_post 7 (by rfl) (by rfl), mlT_post (fun _ _ => rfl) (by rfl), trivial⟩ ?_
    refine N.obl ⟨⟨by show 2 ≤ 7; decide, mlT_post (fun _ _ => rfl) (by rfl)⟩, trivial⟩ ?_
    exact N.true
set_option maxRecDepth 100000 in
set_option maxHeartbeats 2000000 in
theorem cDoubleN (o1 o2 : Bool) (i L n c : Nat) (T : Nat → Int) (h : List (Option Chunk)) (hi : h[i]? = some (some (airC o1 (.slice (some ⟨L, 0, some 0⟩) n c)))) (hL : h[L]? = some (some (mlT o2 c T))) (hiL : i ≠ L) (hn : 1 ≤ n) (hc : n ≤ c) (hm : n = 512) :
    CallOK Try.prog 10 [.pointer (some ⟨i, 0, some 0⟩), .int .i64 0] h (.bool false) [] [i, L] := by
  refine call_sub (G := tys) [⟨i, _, airC false (.slice (some ⟨1, 0, some 0⟩) n c), ⟨false, 0, []⟩⟩, ⟨L, _, mlT false c T, ⟨false, 0, []⟩⟩] [] [.pointer (some ⟨0, 0, some 0⟩), .int .i64 0] tysOK mixed Try.func10 (by rfl) (Try.call10) ⟨hi, hL, trivial⟩ ⟨⟨fun h => (by cases h), Nat.le_refl _, air_re (by rfl)⟩, ⟨fun h => (by cases h), Nat.le_refl _, mlT_re (fun _ _ => rfl)⟩, trivial⟩ (by simp [Apart]) trivial ⟨.ptr rfl, .plain rfl, trivial⟩ ?_
  repeat' (refine N.go ?_; first | with_reducible refine N.obl (by decide) ?_ | with_reducible refine N.obl (flat_wi _ _ _) ?_ | with_reducible refine N.obl (flat_lim _ _) ?_ | with_reducible refine N.eq ?_ | with_reducible refine N.obl rfl ?_ | with_reducible refine N.obl ⟨by kernel_rfl, by kernel_rfl⟩ ?_ | with_reducible refine N.forkT ?_ | with_reducible refine N.forkF ?_ | refine N.call (cGetA 0 _ _ _ _ n c T _ (by rfl) (by rfl) (by decide) hn hc (by omega) (by omega)) ?_ | refine N.call (cPutN (T 0) _ _ _ _ n c T _ (by rfl) (by rfl) (by decide) hn hc (by omega)) ?_ | refine N.forkNo (by decide) ?_ | refine N.forkYes (by decide) ?_ | refine N.obl (.plain rfl) ?_ | refine N.obl (.tuple ⟨.plain rfl, .plain rfl, trivial⟩) ?_ | refine N.obl trivial ?_ | exact N.true | fail_if_success skip)
/-- The numbers when the second is gone. -/
def delA (T : Nat → Int) (n i : Nat) : Int := if 1 ≤ i ∧ i < n - 1 then T (i + 1) else T i
def delT (T : Nat → Int) (n i : Nat) : Int := if i = n - 1 then 0 else delA T n i
theorem rd_tail {o : Bool} {c n p sz : Nat} {T : Nat → Int} (hs : sz = 5) (hn : n ≤ c) (h2 : 2 ≤ n) (e : p = 10) : Reads (mlT o c T) p true ((n - 2) * sz) (.agg ⟨segL ((n - 2) * 5) (fun j => mcell (T (j / 5 + 2)) (j % 5))⟩) := by
  subst e hs
  refine ⟨by show 10 + (n - 2) * 5 ≤ c * 5; omega, _, rfl, segL_len _ _, fun j hj => ?_⟩
  show _ = (segL _ _).getD j undef
  rw [segL_get hj, seg_cell (by omega), show (10 + j) / 5 = j / 5 + 2 from by omega, show (10 + j) % 5 = j % 5 from by omega]
theorem fl_tail {n sz : Nat} {T : Nat → Int} (hs : sz = 5) : flatB (.agg ⟨segL ((n - 2) * 5) (fun j => mcell (T (j / 5 + 2)) (j % 5))⟩) ((n - 2) * sz) = true := by
  subst hs
  exact seg_flat fun j _ => plain1_one (mcell_plain _ _)
theorem wr_tail {c n p m : Nat} {T : Nat → Int} (hn : n ≤ c) (h2 : 2 ≤ n) (hm : m = (n - 2) * 5) (e : p = 5) : Writes (mlT true c T) p m (.agg ⟨segL ((n - 2) * 5) (fun j => mcell (T (j / 5 + 2)) (j % 5))⟩) (mlT true c (delA T n)) := by
  subst e hm
  refine ⟨rfl, by show 5 + (n - 2) * 5 ≤ c * 5; omega, rfl, fun j hj => ?_⟩
  have hj : j < c * 5 := hj
  rw [seg_cell hj, seg_cell hj]
  unfold delA
  by_cases e : 5 ≤ j ∧ j < 5 + (n - 2) * 5
  · rw [if_pos e, if_pos (by omega)]
    show _ = (segL _ _).getD (j - 5) undef
    rw [segL_get (by omega), show (j - 5) / 5 + 2 = j / 5 + 1 from by omega, show (j - 5) % 5 = j % 5 from by omega]
  · rw [if_neg e, if_neg (by omega)]
theorem wr_zero {c n p m : Nat} {T : Nat → Int} (hn : n ≤ c) (h2 : 2 ≤ n) (hm : m = 5) (e : p = (n - 1) * 5) : Writes (mlT true c (delA T n)) p m (.agg ⟨segL 5 (repZ 5 (mlV 0))⟩) (mlT true c (delT T n)) := by
  subst e hm
  refine ⟨rfl, by show (n - 1) * 5 + 5 ≤ c * 5; omega, rfl, fun j hj => ?_⟩
  have hj : j < c * 5 := hj
  rw [seg_cell hj, seg_cell hj]
  unfold delT
  by_cases e : (n - 1) * 5 ≤ j ∧ j < (n - 1) * 5 + 5
  · rw [if_pos e, if_pos (by omega)]
    show _ = (segL _ _).getD (j - (n - 1) * 5) undef
    rw [segL_get (by omega), mcell_zero]
    congr 1; omega
  · rw [if_neg e, if_neg (by omega)]
set_option maxRecDepth 100000 in
set_option maxHeartbeats 2000000 in
theorem cDelete (i n c : Nat) (T : Nat → Int) (h : List (Option Chunk)) (hi : h[i]? = some (some (mlT true c T))) (hn : 3 ≤ n) (hm : n ≤ 1000) (hc : n ≤ c) :
    CallOK Try.prog 22 [.slice (some ⟨i, 0, some 0⟩) n c, .int .i64 1, .int .i64 2] h (.slice (some ⟨i, 0, some 0⟩) (n - 1) c) [(i, mlT true c (delT T n))] [] := by
  have e0 : 0 + (if c = 0 then 0 else 0 * Try.t29.size) = 0 := by split <;> simp
  have e2 : 0 + (if c = 2 then 0 else 2 * Try.t29.size) = 10 := by rw [if_neg (by omega)]; rfl
  have e3 : 0 + (if c = n - 1 then 0 else (n - 1) * Try.t29.size) = (n - 1) * 5 := by rw [if_neg (by omega)]; show 0 + (n - 1) * 5 = _; omega
  refine call_sub (G := tys) [⟨i, _, mlT true c T, mlT true c (delT T n)⟩] [] [.slice (some ⟨0, 0, some 0⟩) n c, .int .i64 1, .int .i64 2] tysOK mixed Try.func22 (by rfl) (Try.call22) ⟨hi, trivial⟩ ⟨⟨fun h => ⟨rfl, Nat.le_refl _⟩, Nat.le_refl _, mlT_re (fun _ _ => rfl)⟩, trivial⟩ (by simp [Apart]) trivial ⟨.slice rfl, .plain rfl, .plain rfl, trivial⟩ ?_
  repeat' (refine N.go ?_; first | with_reducible refine N.obl (by decide) ?_ | with_reducible refine N.obl (flat_wi _ _ _) ?_ | with_reducible refine N.obl (flat_lim _ _) ?_ | with_reducible refine N.eq ?_ | with_reducible refine N.obl rfl ?_ | with_reducible refine N.obl ⟨by kernel_rfl, by kernel_rfl⟩ ?_ | with_reducible refine N.forkT ?_ | with_reducible refine N.forkF ?_ | refine N.bnd3 1 2 n 1 ⟨rfl, hc⟩ ⟨rfl, by omega⟩ ⟨rfl, by decide⟩ ?_ | (refine N.bnd 0 1 0 ⟨rfl, by omega⟩ rfl ?_; rw [e0, show 1 - 0 = 1 from rfl, show c - 0 = c from rfl]) | (refine N.bnd 2 n 1 rfl ⟨rfl, by omega⟩ ?_; rw [e2]) | (refine N.bnd (n - 1) n 1 ⟨rfl, by omega⟩ ⟨rfl, by omega⟩ ?_; rw [e3, show n - (n - 1) = 1 from by omega]) | refine N.clr (mlT true c (delT T n)) (by decide) (wr_zero hc (by omega) rfl rfl) ?_ | refine N.obl (by show endB _ _ = Bool.true; kernel_rfl) ?_ | refine N.obl (.one (.slice (by rfl))) ?_ | refine N.obl ⟨mlT_post (fun _ _ => rfl) (by rfl), trivial⟩ ?_ | refine N.obl trivial ?_ | exact N.true | refine N.forkNo (by decide) ?_ | refine N.forkYes (by decide) ?_ | fail_if_success skip)
  refine N.go ?_
  refine N.plan [0, 1, 2, 3, 4, 5] [(6, [7])] (by kernel_rfl) ?_
  repeat' (refine N.go ?_; first | with_reducible refine N.obl (by decide) ?_ | with_reducible refine N.obl (flat_wi _ _ _) ?_ | with_reducible refine N.obl (flat_lim _ _) ?_ | with_reducible refine N.eq ?_ | with_reducible refine N.obl rfl ?_ | with_reducible refine N.obl ⟨by kernel_rfl, by kernel_rfl⟩ ?_ | with_reducible refine N.forkT ?_ | with_reducible refine N.forkF ?_ | refine N.bnd3 1 2 n 1 ⟨rfl, hc⟩ ⟨rfl, by omega⟩ ⟨rfl, by decide⟩ ?_ | (refine N.bnd 0 1 0 ⟨rfl, by omega⟩ rfl ?_; rw [e0, show 1 - 0 = 1 from rfl, show c - 0 = c from rfl]) | (refine N.bnd 2 n 1 rfl ⟨rfl, by omega⟩ ?_; rw [e2]) | (refine N.bnd (n - 1) n 1 ⟨rfl, by omega⟩ ⟨rfl, by omega⟩ ?_; rw [e3, show n - (n - 1) = 1 from by omega]) | refine N.clr (mlT true c (delT T n)) (by decide) (wr_zero hc (by omega) rfl rfl) ?_ | refine N.obl (by show endB _ _ = Bool.true; kernel_rfl) ?_ | refine N.obl (.one (.slice (by rfl))) ?_ | refine N.obl ⟨mlT_post (fun _ _ => rfl) (by rfl), trivial⟩ ?_ | refine N.obl trivial ?_ | exact N.true | refine N.forkNo (by decide) ?_ | refine N.forkYes (by decide) ?_ | fail_if_success skip)
  refine N.go ?_
  refine AppN.mk1 _ (rd_tail rfl hc (by omega) rfl) (fl_tail rfl) (by show 1 * 5 ≤ c * 5; omega) (by omega) (by show (1 + (n - 2)) * 56 ≤ _; omega) (mlT true c (delA T n)) (fun _ => wr_tail hc (by omega) rfl rfl) (fun hr => ?_) (fun hg cap hcap => absurd hg (by omega))
  rw [show 1 + (n - 2) = n - 1 from by omega]
  repeat' (refine N.go ?_; first | with_reducible refine N.obl (by decide) ?_ | with_reducible refine N.obl (flat_wi _ _ _) ?_ | with_reducible refine N.obl (flat_lim _ _) ?_ | with_reducible refine N.eq ?_ | with_reducible refine N.obl rfl ?_ | with_reducible refine N.obl ⟨by kernel_rfl, by kernel_rfl⟩ ?_ | with_reducible refine N.forkT ?_ | with_reducible refine N.forkF ?_ | refine N.bnd3 1 2 n 1 ⟨rfl, hc⟩ ⟨rfl, by omega⟩ ⟨rfl, by decide⟩ ?_ | (refine N.bnd 0 1 0 ⟨rfl, by omega⟩ rfl ?_; rw [e0, show 1 - 0 = 1 from rfl, show c - 0 = c from rfl]) | (refine N.bnd 2 n 1 rfl ⟨rfl, by omega⟩ ?_; rw [e2]) | (refine N.bnd (n - 1) n 1 ⟨rfl, by omega⟩ ⟨rfl, by omega⟩ ?_; rw [e3, show n - (n - 1) = 1 from by omega]) | refine N.clr (mlT true c (delT T n)) (by decide) (wr_zero hc (by omega) rfl rfl) ?_ | refine N.obl (by show endB _ _ = Bool.true; kernel_rfl) ?_ | refine N.obl (.one (.slice (by rfl))) ?_ | refine N.obl ⟨mlT_post (fun _ _ => rfl) (by rfl), trivial⟩ ?_ | refine N.obl trivial ?_ | exact N.true | refine N.forkNo (by decide) ?_ | refine N.forkYes (by decide) ?_ | fail_if_success skip)
set_option maxRecDepth 100000 in
set_option maxHeartbeats 2000000 in
theorem cTake (i L n c : Nat) (T : Nat → Int) (h : List (Option Chunk)) (hi : h[i]? = some (some (airC true (.slice (some ⟨L, 0, some 0⟩) n c)))) (hL : h[L]? = some (some (mlT true c T))) (hiL : i ≠ L) (hn : 1 ≤ n) (hc : n ≤ c) (h3 : 3 ≤ n) (hm : n ≤ 1000) :
    CallOK Try.prog 15 [.pointer (some ⟨i, 0, some 0⟩), .int .i64 1] h (.tuple #[mlV (T 1), .bool true]) [(i, airC true (.slice (some ⟨L, 0, some 0⟩) (n - 1) c)), (L, mlT true c (delT T n))] [] := by
  refine call_sub (G := tys) [⟨i, _, airC true (.slice (some ⟨1, 0, some 0⟩) n c), airC true (.slice (some ⟨L, 0, some 0⟩) (n - 1) c)⟩, ⟨L, _, mlT true c T, mlT true c (delT T n)⟩] [] [.pointer (some ⟨0, 0, some 0⟩), .int .i64 1] tysOK mixed Try.func15 (by rfl) (Try.call15) ⟨hi, hL, trivial⟩ ⟨⟨fun h => ⟨rfl, Nat.le_refl _⟩, Nat.le_refl _, air_re (by rfl)⟩, ⟨fun h => ⟨rfl, Nat.le_refl _⟩, Nat.le_refl _, mlT_re (fun _ _ => rfl)⟩, trivial⟩ (by simp [Apart, hiL]) trivial ⟨.ptr rfl, .plain rfl, trivial⟩ ?_
  repeat' (refine N.go ?_; first | with_reducible refine N.obl (by decide) ?_ | with_reducible refine N.obl (flat_wi _ _ _) ?_ | with_reducible refine N.obl (flat_lim _ _) ?_ | with_reducible refine N.eq ?_ | with_reducible refine N.obl rfl ?_ | with_reducible refine N.obl ⟨by kernel_rfl, by kernel_rfl⟩ ?_ | with_reducible refine N.forkT ?_ | with_reducible refine N.forkF ?_ | refine N.call (cGetA 1 _ _ _ _ n c T _ (by rfl) (by rfl) (by decide) hn hc (by omega) (by omega)) ?_ | refine N.call (cDelete 1 n c T _ (by rfl) h3 hm hc) ?_ | refine N.forkNo (by decide) ?_ | refine N.forkYes (by decide) ?_ | refine N.obl (.plain rfl) ?_ | refine N.obl (.tuple ⟨.plain rfl, .plain rfl, trivial⟩) ?_ | refine N.obl ⟨airT_post 1 (by rfl) (by rfl) rfl (Nat.le_refl _) rfl, mlT_post (fun _ _ => rfl) (by rfl), trivial⟩ ?_ | refine N.obl trivial ?_ | exact N.true | fail_if_success skip)
end Go.Proofs.Ytgikbmohmomgbaa
