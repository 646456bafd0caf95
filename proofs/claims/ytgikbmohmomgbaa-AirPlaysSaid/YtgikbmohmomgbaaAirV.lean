
/-
  The walks of air at mails with bytes: Delete, Take.
-/
import Derived.Test.YtgikbmohmomgbaaAirU
set_option linter.unusedVariables false
set_option linter.unusedSimpArgs false
namespace Go.Proofs.Ytgikbmohmomgbaa
open Go Go.RowKit Sx

/-- The mails when one is gone. -/
def delM (T : Nat → Ml) (n x i : Nat) : Ml := if x ≤ i ∧ i < n - 1 then T (i + 1) else T i
def delMT (T : Nat → Ml) (n x i : Nat) : Ml := if i = n - 1 then Ml.z else delM T n x i
theorem rd_tailM {o : Bool} {c n x p sz : Nat} {T : Nat → Ml} (hs : sz = 5) (hn : n ≤ c) (hx : x < n) (e : n = x + 1 ∧ p ≤ c * 5 ∨ p = (x + 1) * 5) : Reads (mlA o c T) p true ((n - (x + 1)) * sz) (.agg ⟨segL ((n - (x + 1)) * 5) (fun j => mlc (T (j / 5 + (x + 1))) (j % 5))⟩) := by
  subst hs
  rcases e with ⟨rfl, hp⟩ | rfl
  · refine ⟨by show p + _ ≤ c * 5; omega, _, rfl, segL_len _ _, fun j hj => absurd hj (by omega)⟩
  · refine ⟨by show (x + 1) * 5 + (n - (x + 1)) * 5 ≤ c * 5; omega, _, rfl, segL_len _ _, fun j hj => ?_⟩
    show _ = (segL _ _).getD j undef
    rw [segL_get hj, seg_cell (by omega), show ((x + 1) * 5 + j) / 5 = j / 5 + (x + 1) from by omega, show ((x + 1) * 5 + j) % 5 = j % 5 from by omega]
theorem fl_segM {n m : Nat} {T : Nat → Ml} (hs : m = n * 5) : flatB (.agg ⟨segL (n * 5) (fun j => mlc (T (j / 5)) (j % 5))⟩) m = true := by
  subst hs
  exact seg_flat fun j _ => mlc_one _ _
theorem wr_tailM {c n x p m : Nat} {T : Nat → Ml} (hn : n ≤ c) (hx : x < n) (hm : m = (n - (x + 1)) * 5) (e : p = x * 5) : Writes (mlA true c T) p m (.agg ⟨segL ((n - (x + 1)) * 5) (fun j => mlc (T (j / 5 + (x + 1))) (j % 5))⟩) (mlA true c (delM T n x)) := by
  subst e hm
  refine ⟨rfl, by show x * 5 + (n - (x + 1)) * 5 ≤ c * 5; omega, rfl, fun j hj => ?_⟩
  have hj : j < c * 5 := hj
  rw [seg_cell hj, seg_cell hj]
  unfold delM
  by_cases e : x * 5 ≤ j ∧ j < x * 5 + (n - (x + 1)) * 5
  · rw [if_pos e, if_pos (by omega)]
    show _ = (segL _ _).getD (j - x * 5) undef
    rw [segL_get (by omega), show (j - x * 5) / 5 + (x + 1) = j / 5 + 1 from by omega, show (j - x * 5) % 5 = j % 5 from by omega]
  · rw [if_neg e, if_neg (by omega)]
/-- Mails, of which one is written as it is (not as it is told here). -/
abbrev mlZ (c : Nat) (T : Nat → Ml) (z : Nat) : Chunk := ⟨true, c * 5, [(0, c * 5, .agg ⟨segL (c * 5) (fun j => if j / 5 = z then repZ 5 (.agg #[.int .i64 0, .slice none 0 0, .int .i64 0, .int .i64 0, .bool false]) (j - z * 5) else mlc (T (j / 5)) (j % 5))⟩)]⟩
theorem wr_zeroM {c n p m : Nat} {T : Nat → Ml} (hn : n ≤ c) (h1 : 1 ≤ n) (hm : m = 5) (e : p = (n - 1) * 5) : Writes (mlA true c T) p m (.agg ⟨segL 5 (repZ 5 (.agg #[.int .i64 0, .slice none 0 0, .int .i64 0, .int .i64 0, .bool false]))⟩) (mlZ c T (n - 1)) := by
  subst e hm
  refine ⟨rfl, by show (n - 1) * 5 + 5 ≤ c * 5; omega, rfl, fun j hj => ?_⟩
  have hj : j < c * 5 := hj
  rw [seg_cell hj, seg_cell hj]
  by_cases e : (n - 1) * 5 ≤ j ∧ j < (n - 1) * 5 + 5
  · rw [if_pos e, if_pos (by omega)]
    show _ = (segL _ _).getD (j - (n - 1) * 5) undef
    rw [segL_get (by omega)]
  · rw [if_neg e, if_neg (by omega)]
theorem mlZ_post {ix : List (Nat × Nat)} {c n x : Nat} {T : Nat → Ml} {j : Nat} (hj : j < c * 5) : Re1 ix ((mlA true c (delMT T n x)).f j) ((mlZ c (delM T n x) (n - 1)).f j) := by
  rw [seg_cell hj, seg_cell hj]
  unfold delMT
  by_cases e : j / 5 = n - 1
  · rw [if_pos e, if_pos e]
    have : (j - (n - 1) * 5) = j % 5 := by omega
    rw [this]
    have hk : j % 5 < 5 := Nat.mod_lt _ (by decide)
    have := mlc_zero (j % 5)
    rw [Nat.mod_mod] at this
    exact .any (fun r r' => (this r' r).symm)
  · rw [if_neg e, if_neg e]; exact mlc_re _ _
theorem mlZ_postC {ix : List (Nat × Nat)} {c n x : Nat} {T : Nat → Ml} {hp : List (Option Chunk)} {k : Nat} (hh : hp[k]? = some (some (mlZ c (delM T n x) (n - 1)))) : PostC ix hp k (mlA true c (delMT T n x)) := ⟨_, hh, id, Nat.le_refl _, fun j hj => mlZ_post hj⟩
set_option maxRecDepth 100000 in
set_option maxHeartbeats 2000000 in
theorem cDeleteM (i n c x : Nat) (T : Nat → Ml) (h : List (Option Chunk)) (hi : h[i]? = some (some (mlA true c T))) (hx : x < n) (hm : n ≤ 1000) (hc : n ≤ c) :
    CallOK Try.prog 22 [.slice (some ⟨i, 0, some 0⟩) n c, .int .i64 (x : Nat), .int .i64 ((x : Int) + 1)] h (.slice (some ⟨i, 0, some 0⟩) (n - 1) c) [(i, mlA true c (delMT T n x))] [] := by
  have e0 : 0 + (if c = 0 then 0 else 0 * Try.t29.size) = 0 := by split <;> simp
  have e2 : ∃ g, 0 + (if c = x + 1 then 0 else (x + 1) * Try.t29.size) = g ∧ (n = x + 1 ∧ g ≤ c * 5 ∨ g = (x + 1) * 5) := by
    by_cases e : c = x + 1
    · exact ⟨0, by rw [if_pos e], .inl ⟨by omega, by omega⟩⟩
    · exact ⟨(x + 1) * 5, by rw [if_neg e]; show 0 + (x + 1) * 5 = _; omega, .inr rfl⟩
  obtain ⟨g, e2, hg⟩ := e2
  have e3 : 0 + (if c = n - 1 then 0 else (n - 1) * Try.t29.size) = (n - 1) * 5 := by rw [if_neg (by omega)]; show 0 + (n - 1) * 5 = _; omega
  refine call_sub (G := tys) [⟨i, _, mlA true c T, mlA true c (delMT T n x)⟩] [] [.slice (some ⟨0, 0, some 0⟩) n c, .int .i64 (x : Nat), .int .i64 ((x : Int) + 1)] tysOK mixed Try.func22 (by rfl) (Try.call22) ⟨hi, trivial⟩ ⟨⟨fun h => ⟨rfl, Nat.le_refl _⟩, Nat.le_refl _, mlA_re⟩, trivial⟩ (by simp [Apart]) trivial ⟨.slice rfl, .plain rfl, .plain rfl, trivial⟩ ?_
  repeat' (refine N.go ?_; first | with_reducible refine N.obl (by decide) ?_ | with_reducible refine N.obl (flat_wi _ _ _) ?_ | with_reducible refine N.obl (flat_lim _ _) ?_ | with_reducible refine N.eq ?_ | with_reducible refine N.obl rfl ?_ | with_reducible refine N.obl ⟨by kernel_rfl, by kernel_rfl⟩ ?_ | with_reducible refine N.alt ?_ | with_reducible refine N.forkT ?_ | with_reducible refine N.forkF ?_ | refine N.forkNo (by decide) ?_ | refine N.forkYes (by decide) ?_ | refine N.forkNo (beq_false_of_ne (by omega)) ?_ | refine N.bnd3 x (x + 1) n 1 ⟨rfl, hc⟩ ⟨by rfl, by omega⟩ ⟨rfl, by omega⟩ ?_ | (refine N.bnd 0 x 0 ⟨rfl, by omega⟩ rfl ?_; rw [e0, show x - 0 = x from by omega, show c - 0 = c from rfl]) | (refine N.bnd (x + 1) n 1 rfl ⟨by rfl, by omega⟩ ?_; rw [e2]) | (refine N.bnd (n - 1) n 1 ⟨rfl, by omega⟩ ⟨rfl, by omega⟩ ?_; rw [e3, show n - (n - 1) = 1 from by omega]) | refine N.clr (mlZ c (delM T n x) (n - 1)) (by decide) (wr_zeroM hc (by omega) rfl rfl) ?_ | refine N.obl (by show endB _ _ = Bool.true; kernel_rfl) ?_ | refine N.obl (.one (.slice (by rfl))) ?_ | refine N.obl ⟨mlZ_postC (by rfl), trivial⟩ ?_ | refine N.obl trivial ?_ | exact N.true | fail_if_success skip)
  refine N.go ?_
  refine N.plan [0, 1, 2, 3, 4, 5] [(6, [7])] (by kernel_rfl) ?_
  repeat' (refine N.go ?_; first | with_reducible refine N.obl (by decide) ?_ | with_reducible refine N.obl (flat_wi _ _ _) ?_ | with_reducible refine N.obl (flat_lim _ _) ?_ | with_reducible refine N.eq ?_ | with_reducible refine N.obl rfl ?_ | with_reducible refine N.obl ⟨by kernel_rfl, by kernel_rfl⟩ ?_ | with_reducible refine N.alt ?_ | with_reducible refine N.forkT ?_ | with_reducible refine N.forkF ?_ | refine N.forkNo (by decide) ?_ | refine N.forkYes (by decide) ?_ | refine N.forkNo (beq_false_of_ne (by omega)) ?_ | refine N.bnd3 x (x + 1) n 1 ⟨rfl, hc⟩ ⟨by rfl, by omega⟩ ⟨rfl, by omega⟩ ?_ | (refine N.bnd 0 x 0 ⟨rfl, by omega⟩ rfl ?_; rw [e0, show x - 0 = x from by omega, show c - 0 = c from rfl]) | (refine N.bnd (x + 1) n 1 rfl ⟨by rfl, by omega⟩ ?_; rw [e2]) | (refine N.bnd (n - 1) n 1 ⟨rfl, by omega⟩ ⟨rfl, by omega⟩ ?_; rw [e3, show n - (n - 1) = 1 from by omega]) | refine N.clr (mlZ c (delM T n x) (n - 1)) (by decide) (wr_zeroM hc (by omega) rfl rfl) ?_ | refine N.obl (by show endB _ _ = Bool.true; kernel_rfl) ?_ | refine N.obl (.one (.slice (by rfl))) ?_ | refine N.obl ⟨mlZ_postC (by rfl), trivial⟩ ?_ | refine N.obl trivial ?_ | exact N.true | fail_if_success skip)
  refine N.go ?_
  refine AppN.mk1 _ (rd_tailM rfl hc hx hg) (fl_segM (T := fun i => T (i + (x + 1))) rfl) (by show x * 5 ≤ c * 5; omega) (by omega) (by show (x + (n - (x + 1))) * 56 ≤ _; omega) (mlA true c (delM T n x)) (fun _ => wr_tailM hc hx rfl rfl) (fun hr => ?_) (fun hg cap hcap => absurd hg (by omega))
  rw [show x + (n - (x + 1)) = n - 1 from by omega]
  repeat' (refine N.go ?_; first | with_reducible refine N.obl (by decide) ?_ | with_reducible refine N.obl (flat_wi _ _ _) ?_ | with_reducible refine N.obl (flat_lim _ _) ?_ | with_reducible refine N.eq ?_ | with_reducible refine N.obl rfl ?_ | with_reducible refine N.obl ⟨by kernel_rfl, by kernel_rfl⟩ ?_ | with_reducible refine N.alt ?_ | with_reducible refine N.forkT ?_ | with_reducible refine N.forkF ?_ | refine N.forkNo (by decide) ?_ | refine N.forkYes (by decide) ?_ | refine N.forkNo (beq_false_of_ne (by omega)) ?_ | refine N.bnd3 x (x + 1) n 1 ⟨rfl, hc⟩ ⟨by rfl, by omega⟩ ⟨rfl, by omega⟩ ?_ | (refine N.bnd 0 x 0 ⟨rfl, by omega⟩ rfl ?_; rw [e0, show x - 0 = x from by omega, show c - 0 = c from rfl]) | (refine N.bnd (x + 1) n 1 rfl ⟨by rfl, by omega⟩ ?_; rw [e2]) | (refine N.bnd (n - 1) n 1 ⟨rfl, by omega⟩ ⟨rfl, by omega⟩ ?_; rw [e3, show n - (n - 1) = 1 from by omega]) | refine N.clr (mlZ c (delM T n x) (n - 1)) (by decide) (wr_zeroM hc (by omega) rfl rfl) ?_ | refine N.obl (by show endB _ _ = Bool.true; kernel_rfl) ?_ | refine N.obl (.one (.slice (by rfl))) ?_ | refine N.obl ⟨mlZ_postC (by rfl), trivial⟩ ?_ | refine N.obl trivial ?_ | exact N.true | fail_if_success skip)
theorem get_del {L : List Ml} {x : Nat} {T : Nat → Ml} (hx : x < L.length) (hT : ∀ i m, L[i]? = some m → T i = m) : ∀ i m, (L.eraseIdx x)[i]? = some m → delMT T L.length x i = m := fun i m hm => by
  have hl := (List.getElem?_eq_some_iff.1 hm).1
  rw [List.length_eraseIdx_of_lt hx] at hl
  rw [List.getElem?_eraseIdx] at hm
  unfold delMT delM
  rw [if_neg (by omega)]
  split at hm
  · rw [if_neg (by omega)]; exact hT i m hm
  · rw [if_pos (by omega)]; exact hT _ m hm
set_option maxRecDepth 100000 in
set_option maxHeartbeats 2000000 in
theorem cTakeM (W : World) (F : List By) (L : List Ml) (x : Nat) (m : Ml) (bs : List Int) (i j : Nat) (hij : i ≠ j) (h : List (Option Chunk)) (hi : h[i]? = some (some (airP L))) (hj : h[j]? = some (some (memC W F))) (hm : L[x]? = some m) (hs : Src W F m.u bs) (hb : bs.length ≤ 1048576) (hl : L.length ≤ 1000) :
    CallAll Try.prog 15 [.pointer (some ⟨i, 0, some 0⟩), .int .i64 (x : Nat)] h (fun v ms => ∃ u' F', Made F bs u' F' ∧ v = .tuple ⟨[mailV m.to_ u' m.at_ m.tr m.be, .bool true]⟩ ∧ ms = [(i, airP (L.eraseIdx x)), (j, memC W F')]) := by
  refine CallAll.to (call_resall (G := tys) (h := h) (vs := [.pointer (some ⟨i, 0, some 0⟩), .int .i64 (x : Nat)]) (airOK L) (airO W F L) (α := Option Sl × List By) (fun κ => Made F bs κ.1 κ.2) (fun κ => .tuple ⟨[mailV m.to_ κ.1 m.at_ m.tr m.be, .bool true]⟩) [⟨i, airP L, airP L, airP L⟩, ⟨j, memC W F, memC W F, memC W F⟩] (fun κ => [airP (L.eraseIdx x), memC W (κ.2)]) (fun κ => []) [.pointer (some ⟨0, 0, some 0⟩), .int .i64 (x : Nat)] tysOK mixed Try.func15 (by rfl) (Try.call15) ⟨hi, hj, trivial⟩ ⟨⟨fun h => ⟨rfl, Nat.le_refl _⟩, Nat.le_refl _, fun j hj => absurd hj (Nat.not_lt_zero j)⟩, ⟨fun h => ⟨rfl, Nat.le_refl _⟩, Nat.le_refl _, fun j hj => absurd hj (Nat.not_lt_zero j)⟩, trivial⟩ (fun κ _ => ⟨⟨fun h => ⟨rfl, Nat.le_refl _⟩, Nat.le_refl _, fun j hj => absurd hj (Nat.not_lt_zero j)⟩, ⟨fun h => ⟨rfl, Nat.le_refl _⟩, Nat.le_refl _, fun j hj => absurd hj (Nat.not_lt_zero j)⟩, trivial⟩) (by simp [Apart, hij]) ⟨.inr ⟨rfl, rfl⟩, .inr ⟨rfl, rfl⟩, trivial⟩ (fun κ _ => trivial) ⟨.ptr rfl, .plain rfl, trivial⟩ air_opens2 ?_) ?_
  rotate_left
  · rintro v ms ⟨κ, hκ, rfl, rfl⟩
    exact ⟨κ.1, κ.2, hκ, rfl, rfl⟩
  intro β hβ
  have hx : x < L.length := (List.getElem?_eq_some_iff.1 hm).1
  have hw : IntKind.i64.wrap ((x : Int) + 1) = (x : Int) + 1 := i64s _ (by omega) (by omega)
  cases β with
  | none =>
    obtain rfl : L = [] := hβ
    simp at hx
  | some q =>
    obtain ⟨c, T⟩ := q
    obtain ⟨hc1, hlc, hT⟩ := hβ
    obtain rfl : T x = m := hT x m hm
    repeat' (refine N.go ?_; first | with_reducible refine N.obl (by decide) ?_ | with_reducible refine N.obl (flat_wi _ _ _) ?_ | with_reducible refine N.obl (flat_lim _ _) ?_ | with_reducible refine N.eq ?_ | with_reducible refine N.obl rfl ?_ | with_reducible refine N.obl ⟨by kernel_rfl, by kernel_rfl⟩ ?_ | with_reducible refine N.alt ?_ | with_reducible refine N.forkT ?_ | with_reducible refine N.forkF ?_ | refine N.forkNo (by decide) ?_ | refine N.forkYes (by decide) ?_ | refine N.forkYes (by rw [decide_eq_true_eq]; omega) ?_ | refine N.forkNo (by rw [decide_eq_false_iff_not]; omega) ?_ | refine N.obl (mail_flat _ _ _ _ _) ?_ | (rw [hw]; refine N.call (cDeleteM 2 L.length c x T _ (by rfl) hx hl hlc) ?_) | fail_if_success skip)
    refine N.go ?_
    refine N.callAll (cGetO W F L.length c x T bs hx hlc hs hb 0 2 1 (by decide) _ (by rfl) (by rfl) (by rfl)) fun v ms hR => ?_
    obtain ⟨u', F', hM, rfl, rfl⟩ := hR
    repeat' (refine N.go ?_; first | with_reducible refine N.obl (by decide) ?_ | with_reducible refine N.obl (flat_wi _ _ _) ?_ | with_reducible refine N.obl (flat_lim _ _) ?_ | with_reducible refine N.eq ?_ | with_reducible refine N.obl rfl ?_ | with_reducible refine N.obl ⟨by kernel_rfl, by kernel_rfl⟩ ?_ | with_reducible refine N.alt ?_ | with_reducible refine N.forkT ?_ | with_reducible refine N.forkF ?_ | refine N.forkNo (by decide) ?_ | refine N.forkYes (by decide) ?_ | refine N.forkYes (by rw [decide_eq_true_eq]; omega) ?_ | refine N.forkNo (by rw [decide_eq_false_iff_not]; omega) ?_ | refine N.obl (mail_flat _ _ _ _ _) ?_ | (rw [hw]; refine N.call (cDeleteM 2 L.length c x T _ (by rfl) hx hl hlc) ?_) | fail_if_success skip)
    refine N.go ?_
    refine airClose (W := W) (F := F') (L.eraseIdx x) 2 c (delMT T L.length x) rfl air_pc hc1 (by rw [List.length_eraseIdx_of_lt hx]; omega) (get_del hx hT) (by rfl) rfl (Nat.le_refl _) (by rw [List.length_eraseIdx_of_lt hx]; rfl) (by rfl) (by rfl) (by decide) rfl (Nat.le_refl _) (fun j hj => eqv_of (seg_cell hj)) (mail_sc _ _ _ _ _ _) ?_
    refine N.some (u', F') ⟨hM, ?_⟩
    refine N.obl (.tuple ⟨mailV_re _ _ _ _ _, .plain rfl, trivial⟩) ?_
    refine N.obl ⟨⟨_, rfl, fun h => h, Nat.le_refl _, fun j hj => absurd hj (Nat.not_lt_zero j)⟩, ⟨_, rfl, fun h => h, Nat.le_refl _, fun j hj => absurd hj (Nat.not_lt_zero j)⟩, trivial⟩ ?_
    refine N.obl trivial ?_
    refine N.obl ⟨⟨.inr ⟨_, rfl, rfl⟩, .inr ⟨_, rfl, rfl⟩, trivial⟩, trivial⟩ ?_
    exact N.true
set_option maxRecDepth 100000 in
set_option maxHeartbeats 2000000 in
theorem cTakeBad (L : List Ml) (x : Int) (hx : x < 0 ∨ (L.length : Int) ≤ x) (i : Nat) (h : List (Option Chunk)) (hi : h[i]? = some (some (airP L))) : CallOK Try.prog 15 [.pointer (some ⟨i, 0, some 0⟩), .int .i64 x] h (.tuple ⟨[mailV 0 none 0 0 false, .bool false]⟩) [(i, airP L)] [] := by
  refine call_res (G := tys) (fun _ : Unit => True) (fun _ => _) [⟨i, airP L, airP L, airP L⟩] [] [.pointer (some ⟨0, 0, some 0⟩), .int .i64 x] tysOK mixed Try.func15 (by rfl) (Try.call15) ⟨hi, trivial⟩ ⟨⟨fun h => ⟨rfl, Nat.le_refl _⟩, Nat.le_refl _, fun j hj => absurd hj (Nat.not_lt_zero j)⟩, trivial⟩ (by simp [Apart]) ⟨.inr ⟨rfl, rfl⟩, trivial⟩ trivial ⟨.ptr rfl, .plain rfl, trivial⟩ Opens.same ?_
  rintro ⟨⟩ -
  repeat' (refine N.go ?_; first | with_reducible refine N.obl (by decide) ?_ | with_reducible refine N.obl (flat_wi _ _ _) ?_ | with_reducible refine N.obl (flat_lim _ _) ?_ | with_reducible refine N.eq ?_ | with_reducible refine N.obl rfl ?_ | with_reducible refine N.obl ⟨by kernel_rfl, by kernel_rfl⟩ ?_ | with_reducible refine N.alt ?_ | with_reducible refine N.forkT ?_ | with_reducible refine N.forkF ?_ | refine N.forkNo (by decide) ?_ | refine N.forkYes (by decide) ?_ | refine N.forkYes (by rw [decide_eq_true_eq]; omega) ?_ | refine N.forkNo (by rw [decide_eq_false_iff_not]; omega) ?_ | refine N.call (cGetBad _ x hx 0 _ (by rfl)) ?_ | refine N.obl (mail_flat _ _ _ _ _) ?_ | fail_if_success skip)
  refine N.go ?_
  refine N.endSame ?_
  repeat' (refine N.go ?_; first | with_reducible refine N.obl (by decide) ?_ | with_reducible refine N.obl (flat_wi _ _ _) ?_ | with_reducible refine N.obl (flat_lim _ _) ?_ | with_reducible refine N.eq ?_ | with_reducible refine N.obl rfl ?_ | with_reducible refine N.obl ⟨by kernel_rfl, by kernel_rfl⟩ ?_ | with_reducible refine N.alt ?_ | with_reducible refine N.forkT ?_ | with_reducible refine N.forkF ?_ | refine N.obl (.tuple ⟨mailV_re _ _ _ _ _, .plain rfl, trivial⟩) ?_ | refine N.obl (.plain rfl) ?_ | refine N.obl ⟨⟨_, rfl, fun h => h, Nat.le_refl _, fun j hj => absurd hj (Nat.not_lt_zero j)⟩, trivial⟩ ?_ | refine N.obl trivial ?_ | refine N.obl ⟨⟨.inr ⟨_, rfl, rfl⟩, trivial⟩, trivial⟩ ?_ | exact N.true | fail_if_success skip)
end Go.Proofs.Ytgikbmohmomgbaa
