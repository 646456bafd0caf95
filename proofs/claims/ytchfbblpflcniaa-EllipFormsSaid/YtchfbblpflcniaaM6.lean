import Derived.Test.YtchfbblpflcniaaM5

/-
  The document's roots of wide numbers and its quadratic forms.
-/
set_option linter.unusedVariables false
set_option linter.unusedSimpArgs false
namespace Go.Proofs.Ytchfbblpflcniaa
open Go Go.RowKit Sx

theorem nl30 {n : Nat} (h : n ≤ 1606938044258990275541962092341162602522202993782792835301376) : nl n ≤ 15 := nl_le.2 (Nat.lt_of_le_of_lt h (by decide))
theorem cBSign (z : Int) (v : Nat) (hv : v = z.natAbs) (rh : List Nat) {sv : Value} {h : List (Option Chunk)} (i : Nat) {L : List Nm} (hi : h[i]? = some (some (arC L)) ∨ L = []) (hrh : i ∈ rh ∨ L = []) (hs : ∀ h₂ : List (Option Chunk), (∀ i ∈ rh, h₂[i]? = h[i]?) → SrcS h₂ L sv v) :
    CallOK Try.prog 36 [.agg #[.bool (decide (z < 0)), .bool false, sv]] h (.int .i64 (sgnI z)) [] rh :=
  call_arP (qs := [.big (decide (z < 0)) v]) rh i hi hrh (Try.call36) (fun h₂ hh => ⟨.big (hs h₂ hh), trivial⟩) rfl fun w xs hx => by
    obtain ⟨e, rfl, h1, v1⟩ := ar_big1 hx
    exact sign_x z e.v e.b e.o e.c (v1.trans hv) w
theorem sgnI_nn (z : Int) : decide (sgnI z ≥ 0) = decide (0 ≤ z) := by
  unfold sgnI
  split
  · rw [decide_eq_false (by decide), decide_eq_false (by omega)]
  · split
    · rw [decide_eq_true (by decide), decide_eq_true (by omega)]
    · rw [decide_eq_true (by decide), decide_eq_true (by omega)]
theorem wMulN (a b : Nat) (hb : nl a + nl b ≤ 31) (w : World) (xs : List Value) (hx : All2 (AR w) [.big false a, .big false b] xs) : Mk Try.prog 50 xs w (a * b) (fun κ => .agg #[.bool false, .bool false, .slice (some ⟨κ.b, κ.o, none⟩) (nl κ.v) κ.c]) := by
  have h := wMul (a : Int) (b : Int) (by rw [Int.natAbs_natCast, Int.natAbs_natCast]; exact hb) w xs (by show All2 (AR w) [.big (decide ((a : Int) < 0)) (a : Int).natAbs, .big (decide ((b : Int) < 0)) (b : Int).natAbs] xs; rw [Int.natAbs_natCast, Int.natAbs_natCast, decide_eq_false (by omega), decide_eq_false (by omega)]; exact hx)
  rw [← Int.natCast_mul, Int.natAbs_natCast] at h
  unfold bzW at h
  rwa [decide_eq_false (by omega)] at h
theorem wAddN (a b : Nat) (ha : nl a ≤ 30) (hb : nl b ≤ 30) (w : World) (xs : List Value) (hx : All2 (AR w) [.big false a, .big false b] xs) : Mk Try.prog 51 xs w (a + b) (fun κ => .agg #[.bool false, .bool false, .slice (some ⟨κ.b, κ.o, none⟩) (nl κ.v) κ.c]) := by
  have h := wAdd (a : Int) (b : Int) a b (Int.natAbs_natCast _).symm (Int.natAbs_natCast _).symm ha hb w xs (by rw [decide_eq_false (by omega), decide_eq_false (by omega)]; exact hx)
  rw [← Int.natCast_add, Int.natAbs_natCast] at h
  unfold bzW at h
  rwa [decide_eq_false (by omega)] at h
theorem wOfN (a : Nat) (ha : a < 9223372036854775808) (w : World) (xs : List Value) (hx : All2 (AR w) [.pl (.int .i64 (a : Int))] xs) : Mk Try.prog 52 xs w a (fun κ => .agg #[.bool false, .bool false, .slice (some ⟨κ.b, κ.o, none⟩) (nl κ.v) κ.c]) := by
  have h := wOf (a : Int) ⟨by omega, by omega⟩ w xs hx
  rw [Int.natAbs_natCast] at h
  unfold bzW at h
  rwa [decide_eq_false (by omega)] at h
set_option maxRecDepth 100000 in
set_option maxHeartbeats 2000000 in
theorem wSub2 (a b : Nat) (w : World) (xs : List Value) (hx : All2 (AR w) [.big false a, .big false b] xs) : Mk Try.prog 81 xs w ((a : Int) - b).natAbs (bzW ((a : Int) - b)) := by
  obtain ⟨e, e', rfl, h1, v1, h2, v2⟩ := ar_big2 hx
  subst v1 v2
  have q1 := h1.cap
  have q2 := h2.cap
  refine calls_nums (es := [e, e']) (vs := [.agg #[.bool false, .bool false, .slice (some ⟨0, 0, some 0⟩) (nl e.v) e.c], .agg #[.bool false, .bool false, .slice (some ⟨1, 0, some 0⟩) (nl e'.v) e'.c]]) (xs := [e.big false, e'.big false]) w tysOK mixed Try.func81 (by rfl) (two_at h1 h2) ⟨.big rfl, .big rfl, trivial⟩ (fun _ => rfl) ?_
  by_cases hle : e'.v ≤ e.v
  · repeat' (refine N.go ?_; first | with_reducible (first | refine N.obl (by decide) ?_ | refine N.obl (flat_wi _ _ _) ?_ | refine N.obl (flat_lim _ _) ?_ | refine N.eq ?_ | refine N.obl rfl ?_ | refine N.obl ⟨by kernel_rfl, by kernel_rfl⟩ ?_ | refine N.forkT ?_ | refine N.forkF ?_) | refine N.call (cBCmp e.v e'.v 0 1 e.c e'.c _ (by rfl) (isNum _ _ _) (by rfl) (isNum _ _ _) h1.len h1.cap h2.len h2.cap) ?_ | refine N.forkYes (by rw [decide_eq_true_eq]; unfold cmpN; rw [if_neg (by omega)]; split <;> decide) ?_ | refine N.forkNo (by decide) ?_ | refine N.forkYes (by decide) ?_ | fail)
    refine N.go ?_
    refine N.callAll (mk_arN 5 (by rfl) (e.v - e'.v) Nm.sl (Try.call83) (qs := [.sl e.v, .sl e'.v]) ⟨.sl (.ch (by rfl) (isNum _ _ _) h1.len h1.cap), .sl (.ch (by rfl) (isNum _ _ _) h2.len h2.cap), trivial⟩ (fun _ => rfl) (wMinus e.v e'.v hle)) fun v ms hR => ?_
    obtain ⟨κ, hκ, rfl, rfl⟩ := hR
    have hv : κ.v = ((e.v : Int) - e'.v).natAbs := by rw [hκ]; omega
    have hd : decide ((e.v : Int) - e'.v < 0) = false := decide_eq_false (by omega)
    repeat' (refine N.go ?_; first | with_reducible (first | refine N.obl (by decide) ?_ | refine N.obl (flat_wi _ _ _) ?_ | refine N.obl (flat_lim _ _) ?_ | refine N.eq ?_ | refine N.obl rfl ?_ | refine N.obl ⟨by kernel_rfl, by kernel_rfl⟩ ?_ | refine N.forkT ?_ | refine N.forkF ?_) | refine N.endM κ 5 hv (by unfold bzW; rw [hd]; first | done | rfl) (by rfl) (List.mem_singleton.2 rfl) | refine N.forkNo (by decide) ?_ | refine N.forkYes (by decide) ?_ | fail)
  · repeat' (refine N.go ?_; first | with_reducible (first | refine N.obl (by decide) ?_ | refine N.obl (flat_wi _ _ _) ?_ | refine N.obl (flat_lim _ _) ?_ | refine N.eq ?_ | refine N.obl rfl ?_ | refine N.obl ⟨by kernel_rfl, by kernel_rfl⟩ ?_ | refine N.forkT ?_ | refine N.forkF ?_) | refine N.call (cBCmp e.v e'.v 0 1 e.c e'.c _ (by rfl) (isNum _ _ _) (by rfl) (isNum _ _ _) h1.len h1.cap h2.len h2.cap) ?_ | refine N.forkNo (by rw [decide_eq_false_iff_not]; unfold cmpN; rw [if_pos (by omega)]; decide) ?_ | refine N.forkNo (by decide) ?_ | refine N.forkYes (by decide) ?_ | fail)
    refine N.go ?_
    refine N.altP ?_
    refine N.go ?_
    refine N.plan [0, 1, 2, 3, 4, 5, 6] [(7, [8, 9])] (by kernel_rfl) ?_
    repeat' (refine N.go ?_; first | with_reducible (first | refine N.obl (by decide) ?_ | refine N.obl (flat_wi _ _ _) ?_ | refine N.obl (flat_lim _ _) ?_ | refine N.eq ?_ | refine N.obl rfl ?_ | refine N.obl ⟨by kernel_rfl, by kernel_rfl⟩ ?_ | refine N.forkT ?_ | refine N.forkF ?_) | refine N.forkNo (by decide) ?_ | refine N.forkYes (by decide) ?_ | fail)
    refine N.go ?_
    refine N_callM [0, 1, 5] _ (by kernel_rfl) (fun h₂ hh => mk_arN 5 ((hh 5 (by simp)).trans rfl) (e'.v - e.v) Nm.sl (Try.call83) (qs := [.sl e'.v, .sl e.v]) ⟨.sl (.ch ((hh 1 (by simp)).trans rfl) (isNum _ _ _) h2.len h2.cap), .sl (.ch ((hh 0 (by simp)).trans rfl) (isNum _ _ _) h1.len h1.cap), trivial⟩ (fun _ => rfl) (wMinus e'.v e.v (by omega))) fun v ms hR => ?_
    obtain ⟨κ, hκ, rfl, rfl⟩ := hR
    refine ⟨by simp, ?_⟩
    have hv : κ.v = ((e.v : Int) - e'.v).natAbs := by rw [hκ]; omega
    have hd : decide ((e.v : Int) - e'.v < 0) = true := decide_eq_true (by omega)
    repeat' (refine N.go ?_; first | with_reducible (first | refine N.obl (by decide) ?_ | refine N.obl (flat_wi _ _ _) ?_ | refine N.obl (flat_lim _ _) ?_ | refine N.eq ?_ | refine N.obl rfl ?_ | refine N.obl ⟨by kernel_rfl, by kernel_rfl⟩ ?_ | refine N.forkT ?_ | refine N.forkF ?_) | refine N.obl (by show endB _ _ = Bool.true; kernel_rfl) ?_ | refine N.endM κ 5 hv (by unfold bzW; rw [hd]; first | done | rfl) (by rfl) (List.mem_singleton.2 rfl) | refine N.forkNo (by decide) ?_ | refine N.forkYes (by decide) ?_ | fail)
set_option maxRecDepth 100000 in
set_option maxHeartbeats 2000000 in
theorem wRCmp (a b : Nat) (w : World) (xs : List Value) (hx : All2 (AR w) [.big false a, .big false b] xs) : Calls Try.prog 49 ⟨xs⟩ w fun e w' => e = .returned (.tuple #[.int .i64 (sgnI ((a : Int) - b)), .bool true]) ∧ Below w.heap.size w w' := by
  obtain ⟨e, e', rfl, h1, v1, h2, v2⟩ := ar_big2 hx
  subst v1 v2
  refine calls_numsP (es := [e, e']) (vs := [.agg #[.bool false, .bool false, .slice (some ⟨0, 0, some 0⟩) (nl e.v) e.c], .agg #[.bool false, .bool false, .slice (some ⟨1, 0, some 0⟩) (nl e'.v) e'.c]]) (xs := [e.big false, e'.big false]) w tysOK mixed Try.func49 (by rfl) (two_at h1 h2) ⟨.big rfl, .big rfl, trivial⟩ rfl ?_
  repeat' (refine N.go ?_; first | with_reducible (first | refine N.obl (by decide) ?_ | refine N.obl (flat_wi _ _ _) ?_ | refine N.obl (flat_lim _ _) ?_ | refine N.eq ?_ | refine N.obl rfl ?_ | refine N.obl ⟨by kernel_rfl, by kernel_rfl⟩ ?_ | refine N.forkT ?_ | refine N.forkF ?_) | refine N.forkNo (by decide) ?_ | refine N.forkYes (by decide) ?_ | fail)
  refine N.go ?_
  refine N.callAll (mk_arN 5 (by rfl) (((e.v : Int) - e'.v).natAbs) (bzW ((e.v : Int) - e'.v)) (Try.call81) (qs := [.big false e.v, .big false e'.v]) ⟨.big (.ch (by rfl) (isNum _ _ _) h1.len h1.cap), .big (.ch (by rfl) (isNum _ _ _) h2.len h2.cap), trivial⟩ (fun _ => rfl) (wSub2 e.v e'.v)) fun v ms hR => ?_
  obtain ⟨κ, hκ, rfl, rfl⟩ := hR
  repeat' (refine N.go ?_; first | with_reducible (first | refine N.obl (by decide) ?_ | refine N.obl (flat_wi _ _ _) ?_ | refine N.obl (flat_lim _ _) ?_ | refine N.eq ?_ | refine N.obl rfl ?_ | refine N.obl ⟨by kernel_rfl, by kernel_rfl⟩ ?_ | refine N.forkT ?_ | refine N.forkF ?_) | refine N.call (cASign ((e.v : Int) - e'.v) _ _ _ _ hκ _) ?_ | refine N.forkNo (by decide) ?_ | refine N.forkYes (by decide) ?_ | fail)
  all_goals rfl
theorem cRCmp (a b : Nat) (rh : List Nat) {sv su : Value} {h : List (Option Chunk)} (i : Nat) {L : List Nm} (hi : h[i]? = some (some (arC L)) ∨ L = []) (hrh : i ∈ rh ∨ L = []) (hs : ∀ h₂ : List (Option Chunk), (∀ i ∈ rh, h₂[i]? = h[i]?) → SrcS h₂ L sv a ∧ SrcS h₂ L su b) :
    CallOK Try.prog 49 [.agg #[.bool false, .bool false, sv], .agg #[.bool false, .bool false, su]] h (.tuple #[.int .i64 (sgnI ((a : Int) - b)), .bool true]) [] rh :=
  call_arP (qs := [.big false a, .big false b]) rh i hi hrh (Try.call49) (fun h₂ hh => ⟨.big (hs h₂ hh).1, .big (hs h₂ hh).2, trivial⟩) rfl fun w xs hx => wRCmp a b w xs hx
set_option maxRecDepth 100000 in
set_option maxHeartbeats 2000000 in
theorem cRI64W (v m i : Nat) (o : Chunk) (h : List (Option Chunk)) (hi : h[i]? = some (some o)) (hin : IsNum o m v) (hl : nl v ≤ m) (hm : m ≤ 31) (hv : v < 9223372036854775808) :
    CallOK Try.prog 53 [.agg #[.bool false, .bool false, .slice (some ⟨i, 0, some 0⟩) (nl v) m]] h (.tuple #[.int .i64 (v : Int), .bool true]) [] [i] := by
  have h2 : nl v ≤ 2 := (two_words (by omega)).2
  refine call_sub (G := tys) [⟨i, _, numC false m v, ⟨false, 0, []⟩⟩] [] [.agg #[.bool false, .bool false, .slice (some ⟨0, 0, some 0⟩) (nl v) m]] tysOK mixed Try.func53 (by rfl) (Try.call53) ⟨hi, trivial⟩ ⟨⟨fun h => (by cases h), Nat.le_of_eq hin.1.symm, num_re hin⟩, trivial⟩ (by simp [Apart]) trivial ⟨.agg ⟨.plain rfl, .plain rfl, .slice rfl, trivial⟩, trivial⟩ ?_
  rcases (show nl v = 0 ∨ nl v = 1 ∨ nl v = 2 by omega) with e | e | e
  · obtain rfl := nl_zero_iff.1 e
    repeat' (refine N.go ?_; first | with_reducible (first | refine N.obl (by decide) ?_ | refine N.obl (flat_wi _ _ _) ?_ | refine N.obl (flat_lim _ _) ?_ | refine N.eq ?_ | refine N.obl rfl ?_ | refine N.obl ⟨by kernel_rfl, by kernel_rfl⟩ ?_ | refine N.alt ?_ | refine N.forkT ?_ | refine N.forkF ?_) | refine N.roll 1 ?_ | refine N.forkNo (by rw [nl_zero]; decide) ?_ | refine N.obl (re_eqn (by decide) rfl) ?_ | refine N.obl (.plain (by rfl)) ?_ | refine N.idx 0 1 rfl (by omega) ?_ | refine N.load _ (reads_num (p := 0) (by omega) (by omega)) ?_ | refine N.idx 1 1 rfl (by omega) ?_ | refine N.load _ (reads_num (p := 1) (by omega) (by omega)) ?_ | refine N.forkNo (by decide) ?_ | refine N.forkYes (by decide) ?_ | refine N.forkYes (by rw [decide_eq_true_eq]; omega) ?_ | refine N.forkNo (by rw [decide_eq_false_iff_not]; omega) ?_ | refine N.obl trivial ?_ | exact N.true | fail)
  · have hv1 : v < 4294967296 := by have := nl_self v; rw [e, bw_one] at this; exact this
    have hy0 := (lm01 hv1).1
    rw [e] at hl ⊢
    have ev := i64w0 (lm v 0) v (lm_lt v 0) hy0
    repeat' (refine N.go ?_; first | with_reducible (first | refine N.obl (by decide) ?_ | refine N.obl (flat_wi _ _ _) ?_ | refine N.obl (flat_lim _ _) ?_ | refine N.eq ?_ | refine N.obl rfl ?_ | refine N.obl ⟨by kernel_rfl, by kernel_rfl⟩ ?_ | refine N.alt ?_ | refine N.forkT ?_ | refine N.forkF ?_) | refine N.roll 2 ?_ | refine N.forkNo (by rw [decide_eq_false_iff_not, ev]; omega) ?_ | refine N.obl (re_eqn (by rw [ev, i64n _ (by omega) (by omega)]) rfl) ?_ | refine N.idx 0 1 rfl (by omega) ?_ | refine N.load _ (reads_num (p := 0) (by omega) (by omega)) ?_ | refine N.idx 1 1 rfl (by omega) ?_ | refine N.load _ (reads_num (p := 1) (by omega) (by omega)) ?_ | refine N.forkNo (by decide) ?_ | refine N.forkYes (by decide) ?_ | refine N.forkYes (by rw [decide_eq_true_eq]; omega) ?_ | refine N.forkNo (by rw [decide_eq_false_iff_not]; omega) ?_ | refine N.obl trivial ?_ | exact N.true | fail)
  · have h3 : v < bw 2 := by rw [← e]; exact nl_self v
    rw [e] at hl ⊢
    have ev := i64w1 (lm v 0) (lm v 1) v (lm_lt v 0) (lm_lt v 1) (by
      have h4 : v / bw 0 = v / bw 1 * 4294967296 + lm v 0 := up_word v 0
      have h5 : v / bw 1 = v / bw 2 * 4294967296 + lm v 1 := up_word v 1
      rw [Nat.div_eq_of_lt h3] at h5
      rw [bw_zero, Nat.div_one] at h4
      omega)
    repeat' (refine N.go ?_; first | with_reducible (first | refine N.obl (by decide) ?_ | refine N.obl (flat_wi _ _ _) ?_ | refine N.obl (flat_lim _ _) ?_ | refine N.eq ?_ | refine N.obl rfl ?_ | refine N.obl ⟨by kernel_rfl, by kernel_rfl⟩ ?_ | refine N.alt ?_ | refine N.forkT ?_ | refine N.forkF ?_) | refine N.roll 3 ?_ | refine N.forkNo (by rw [decide_eq_false_iff_not, ev]; omega) ?_ | refine N.obl (re_eqn (by rw [ev, i64n _ (by omega) (by omega)]) rfl) ?_ | refine N.idx 0 1 rfl (by omega) ?_ | refine N.load _ (reads_num (p := 0) (by omega) (by omega)) ?_ | refine N.idx 1 1 rfl (by omega) ?_ | refine N.load _ (reads_num (p := 1) (by omega) (by omega)) ?_ | refine N.forkNo (by decide) ?_ | refine N.forkYes (by decide) ?_ | refine N.forkYes (by rw [decide_eq_true_eq]; omega) ?_ | refine N.forkNo (by rw [decide_eq_false_iff_not]; omega) ?_ | refine N.obl trivial ?_ | exact N.true | fail)
theorem cAI64 (v : Nat) (hv : v < 9223372036854775808) (κ : Nm) (hκv : κ.v = v) (i : Nat) {L : List Nm} {h : List (Option Chunk)} (hi : h[i]? = some (some (arC L))) (hκ : κ ∈ L) :
    CallOK Try.prog 53 [.agg #[.bool false, .bool false, .slice (some ⟨κ.b, κ.o, none⟩) (nl κ.v) κ.c]] h (.tuple #[.int .i64 ((v : Nat) : Int), .bool true]) [] [i] :=
  call_arP (qs := [.bigat false κ]) [i] i (.inl hi) (.inl (List.mem_singleton.2 rfl)) (Try.call53) (fun _ _ => ⟨.bigat hκ, trivial⟩) rfl fun w xs hx => by
    rcases xs with _ | ⟨x, _ | ⟨y, xs⟩⟩ <;> first | exact hx.elim | exact hx.2.elim | skip
    obtain ⟨h1, _⟩ := hx
    subst hκv
    cases h1 with
    | bigat ha =>
      rcases (cRI64W κ.v κ.c 0 _ (numH [κ] ++ []) rfl (isNum _ _ _) ha.len ha.cap hv) _ (fun _ _ => rfl) (fun _ _ => rfl) _ _ w [κ.big false] (num_hok 0 (one_at ha)) (narg_den (es := [κ]) (m := 0) (vs := [.agg #[.bool false, .bool false, .slice (some ⟨0, 0, some 0⟩) (nl κ.v) κ.c]]) ⟨.big rfl, trivial⟩) with ⟨x, w', hrun, _⟩ | ⟨_, hcl⟩
      · rw [Try.call53] at hrun; cases hrun
      refine hcl.mono ?_
      rintro e w' ⟨x, rfl, ρ', ha, H, hd⟩
      exact ⟨by rw [← hd.self, den_plain3 rfl], H.evo.below⟩
set_option maxRecDepth 100000 in
set_option maxHeartbeats 2000000 in
theorem wWideUp (a : Nat) (ha : 1 ≤ a ∧ a < 1267650600228229401496703205376) (w : World) (xs : List Value) (hx : All2 (AR w) [.big false a] xs) : Calls Try.prog 32 ⟨xs⟩ w fun e w' => e = .returned (.tuple #[.int .i64 ((usq a : Nat) : Int), .int .i64 0]) ∧ Below w.heap.size w w' := by
  obtain ⟨e, rfl, h1, v1⟩ := ar_big1 hx
  subst v1
  have hr : isq e.v < 1125899906842624 := isq_below (by omega)
  have hle := isq_le e.v
  have e1 : ((isq e.v : Nat) : Int) * ((isq e.v : Nat) : Int) = ((isq e.v * isq e.v : Nat) : Int) := (Int.natCast_mul _ _).symm
  have hn : nl (isq e.v) ≤ 2 := nl_le.2 (Nat.lt_trans hr (by decide))
  have hs0 : decide (((isq e.v : Nat) : Int) < 0) = false := decide_eq_false (by omega)
  refine calls_numsP (es := [e]) (vs := [.agg #[.bool false, .bool false, .slice (some ⟨0, 0, some 0⟩) (nl e.v) e.c]]) (xs := [e.big false]) w tysOK mixed Try.func32 (by rfl) (one_at h1) ⟨.big rfl, trivial⟩ rfl ?_
  repeat' (refine N.go ?_; first | with_reducible (first | refine N.obl (by decide) ?_ | refine N.obl (flat_wi _ _ _) ?_ | refine N.obl (flat_lim _ _) ?_ | refine N.eq ?_ | refine N.obl rfl ?_ | refine N.obl ⟨by kernel_rfl, by kernel_rfl⟩ ?_ | refine N.forkT ?_ | refine N.forkF ?_) | refine N.forkNo (by decide) ?_ | refine N.forkYes (by decide) ?_ | fail)
  refine N.go ?_
  refine N.callAll (mk_arN 5 (by rfl) (isq e.v) (fun κ => .tuple #[.agg #[.bool false, .bool false, .slice (some ⟨κ.b, κ.o, none⟩) (nl κ.v) κ.c], .int .i64 0]) (Try.call48) (qs := [.big false e.v]) ⟨.big (.ch (by rfl) (isNum _ _ _) h1.len h1.cap), trivial⟩ (fun _ => rfl) (wSqrt e.v ha)) fun v ms hR => ?_
  obtain ⟨κ, hκ, rfl, rfl⟩ := hR
  repeat' (refine N.go ?_; first | with_reducible (first | refine N.obl (by decide) ?_ | refine N.obl (flat_wi _ _ _) ?_ | refine N.obl (flat_lim _ _) ?_ | refine N.eq ?_ | refine N.obl rfl ?_ | refine N.obl ⟨by kernel_rfl, by kernel_rfl⟩ ?_ | refine N.forkT ?_ | refine N.forkF ?_) | refine N.forkNo (by decide) ?_ | refine N.forkYes (by decide) ?_ | fail)
  refine N.go ?_
  refine N.altP ?_
  refine N.go ?_
  refine N.plan [0, 1, 3] [(2, [4, 5, 6, 7, 8, 9])] (by kernel_rfl) ?_
  repeat' (refine N.go ?_; first | with_reducible (first | refine N.obl (by decide) ?_ | refine N.obl (flat_wi _ _ _) ?_ | refine N.obl (flat_lim _ _) ?_ | refine N.eq ?_ | refine N.obl rfl ?_ | refine N.obl ⟨by kernel_rfl, by kernel_rfl⟩ ?_ | refine N.forkT ?_ | refine N.forkF ?_) | refine N.forkNo (by decide) ?_ | refine N.forkYes (by decide) ?_ | fail)
  refine N.go ?_
  refine N_callM [5] _ (by kernel_rfl) (fun h₂ hh => mk_arM 5 ((hh 5 (by simp)).trans rfl) (isq e.v * isq e.v) (fun κ => .agg #[.bool false, .bool false, .slice (some ⟨κ.b, κ.o, none⟩) (nl κ.v) κ.c]) (Try.call50) (qs := [.big false κ.v, .big false κ.v]) ⟨.big (.ar (by simp)), .big (.ar (by simp)), trivial⟩ (fun _ => rfl) (by rw [hκ]; exact wMulN (isq e.v) (isq e.v) (by omega))) fun v ms hR => ?_
  obtain ⟨κ2, hκ2, rfl, rfl⟩ := hR
  refine ⟨by simp, ?_⟩
  repeat' (refine N.go ?_; first | with_reducible (first | refine N.obl (by decide) ?_ | refine N.obl (flat_wi _ _ _) ?_ | refine N.obl (flat_lim _ _) ?_ | refine N.eq ?_ | refine N.obl rfl ?_ | refine N.obl ⟨by kernel_rfl, by kernel_rfl⟩ ?_ | refine N.forkT ?_ | refine N.forkF ?_) | refine N.call (cRCmp κ2.v e.v [0, 5] 5 (.inl (by rfl)) (.inl (by simp)) (fun h₂ hh => ⟨.ar (by simp), .ch ((hh 0 (by simp)).trans rfl) (isNum _ _ _) h1.len h1.cap⟩)) ?_ | refine N.obl (by show endB _ _ = Bool.true; kernel_rfl) ?_ | refine N.forkNo (by decide) ?_ | refine N.forkYes (by decide) ?_ | fail)
  refine N.go ?_
  by_cases hlt : isq e.v * isq e.v < e.v
  · have hu : usq e.v = isq e.v + 1 := by unfold usq; rw [if_pos hlt]
    refine N.forkYes (decide_eq_true (by show sgnI _ < 0; rw [hκ2]; unfold sgnI; rw [if_pos (by omega)]; decide)) ?_
    refine N.go ?_
    refine N.altP ?_
    refine N.go ?_
    refine N.plan [0] [(1, []), (2, [3])] (by kernel_rfl) ?_
    repeat' (refine N.go ?_; first | with_reducible (first | refine N.obl (by decide) ?_ | refine N.obl (flat_wi _ _ _) ?_ | refine N.obl (flat_lim _ _) ?_ | refine N.eq ?_ | refine N.obl rfl ?_ | refine N.obl ⟨by kernel_rfl, by kernel_rfl⟩ ?_ | refine N.forkT ?_ | refine N.forkF ?_) | refine N.forkNo (by decide) ?_ | refine N.forkYes (by decide) ?_ | fail)
    refine N.go ?_
    refine N_callM [5] _ (by kernel_rfl) (fun h₂ hh => mk_arM 5 ((hh 5 (by simp)).trans rfl) (1) (fun κ => .agg #[.bool false, .bool false, .slice (some ⟨κ.b, κ.o, none⟩) (nl κ.v) κ.c]) (Try.call52) (qs := [.pl (.int .i64 1)]) ⟨.pl rfl, trivial⟩ (fun _ => rfl) (fun w xs hx => wOfN 1 (by decide) w xs hx)) fun v ms hR => ?_
    obtain ⟨κ3, hκ3, rfl, rfl⟩ := hR
    refine ⟨by simp, ?_⟩
    repeat' (refine N.go ?_; first | with_reducible (first | refine N.obl (by decide) ?_ | refine N.obl (flat_wi _ _ _) ?_ | refine N.obl (flat_lim _ _) ?_ | refine N.eq ?_ | refine N.obl rfl ?_ | refine N.obl ⟨by kernel_rfl, by kernel_rfl⟩ ?_ | refine N.forkT ?_ | refine N.forkF ?_) | refine N.forkNo (by decide) ?_ | refine N.forkYes (by decide) ?_ | fail)
    refine N.go ?_
    refine N_callM [5] _ (by kernel_rfl) (fun h₂ hh => mk_arM 5 ((hh 5 (by simp)).trans rfl) (isq e.v + 1) (fun κ => .agg #[.bool false, .bool false, .slice (some ⟨κ.b, κ.o, none⟩) (nl κ.v) κ.c]) (Try.call51) (qs := [.big false κ.v, .big false κ3.v]) ⟨.big (.ar (by simp)), .big (.ar (by simp)), trivial⟩ (fun _ => rfl) (by rw [hκ, hκ3]; exact wAddN (isq e.v) 1 (by omega) (by rw [nl_one']; decide))) fun v ms hR => ?_
    obtain ⟨κ4, hκ4, rfl, rfl⟩ := hR
    refine ⟨by simp, ?_⟩
    repeat' (refine N.go ?_; first | with_reducible (first | refine N.obl (by decide) ?_ | refine N.obl (flat_wi _ _ _) ?_ | refine N.obl (flat_lim _ _) ?_ | refine N.eq ?_ | refine N.obl rfl ?_ | refine N.obl ⟨by kernel_rfl, by kernel_rfl⟩ ?_ | refine N.forkT ?_ | refine N.forkF ?_) | refine N.obl (by show endB _ _ = Bool.true; kernel_rfl) ?_ | refine N.call (cAI64 (usq e.v) (by rw [hu]; omega) κ4 (by rw [hu]; exact hκ4) 5 (by rfl) (by simp)) ?_ | refine N.forkNo (by decide) ?_ | refine N.forkYes (by decide) ?_ | fail)
    all_goals rfl
  · have hu : usq e.v = isq e.v := by unfold usq; rw [if_neg hlt]
    refine N.forkNo (decide_eq_false (by show ¬ sgnI _ < 0; rw [hκ2]; unfold sgnI; rw [if_neg (by omega)]; split <;> decide)) ?_
    repeat' (refine N.go ?_; first | with_reducible (first | refine N.obl (by decide) ?_ | refine N.obl (flat_wi _ _ _) ?_ | refine N.obl (flat_lim _ _) ?_ | refine N.eq ?_ | refine N.obl rfl ?_ | refine N.obl ⟨by kernel_rfl, by kernel_rfl⟩ ?_ | refine N.forkT ?_ | refine N.forkF ?_) | refine N.call (cAI64 (usq e.v) (by rw [hu]; omega) κ (by rw [hu]; exact hκ) 5 (by rfl) (by simp)) ?_ | refine N.forkNo (by decide) ?_ | refine N.forkYes (by decide) ?_ | fail)
    all_goals rfl
set_option maxRecDepth 100000 in
set_option maxHeartbeats 2000000 in
theorem wPsd (a b d : Int) (had : nl a.natAbs + nl d.natAbs ≤ 30) (hbb : nl b.natAbs + nl b.natAbs ≤ 30) (w : World) (xs : List Value) (hx : All2 (AR w) [bz a, bz b, bz d] xs) : Calls Try.prog 59 ⟨xs⟩ w fun e w' => e = .returned (.bool (decide (psdP a b d))) ∧ Below w.heap.size w w' := by
  obtain ⟨e, e', e'', rfl, h1, v1, h2, v2, h3, v3⟩ := ar_big3 hx
  refine calls_numsP (es := [e, e', e'']) (vs := [.agg #[.bool (decide (a < 0)), .bool false, .slice (some ⟨0, 0, some 0⟩) (nl e.v) e.c], .agg #[.bool (decide (b < 0)), .bool false, .slice (some ⟨1, 0, some 0⟩) (nl e'.v) e'.c], .agg #[.bool (decide (d < 0)), .bool false, .slice (some ⟨2, 0, some 0⟩) (nl e''.v) e''.c]]) (xs := [e.big (decide (a < 0)), e'.big (decide (b < 0)), e''.big (decide (d < 0))]) w tysOK mixed Try.func59 (by rfl) (three_at h1 h2 h3) ⟨.big rfl, .big rfl, .big rfl, trivial⟩ rfl ?_
  by_cases q1 : 0 ≤ a
  · by_cases q2 : 0 ≤ d
    · have he : decide (psdP a b d) = decide (sgnI (a * d - b * b) ≥ 0) := by
        rw [sgnI_nn, decide_eq_decide]; exact ⟨fun h => h.2.2, fun h => ⟨q1, q2, h⟩⟩
      rw [he]
      repeat' (refine N.go ?_; first | with_reducible (first | refine N.obl (by decide) ?_ | refine N.obl (flat_wi _ _ _) ?_ | refine N.obl (flat_lim _ _) ?_ | refine N.eq ?_ | refine N.obl rfl ?_ | refine N.obl ⟨by kernel_rfl, by kernel_rfl⟩ ?_ | refine N.forkT ?_ | refine N.forkF ?_) | refine N.call (cBSign a e.v v1 [0] 0 (.inr rfl) (.inr rfl) (L := []) (fun h₂ hh => .ch ((hh 0 (by simp)).trans rfl) (isNum _ _ _) h1.len h1.cap)) ?_ | refine N.call (cBSign d e''.v v3 [2] 0 (.inr rfl) (.inr rfl) (L := []) (fun h₂ hh => .ch ((hh 2 (by simp)).trans rfl) (isNum _ _ _) h3.len h3.cap)) ?_ | refine N.forkYes (by rw [sgnI_nn]; exact decide_eq_true q1) ?_ | refine N.forkNo (by rw [sgnI_nn]; exact decide_eq_false q1) ?_ | refine N.forkYes (by rw [sgnI_nn]; exact decide_eq_true q2) ?_ | refine N.forkNo (by rw [sgnI_nn]; exact decide_eq_false q2) ?_ | refine N.forkNo (by decide) ?_ | refine N.forkYes (by decide) ?_ | fail)
      refine N.go ?_
      refine N.callAll (mk_arN 7 (by rfl) ((a * d - b * b).natAbs) (bzW (a * d - b * b)) (Try.call55) (qs := [.big (decide (a < 0)) e.v, .big (decide (b < 0)) e'.v, .big (decide (d < 0)) e''.v]) ⟨.big (.ch (by rfl) (isNum _ _ _) h1.len h1.cap), .big (.ch (by rfl) (isNum _ _ _) h2.len h2.cap), .big (.ch (by rfl) (isNum _ _ _) h3.len h3.cap), trivial⟩ (fun _ => rfl) (by rw [v1, v2, v3]; exact wDet3 a b d had hbb)) fun v ms hR => ?_
      obtain ⟨κ, hκ, rfl, rfl⟩ := hR
      repeat' (refine N.go ?_; first | with_reducible (first | refine N.obl (by decide) ?_ | refine N.obl (flat_wi _ _ _) ?_ | refine N.obl (flat_lim _ _) ?_ | refine N.eq ?_ | refine N.obl rfl ?_ | refine N.obl ⟨by kernel_rfl, by kernel_rfl⟩ ?_ | refine N.forkT ?_ | refine N.forkF ?_) | refine N.call (cASign (a * d - b * b) _ _ _ _ hκ _) ?_ | refine N.forkNo (by decide) ?_ | refine N.forkYes (by decide) ?_ | fail)
      all_goals rfl
    · have he : decide (psdP a b d) = false := decide_eq_false (fun h => q2 h.2.1)
      rw [he]
      repeat' (refine N.go ?_; first | with_reducible (first | refine N.obl (by decide) ?_ | refine N.obl (flat_wi _ _ _) ?_ | refine N.obl (flat_lim _ _) ?_ | refine N.eq ?_ | refine N.obl rfl ?_ | refine N.obl ⟨by kernel_rfl, by kernel_rfl⟩ ?_ | refine N.forkT ?_ | refine N.forkF ?_) | refine N.call (cBSign a e.v v1 [0] 0 (.inr rfl) (.inr rfl) (L := []) (fun h₂ hh => .ch ((hh 0 (by simp)).trans rfl) (isNum _ _ _) h1.len h1.cap)) ?_ | refine N.call (cBSign d e''.v v3 [2] 0 (.inr rfl) (.inr rfl) (L := []) (fun h₂ hh => .ch ((hh 2 (by simp)).trans rfl) (isNum _ _ _) h3.len h3.cap)) ?_ | refine N.forkYes (by rw [sgnI_nn]; exact decide_eq_true q1) ?_ | refine N.forkNo (by rw [sgnI_nn]; exact decide_eq_false q1) ?_ | refine N.forkYes (by rw [sgnI_nn]; exact decide_eq_true q2) ?_ | refine N.forkNo (by rw [sgnI_nn]; exact decide_eq_false q2) ?_ | refine N.forkNo (by decide) ?_ | refine N.forkYes (by decide) ?_ | fail)
      all_goals rfl
  · have he : decide (psdP a b d) = false := decide_eq_false (fun h => q1 h.1)
    rw [he]
    repeat' (refine N.go ?_; first | with_reducible (first | refine N.obl (by decide) ?_ | refine N.obl (flat_wi _ _ _) ?_ | refine N.obl (flat_lim _ _) ?_ | refine N.eq ?_ | refine N.obl rfl ?_ | refine N.obl ⟨by kernel_rfl, by kernel_rfl⟩ ?_ | refine N.forkT ?_ | refine N.forkF ?_) | refine N.call (cBSign a e.v v1 [0] 0 (.inr rfl) (.inr rfl) (L := []) (fun h₂ hh => .ch ((hh 0 (by simp)).trans rfl) (isNum _ _ _) h1.len h1.cap)) ?_ | refine N.call (cBSign d e''.v v3 [2] 0 (.inr rfl) (.inr rfl) (L := []) (fun h₂ hh => .ch ((hh 2 (by simp)).trans rfl) (isNum _ _ _) h3.len h3.cap)) ?_ | refine N.forkYes (by rw [sgnI_nn]; exact decide_eq_true q1) ?_ | refine N.forkNo (by rw [sgnI_nn]; exact decide_eq_false q1) ?_ | refine N.forkYes (by rw [sgnI_nn]; exact decide_eq_true q2) ?_ | refine N.forkNo (by rw [sgnI_nn]; exact decide_eq_false q2) ?_ | refine N.forkNo (by decide) ?_ | refine N.forkYes (by decide) ?_ | fail)
    all_goals rfl
theorem cRPsd (a b d : Int) (κ1 κ2 κ3 : Nm) (e1 : κ1.v = a.natAbs) (e2 : κ2.v = b.natAbs) (e3 : κ3.v = d.natAbs) (had : nl a.natAbs + nl d.natAbs ≤ 30) (hbb : nl b.natAbs + nl b.natAbs ≤ 30) (i : Nat) {L : List Nm} {h : List (Option Chunk)} (hi : h[i]? = some (some (arC L))) (h1 : κ1 ∈ L) (h2 : κ2 ∈ L) (h3 : κ3 ∈ L) :
    CallOK Try.prog 59 [.agg #[.bool (decide (a < 0)), .bool false, .slice (some ⟨κ1.b, κ1.o, none⟩) (nl κ1.v) κ1.c], .agg #[.bool (decide (b < 0)), .bool false, .slice (some ⟨κ2.b, κ2.o, none⟩) (nl κ2.v) κ2.c], .agg #[.bool (decide (d < 0)), .bool false, .slice (some ⟨κ3.b, κ3.o, none⟩) (nl κ3.v) κ3.c]] h (.bool (decide (psdP a b d))) [] [i] :=
  call_arP (qs := [.big (decide (a < 0)) κ1.v, .big (decide (b < 0)) κ2.v, .big (decide (d < 0)) κ3.v]) [i] i (.inl hi) (.inl (List.mem_singleton.2 rfl)) (Try.call59) (fun _ _ => ⟨.big (.ar h1), .big (.ar h2), .big (.ar h3), trivial⟩) rfl fun w xs hx => wPsd a b d had hbb w xs (by rw [e1, e2, e3] at hx; exact hx)
set_option maxRecDepth 100000 in
set_option maxHeartbeats 2000000 in
theorem rholds_x (a b d x y : Int) (ha : a.natAbs ≤ 140737488355328) (hbb : b.natAbs ≤ 140737488355328) (hd : d.natAbs ≤ 140737488355328) (hx : x.natAbs ≤ 2147483648) (hy : y.natAbs ≤ 2147483648) (w : World) : Calls Try.prog 39 #[.agg #[.int .i64 a, .int .i64 b, .int .i64 d], .agg #[.int .i64 x, .int .i64 y]] w fun e w' => e = .returned (.bool (decide (holdsP a b d x y))) ∧ Below w.heap.size w w' := by
  have b1 := mulB hx hx
  have b2 := mulB hx hy
  have b3 := mulB hy hy
  have n1 : nl (a - x * x).natAbs ≤ 15 := nl30 (by omega)
  have n2 : nl (b - x * y).natAbs ≤ 15 := nl30 (by omega)
  have n3 : nl (d - y * y).natAbs ≤ 15 := nl30 (by omega)
  refine calls_pure (G := tys) w tysOK mixed Try.func39 (by rfl) (by rfl) (by rfl) ?_
  repeat' (refine N.go ?_; first | with_reducible (first | refine N.obl (by decide) ?_ | refine N.obl (flat_wi _ _ _) ?_ | refine N.obl (flat_lim _ _) ?_ | refine N.eq ?_ | refine N.obl rfl ?_ | refine N.obl ⟨by kernel_rfl, by kernel_rfl⟩ ?_ | refine N.forkT ?_ | refine N.forkF ?_) | refine N.forkNo (by decide) ?_ | refine N.forkYes (by decide) ?_ | fail)
  refine N.go ?_
  refine N.altP ?_
  refine N.go ?_
  refine N.plan [0, 1, 3, 4, 6, 7] [(2, []), (5, [8, 9])] (by kernel_rfl) ?_
  repeat' (refine N.go ?_; first | with_reducible (first | refine N.obl (by decide) ?_ | refine N.obl (flat_wi _ _ _) ?_ | refine N.obl (flat_lim _ _) ?_ | refine N.eq ?_ | refine N.obl rfl ?_ | refine N.obl ⟨by kernel_rfl, by kernel_rfl⟩ ?_ | refine N.forkT ?_ | refine N.forkF ?_) | refine N.forkNo (by decide) ?_ | refine N.forkYes (by decide) ?_ | fail)
  refine N.go ?_
  refine N_callM [4] _ (by kernel_rfl) (fun h₂ hh => mk_arN 4 ((hh 4 (by simp)).trans rfl) (x.natAbs) (bzW x) (Try.call52) (qs := [.pl (.int .i64 x)]) ⟨.pl rfl, trivial⟩ (fun _ => rfl) (wOf x (by omega))) fun v ms hR => ?_
  obtain ⟨κx, hκx, rfl, rfl⟩ := hR
  refine ⟨by simp, ?_⟩
  repeat' (refine N.go ?_; first | with_reducible (first | refine N.obl (by decide) ?_ | refine N.obl (flat_wi _ _ _) ?_ | refine N.obl (flat_lim _ _) ?_ | refine N.eq ?_ | refine N.obl rfl ?_ | refine N.obl ⟨by kernel_rfl, by kernel_rfl⟩ ?_ | refine N.forkT ?_ | refine N.forkF ?_) | refine N.forkNo (by decide) ?_ | refine N.forkYes (by decide) ?_ | fail)
  refine N.go ?_
  refine N_callM [4] _ (by kernel_rfl) (fun h₂ hh => mk_arM 4 ((hh 4 (by simp)).trans rfl) (y.natAbs) (bzW y) (Try.call52) (qs := [.pl (.int .i64 y)]) ⟨.pl rfl, trivial⟩ (fun _ => rfl) (wOf y (by omega))) fun v ms hR => ?_
  obtain ⟨κy, hκy, rfl, rfl⟩ := hR
  refine ⟨by simp, ?_⟩
  repeat' (refine N.go ?_; first | with_reducible (first | refine N.obl (by decide) ?_ | refine N.obl (flat_wi _ _ _) ?_ | refine N.obl (flat_lim _ _) ?_ | refine N.eq ?_ | refine N.obl rfl ?_ | refine N.obl ⟨by kernel_rfl, by kernel_rfl⟩ ?_ | refine N.forkT ?_ | refine N.forkF ?_) | refine N.obl (by show endB _ _ = Bool.true; kernel_rfl) ?_ | refine N.forkNo (by decide) ?_ | refine N.forkYes (by decide) ?_ | fail)
  refine N.go ?_
  refine N.altP ?_
  refine N.go ?_
  refine N.plan [0, 1, 3, 4, 7, 8, 10, 11, 14, 15, 17, 18] [(2, []), (5, []), (6, []), (9, []), (12, []), (13, []), (16, []), (19, []), (20, [21, 22])] (by kernel_rfl) ?_
  repeat' (refine N.go ?_; first | with_reducible (first | refine N.obl (by decide) ?_ | refine N.obl (flat_wi _ _ _) ?_ | refine N.obl (flat_lim _ _) ?_ | refine N.eq ?_ | refine N.obl rfl ?_ | refine N.obl ⟨by kernel_rfl, by kernel_rfl⟩ ?_ | refine N.forkT ?_ | refine N.forkF ?_) | refine N.forkNo (by decide) ?_ | refine N.forkYes (by decide) ?_ | fail)
  refine N.go ?_
  refine N_callM [4] _ (by kernel_rfl) (fun h₂ hh => mk_arM 4 ((hh 4 (by simp)).trans rfl) (a.natAbs) (bzW a) (Try.call52) (qs := [.pl (.int .i64 a)]) ⟨.pl rfl, trivial⟩ (fun _ => rfl) (wOf a (by omega))) fun v ms hR => ?_
  obtain ⟨κa, hκa, rfl, rfl⟩ := hR
  refine ⟨by simp, ?_⟩
  repeat' (refine N.go ?_; first | with_reducible (first | refine N.obl (by decide) ?_ | refine N.obl (flat_wi _ _ _) ?_ | refine N.obl (flat_lim _ _) ?_ | refine N.eq ?_ | refine N.obl rfl ?_ | refine N.obl ⟨by kernel_rfl, by kernel_rfl⟩ ?_ | refine N.forkT ?_ | refine N.forkF ?_) | refine N.forkNo (by decide) ?_ | refine N.forkYes (by decide) ?_ | fail)
  refine N.go ?_
  refine N_callM [4] _ (by kernel_rfl) (fun h₂ hh => mk_arM 4 ((hh 4 (by simp)).trans rfl) ((x * x).natAbs) (bzW (x * x)) (Try.call50) (qs := [.big (decide (x < 0)) κx.v, .big (decide (x < 0)) κx.v]) ⟨.big (.ar (by simp)), .big (.ar (by simp)), trivial⟩ (fun _ => rfl) (by rw [hκx]; exact wMul (x) (x) (by have := nl30 (n := (x).natAbs) (by omega); omega))) fun v ms hR => ?_
  obtain ⟨κxx, hκxx, rfl, rfl⟩ := hR
  refine ⟨by simp, ?_⟩
  repeat' (refine N.go ?_; first | with_reducible (first | refine N.obl (by decide) ?_ | refine N.obl (flat_wi _ _ _) ?_ | refine N.obl (flat_lim _ _) ?_ | refine N.eq ?_ | refine N.obl rfl ?_ | refine N.obl ⟨by kernel_rfl, by kernel_rfl⟩ ?_ | refine N.forkT ?_ | refine N.forkF ?_) | refine N.forkNo (by decide) ?_ | refine N.forkYes (by decide) ?_ | fail)
  refine N.go ?_
  refine N_callM [4] _ (by kernel_rfl) (fun h₂ hh => mk_arM 4 ((hh 4 (by simp)).trans rfl) ((a - (x * x)).natAbs) (bzW (a - (x * x))) (Try.call60) (qs := [.big (decide (a < 0)) κa.v, .big (decide ((x * x) < 0)) κxx.v]) ⟨.big (.ar (by simp)), .big (.ar (by simp)), trivial⟩ (fun _ => rfl) (wSub (a) ((x * x)) κa.v κxx.v hκa hκxx (by rw [hκa]; have := nl30 (n := (a).natAbs) (by omega); omega) (by rw [hκxx]; have := nl30 (n := (x * x).natAbs) (by omega); omega))) fun v ms hR => ?_
  obtain ⟨κ1, hκ1, rfl, rfl⟩ := hR
  refine ⟨by simp, ?_⟩
  repeat' (refine N.go ?_; first | with_reducible (first | refine N.obl (by decide) ?_ | refine N.obl (flat_wi _ _ _) ?_ | refine N.obl (flat_lim _ _) ?_ | refine N.eq ?_ | refine N.obl rfl ?_ | refine N.obl ⟨by kernel_rfl, by kernel_rfl⟩ ?_ | refine N.forkT ?_ | refine N.forkF ?_) | refine N.forkNo (by decide) ?_ | refine N.forkYes (by decide) ?_ | fail)
  refine N.go ?_
  refine N_callM [4] _ (by kernel_rfl) (fun h₂ hh => mk_arM 4 ((hh 4 (by simp)).trans rfl) (b.natAbs) (bzW b) (Try.call52) (qs := [.pl (.int .i64 b)]) ⟨.pl rfl, trivial⟩ (fun _ => rfl) (wOf b (by omega))) fun v ms hR => ?_
  obtain ⟨κb, hκb, rfl, rfl⟩ := hR
  refine ⟨by simp, ?_⟩
  repeat' (refine N.go ?_; first | with_reducible (first | refine N.obl (by decide) ?_ | refine N.obl (flat_wi _ _ _) ?_ | refine N.obl (flat_lim _ _) ?_ | refine N.eq ?_ | refine N.obl rfl ?_ | refine N.obl ⟨by kernel_rfl, by kernel_rfl⟩ ?_ | refine N.forkT ?_ | refine N.forkF ?_) | refine N.forkNo (by decide) ?_ | refine N.forkYes (by decide) ?_ | fail)
  refine N.go ?_
  refine N_callM [4] _ (by kernel_rfl) (fun h₂ hh => mk_arM 4 ((hh 4 (by simp)).trans rfl) ((x * y).natAbs) (bzW (x * y)) (Try.call50) (qs := [.big (decide (x < 0)) κx.v, .big (decide (y < 0)) κy.v]) ⟨.big (.ar (by simp)), .big (.ar (by simp)), trivial⟩ (fun _ => rfl) (by rw [hκx, hκy]; exact wMul (x) (y) (by have := nl30 (n := x.natAbs) (by omega); have := nl30 (n := y.natAbs) (by omega); omega))) fun v ms hR => ?_
  obtain ⟨κxy, hκxy, rfl, rfl⟩ := hR
  refine ⟨by simp, ?_⟩
  repeat' (refine N.go ?_; first | with_reducible (first | refine N.obl (by decide) ?_ | refine N.obl (flat_wi _ _ _) ?_ | refine N.obl (flat_lim _ _) ?_ | refine N.eq ?_ | refine N.obl rfl ?_ | refine N.obl ⟨by kernel_rfl, by kernel_rfl⟩ ?_ | refine N.forkT ?_ | refine N.forkF ?_) | refine N.forkNo (by decide) ?_ | refine N.forkYes (by decide) ?_ | fail)
  refine N.go ?_
  refine N_callM [4] _ (by kernel_rfl) (fun h₂ hh => mk_arM 4 ((hh 4 (by simp)).trans rfl) ((b - (x * y)).natAbs) (bzW (b - (x * y))) (Try.call60) (qs := [.big (decide (b < 0)) κb.v, .big (decide ((x * y) < 0)) κxy.v]) ⟨.big (.ar (by simp)), .big (.ar (by simp)), trivial⟩ (fun _ => rfl) (wSub (b) ((x * y)) κb.v κxy.v hκb hκxy (by rw [hκb]; have := nl30 (n := (b).natAbs) (by omega); omega) (by rw [hκxy]; have := nl30 (n := (x * y).natAbs) (by omega); omega))) fun v ms hR => ?_
  obtain ⟨κ2, hκ2, rfl, rfl⟩ := hR
  refine ⟨by simp, ?_⟩
  repeat' (refine N.go ?_; first | with_reducible (first | refine N.obl (by decide) ?_ | refine N.obl (flat_wi _ _ _) ?_ | refine N.obl (flat_lim _ _) ?_ | refine N.eq ?_ | refine N.obl rfl ?_ | refine N.obl ⟨by kernel_rfl, by kernel_rfl⟩ ?_ | refine N.forkT ?_ | refine N.forkF ?_) | refine N.forkNo (by decide) ?_ | refine N.forkYes (by decide) ?_ | fail)
  refine N.go ?_
  refine N_callM [4] _ (by kernel_rfl) (fun h₂ hh => mk_arM 4 ((hh 4 (by simp)).trans rfl) (d.natAbs) (bzW d) (Try.call52) (qs := [.pl (.int .i64 d)]) ⟨.pl rfl, trivial⟩ (fun _ => rfl) (wOf d (by omega))) fun v ms hR => ?_
  obtain ⟨κd, hκd, rfl, rfl⟩ := hR
  refine ⟨by simp, ?_⟩
  repeat' (refine N.go ?_; first | with_reducible (first | refine N.obl (by decide) ?_ | refine N.obl (flat_wi _ _ _) ?_ | refine N.obl (flat_lim _ _) ?_ | refine N.eq ?_ | refine N.obl rfl ?_ | refine N.obl ⟨by kernel_rfl, by kernel_rfl⟩ ?_ | refine N.forkT ?_ | refine N.forkF ?_) | refine N.forkNo (by decide) ?_ | refine N.forkYes (by decide) ?_ | fail)
  refine N.go ?_
  refine N_callM [4] _ (by kernel_rfl) (fun h₂ hh => mk_arM 4 ((hh 4 (by simp)).trans rfl) ((y * y).natAbs) (bzW (y * y)) (Try.call50) (qs := [.big (decide (y < 0)) κy.v, .big (decide (y < 0)) κy.v]) ⟨.big (.ar (by simp)), .big (.ar (by simp)), trivial⟩ (fun _ => rfl) (by rw [hκy]; exact wMul (y) (y) (by have := nl30 (n := (y).natAbs) (by omega); omega))) fun v ms hR => ?_
  obtain ⟨κyy, hκyy, rfl, rfl⟩ := hR
  refine ⟨by simp, ?_⟩
  repeat' (refine N.go ?_; first | with_reducible (first | refine N.obl (by decide) ?_ | refine N.obl (flat_wi _ _ _) ?_ | refine N.obl (flat_lim _ _) ?_ | refine N.eq ?_ | refine N.obl rfl ?_ | refine N.obl ⟨by kernel_rfl, by kernel_rfl⟩ ?_ | refine N.forkT ?_ | refine N.forkF ?_) | refine N.forkNo (by decide) ?_ | refine N.forkYes (by decide) ?_ | fail)
  refine N.go ?_
  refine N_callM [4] _ (by kernel_rfl) (fun h₂ hh => mk_arM 4 ((hh 4 (by simp)).trans rfl) ((d - (y * y)).natAbs) (bzW (d - (y * y))) (Try.call60) (qs := [.big (decide (d < 0)) κd.v, .big (decide ((y * y) < 0)) κyy.v]) ⟨.big (.ar (by simp)), .big (.ar (by simp)), trivial⟩ (fun _ => rfl) (wSub (d) ((y * y)) κd.v κyy.v hκd hκyy (by rw [hκd]; have := nl30 (n := (d).natAbs) (by omega); omega) (by rw [hκyy]; have := nl30 (n := (y * y).natAbs) (by omega); omega))) fun v ms hR => ?_
  obtain ⟨κ3, hκ3, rfl, rfl⟩ := hR
  refine ⟨by simp, ?_⟩
  repeat' (refine N.go ?_; first | with_reducible (first | refine N.obl (by decide) ?_ | refine N.obl (flat_wi _ _ _) ?_ | refine N.obl (flat_lim _ _) ?_ | refine N.eq ?_ | refine N.obl rfl ?_ | refine N.obl ⟨by kernel_rfl, by kernel_rfl⟩ ?_ | refine N.forkT ?_ | refine N.forkF ?_) | refine N.call (cRPsd (a - x * x) (b - x * y) (d - y * y) κ1 κ2 κ3 hκ1 hκ2 hκ3 (by omega) (by omega) 4 (by rfl) (by simp) (by simp) (by simp)) ?_ | refine N.obl (by show endB _ _ = Bool.true; kernel_rfl) ?_ | refine N.forkNo (by decide) ?_ | refine N.forkYes (by decide) ?_ | fail)
  all_goals rfl
theorem cRHolds (a b d x y : Int) (h : List (Option Chunk)) (ha : a.natAbs ≤ 140737488355328) (hbb : b.natAbs ≤ 140737488355328) (hd : d.natAbs ≤ 140737488355328) (hx : x.natAbs ≤ 2147483648) (hy : y.natAbs ≤ 2147483648) : CallOK Try.prog 39 [.agg #[.int .i64 a, .int .i64 b, .int .i64 d], .agg #[.int .i64 x, .int .i64 y]] h (.bool (decide (holdsP a b d x y))) [] [] :=
  call_pure rfl rfl (Try.call39 _) (rholds_x a b d x y ha hbb hd hx hy)
theorem quad_eq (a b d x y : Int) : a * (x * x) + b * (x * y + x * y) + d * (y * y) = quadZ a b d x y := by
  unfold quadZ; rw [Int.mul_add]; omega
set_option maxRecDepth 100000 in
set_option maxHeartbeats 2000000 in
theorem wQuad (a b d x y : Int) (ha : a.natAbs ≤ 140737488355328) (hbb : b.natAbs ≤ 140737488355328) (hd : d.natAbs ≤ 140737488355328) (hx : x.natAbs ≤ 16777216) (hy : y.natAbs ≤ 16777216) (w : World) (xs : List Value) (hxs : All2 (AR w) [.pl (.agg #[.int .i64 a, .int .i64 b, .int .i64 d]), .pl (.agg #[.int .i64 x, .int .i64 y])] xs) : Mk Try.prog 33 xs w (quadZ a b d x y).natAbs (bzW (quadZ a b d x y)) := by
  obtain ⟨rfl⟩ : xs = [.agg #[.int .i64 a, .int .i64 b, .int .i64 d], .agg #[.int .i64 x, .int .i64 y]] := by
    rcases xs with _ | ⟨u, _ | ⟨v, _ | ⟨z, xs⟩⟩⟩ <;> first | exact hxs.elim | exact hxs.2.elim | exact hxs.2.2.elim | skip
    obtain ⟨h1, h2, _⟩ := hxs
    cases h1; cases h2; rfl
  rw [← quad_eq]
  have b1 := mulB hx hx
  have b2 := mulB hx hy
  have b3 := mulB hy hy
  have b4 := mulB ha b1
  have b5 := mulB hbb (n := 562949953421312) (show (x * y + x * y).natAbs ≤ 562949953421312 by omega)
  have b6 := mulB hd b3
  refine calls_nums (es := []) (vs := [.agg #[.int .i64 a, .int .i64 b, .int .i64 d], .agg #[.int .i64 x, .int .i64 y]]) (xs := [.agg #[.int .i64 a, .int .i64 b, .int .i64 d], .agg #[.int .i64 x, .int .i64 y]]) w tysOK mixed Try.func33 (by rfl) (fun e he => by cases he) ⟨.pl rfl, .pl rfl, trivial⟩ (fun _ => rfl) ?_
  repeat' (refine N.go ?_; first | with_reducible (first | refine N.obl (by decide) ?_ | refine N.obl (flat_wi _ _ _) ?_ | refine N.obl (flat_lim _ _) ?_ | refine N.eq ?_ | refine N.obl rfl ?_ | refine N.obl ⟨by kernel_rfl, by kernel_rfl⟩ ?_ | refine N.forkT ?_ | refine N.forkF ?_) | refine N.forkNo (by decide) ?_ | refine N.forkYes (by decide) ?_ | fail)
  refine N.go ?_
  refine N.altP ?_
  refine N.go ?_
  refine N.plan [0, 1, 3, 4, 6, 7] [(2, []), (5, [8, 9])] (by kernel_rfl) ?_
  repeat' (refine N.go ?_; first | with_reducible (first | refine N.obl (by decide) ?_ | refine N.obl (flat_wi _ _ _) ?_ | refine N.obl (flat_lim _ _) ?_ | refine N.eq ?_ | refine N.obl rfl ?_ | refine N.obl ⟨by kernel_rfl, by kernel_rfl⟩ ?_ | refine N.forkT ?_ | refine N.forkF ?_) | refine N.forkNo (by decide) ?_ | refine N.forkYes (by decide) ?_ | fail)
  refine N.go ?_
  refine N_callM [5] _ (by kernel_rfl) (fun h₂ hh => mk_arN 5 ((hh 5 (by simp)).trans rfl) (x.natAbs) (bzW x) (Try.call52) (qs := [.pl (.int .i64 x)]) ⟨.pl rfl, trivial⟩ (fun _ => rfl) (wOf x (by omega))) fun v ms hR => ?_
  obtain ⟨κx, hκx, rfl, rfl⟩ := hR
  refine ⟨by simp, ?_⟩
  repeat' (refine N.go ?_; first | with_reducible (first | refine N.obl (by decide) ?_ | refine N.obl (flat_wi _ _ _) ?_ | refine N.obl (flat_lim _ _) ?_ | refine N.eq ?_ | refine N.obl rfl ?_ | refine N.obl ⟨by kernel_rfl, by kernel_rfl⟩ ?_ | refine N.forkT ?_ | refine N.forkF ?_) | refine N.forkNo (by decide) ?_ | refine N.forkYes (by decide) ?_ | fail)
  refine N.go ?_
  refine N_callM [5] _ (by kernel_rfl) (fun h₂ hh => mk_arM 5 ((hh 5 (by simp)).trans rfl) (y.natAbs) (bzW y) (Try.call52) (qs := [.pl (.int .i64 y)]) ⟨.pl rfl, trivial⟩ (fun _ => rfl) (wOf y (by omega))) fun v ms hR => ?_
  obtain ⟨κy, hκy, rfl, rfl⟩ := hR
  refine ⟨by simp, ?_⟩
  repeat' (refine N.go ?_; first | with_reducible (first | refine N.obl (by decide) ?_ | refine N.obl (flat_wi _ _ _) ?_ | refine N.obl (flat_lim _ _) ?_ | refine N.eq ?_ | refine N.obl rfl ?_ | refine N.obl ⟨by kernel_rfl, by kernel_rfl⟩ ?_ | refine N.forkT ?_ | refine N.forkF ?_) | refine N.obl (by show endB _ _ = Bool.true; kernel_rfl) ?_ | refine N.forkNo (by decide) ?_ | refine N.forkYes (by decide) ?_ | fail)
  refine N.go ?_
  refine N.callAll (mk_arM 5 (by rfl) ((x * y).natAbs) (bzW (x * y)) (Try.call50) (qs := [.big (decide (x < 0)) κx.v, .big (decide (y < 0)) κy.v]) ⟨.big (.ar (by simp)), .big (.ar (by simp)), trivial⟩ (fun _ => rfl) (by rw [hκx, hκy]; exact wMul x y (by have := nl30 (n := (x).natAbs) (by omega); have := nl30 (n := (y).natAbs) (by omega); omega))) fun v ms hR => ?_
  obtain ⟨κxy, hκxy, rfl, rfl⟩ := hR
  repeat' (refine N.go ?_; first | with_reducible (first | refine N.obl (by decide) ?_ | refine N.obl (flat_wi _ _ _) ?_ | refine N.obl (flat_lim _ _) ?_ | refine N.eq ?_ | refine N.obl rfl ?_ | refine N.obl ⟨by kernel_rfl, by kernel_rfl⟩ ?_ | refine N.forkT ?_ | refine N.forkF ?_) | refine N.forkNo (by decide) ?_ | refine N.forkYes (by decide) ?_ | fail)
  refine N.go ?_
  refine N.altP ?_
  refine N.go ?_
  refine N.plan [0, 1, 3, 4, 7, 8, 10, 11, 15, 16, 18, 19] [(2, []), (5, []), (6, []), (9, []), (12, []), (13, []), (14, []), (17, []), (20, []), (21, []), (22, [23])] (by kernel_rfl) ?_
  repeat' (refine N.go ?_; first | with_reducible (first | refine N.obl (by decide) ?_ | refine N.obl (flat_wi _ _ _) ?_ | refine N.obl (flat_lim _ _) ?_ | refine N.eq ?_ | refine N.obl rfl ?_ | refine N.obl ⟨by kernel_rfl, by kernel_rfl⟩ ?_ | refine N.forkT ?_ | refine N.forkF ?_) | refine N.forkNo (by decide) ?_ | refine N.forkYes (by decide) ?_ | fail)
  refine N.go ?_
  refine N_callM [5] _ (by kernel_rfl) (fun h₂ hh => mk_arM 5 ((hh 5 (by simp)).trans rfl) (a.natAbs) (bzW a) (Try.call52) (qs := [.pl (.int .i64 a)]) ⟨.pl rfl, trivial⟩ (fun _ => rfl) (wOf a (by omega))) fun v ms hR => ?_
  obtain ⟨κa, hκa, rfl, rfl⟩ := hR
  refine ⟨by simp, ?_⟩
  repeat' (refine N.go ?_; first | with_reducible (first | refine N.obl (by decide) ?_ | refine N.obl (flat_wi _ _ _) ?_ | refine N.obl (flat_lim _ _) ?_ | refine N.eq ?_ | refine N.obl rfl ?_ | refine N.obl ⟨by kernel_rfl, by kernel_rfl⟩ ?_ | refine N.forkT ?_ | refine N.forkF ?_) | refine N.forkNo (by decide) ?_ | refine N.forkYes (by decide) ?_ | fail)
  refine N.go ?_
  refine N_callM [5] _ (by kernel_rfl) (fun h₂ hh => mk_arM 5 ((hh 5 (by simp)).trans rfl) ((x * x).natAbs) (bzW (x * x)) (Try.call50) (qs := [.big (decide (x < 0)) κx.v, .big (decide (x < 0)) κx.v]) ⟨.big (.ar (by simp)), .big (.ar (by simp)), trivial⟩ (fun _ => rfl) (by rw [hκx]; exact wMul (x) (x) (by have := nl30 (n := (x).natAbs) (by omega); omega))) fun v ms hR => ?_
  obtain ⟨κxx, hκxx, rfl, rfl⟩ := hR
  refine ⟨by simp, ?_⟩
  repeat' (refine N.go ?_; first | with_reducible (first | refine N.obl (by decide) ?_ | refine N.obl (flat_wi _ _ _) ?_ | refine N.obl (flat_lim _ _) ?_ | refine N.eq ?_ | refine N.obl rfl ?_ | refine N.obl ⟨by kernel_rfl, by kernel_rfl⟩ ?_ | refine N.forkT ?_ | refine N.forkF ?_) | refine N.forkNo (by decide) ?_ | refine N.forkYes (by decide) ?_ | fail)
  refine N.go ?_
  refine N_callM [5] _ (by kernel_rfl) (fun h₂ hh => mk_arM 5 ((hh 5 (by simp)).trans rfl) ((a * (x * x)).natAbs) (bzW (a * (x * x))) (Try.call50) (qs := [.big (decide (a < 0)) κa.v, .big (decide ((x * x) < 0)) κxx.v]) ⟨.big (.ar (by simp)), .big (.ar (by simp)), trivial⟩ (fun _ => rfl) (by rw [hκa, hκxx]; exact wMul (a) ((x * x)) (by have := nl30 (n := (a).natAbs) (by omega); have := nl30 (n := (x * x).natAbs) (by omega); omega))) fun v ms hR => ?_
  obtain ⟨κ1, hκ1, rfl, rfl⟩ := hR
  refine ⟨by simp, ?_⟩
  repeat' (refine N.go ?_; first | with_reducible (first | refine N.obl (by decide) ?_ | refine N.obl (flat_wi _ _ _) ?_ | refine N.obl (flat_lim _ _) ?_ | refine N.eq ?_ | refine N.obl rfl ?_ | refine N.obl ⟨by kernel_rfl, by kernel_rfl⟩ ?_ | refine N.forkT ?_ | refine N.forkF ?_) | refine N.forkNo (by decide) ?_ | refine N.forkYes (by decide) ?_ | fail)
  refine N.go ?_
  refine N_callM [5] _ (by kernel_rfl) (fun h₂ hh => mk_arM 5 ((hh 5 (by simp)).trans rfl) (b.natAbs) (bzW b) (Try.call52) (qs := [.pl (.int .i64 b)]) ⟨.pl rfl, trivial⟩ (fun _ => rfl) (wOf b (by omega))) fun v ms hR => ?_
  obtain ⟨κb, hκb, rfl, rfl⟩ := hR
  refine ⟨by simp, ?_⟩
  repeat' (refine N.go ?_; first | with_reducible (first | refine N.obl (by decide) ?_ | refine N.obl (flat_wi _ _ _) ?_ | refine N.obl (flat_lim _ _) ?_ | refine N.eq ?_ | refine N.obl rfl ?_ | refine N.obl ⟨by kernel_rfl, by kernel_rfl⟩ ?_ | refine N.forkT ?_ | refine N.forkF ?_) | refine N.forkNo (by decide) ?_ | refine N.forkYes (by decide) ?_ | fail)
  refine N.go ?_
  refine N_callM [5] _ (by kernel_rfl) (fun h₂ hh => mk_arM 5 ((hh 5 (by simp)).trans rfl) (((x * y) + (x * y)).natAbs) (bzW ((x * y) + (x * y))) (Try.call51) (qs := [.big (decide ((x * y) < 0)) κxy.v, .big (decide ((x * y) < 0)) κxy.v]) ⟨.big (.ar (by simp)), .big (.ar (by simp)), trivial⟩ (fun _ => rfl) (wAdd ((x * y)) ((x * y)) κxy.v κxy.v hκxy hκxy (by rw [hκxy]; have := nl30 (n := (x * y).natAbs) (by omega); omega) (by rw [hκxy]; have := nl30 (n := (x * y).natAbs) (by omega); omega))) fun v ms hR => ?_
  obtain ⟨κs, hκs, rfl, rfl⟩ := hR
  refine ⟨by simp, ?_⟩
  repeat' (refine N.go ?_; first | with_reducible (first | refine N.obl (by decide) ?_ | refine N.obl (flat_wi _ _ _) ?_ | refine N.obl (flat_lim _ _) ?_ | refine N.eq ?_ | refine N.obl rfl ?_ | refine N.obl ⟨by kernel_rfl, by kernel_rfl⟩ ?_ | refine N.forkT ?_ | refine N.forkF ?_) | refine N.forkNo (by decide) ?_ | refine N.forkYes (by decide) ?_ | fail)
  refine N.go ?_
  refine N_callM [5] _ (by kernel_rfl) (fun h₂ hh => mk_arM 5 ((hh 5 (by simp)).trans rfl) ((b * (x * y + x * y)).natAbs) (bzW (b * (x * y + x * y))) (Try.call50) (qs := [.big (decide (b < 0)) κb.v, .big (decide ((x * y + x * y) < 0)) κs.v]) ⟨.big (.ar (by simp)), .big (.ar (by simp)), trivial⟩ (fun _ => rfl) (by rw [hκb, hκs]; exact wMul (b) ((x * y + x * y)) (by have := nl30 (n := (b).natAbs) (by omega); have := nl30 (n := (x * y + x * y).natAbs) (by omega); omega))) fun v ms hR => ?_
  obtain ⟨κ2, hκ2, rfl, rfl⟩ := hR
  refine ⟨by simp, ?_⟩
  repeat' (refine N.go ?_; first | with_reducible (first | refine N.obl (by decide) ?_ | refine N.obl (flat_wi _ _ _) ?_ | refine N.obl (flat_lim _ _) ?_ | refine N.eq ?_ | refine N.obl rfl ?_ | refine N.obl ⟨by kernel_rfl, by kernel_rfl⟩ ?_ | refine N.forkT ?_ | refine N.forkF ?_) | refine N.forkNo (by decide) ?_ | refine N.forkYes (by decide) ?_ | fail)
  refine N.go ?_
  refine N_callM [5] _ (by kernel_rfl) (fun h₂ hh => mk_arM 5 ((hh 5 (by simp)).trans rfl) (((a * (x * x)) + (b * (x * y + x * y))).natAbs) (bzW ((a * (x * x)) + (b * (x * y + x * y)))) (Try.call51) (qs := [.big (decide ((a * (x * x)) < 0)) κ1.v, .big (decide ((b * (x * y + x * y)) < 0)) κ2.v]) ⟨.big (.ar (by simp)), .big (.ar (by simp)), trivial⟩ (fun _ => rfl) (wAdd ((a * (x * x))) ((b * (x * y + x * y))) κ1.v κ2.v hκ1 hκ2 (by rw [hκ1]; have := nl30 (n := (a * (x * x)).natAbs) (by omega); omega) (by rw [hκ2]; have := nl30 (n := (b * (x * y + x * y)).natAbs) (by omega); omega))) fun v ms hR => ?_
  obtain ⟨κ3, hκ3, rfl, rfl⟩ := hR
  refine ⟨by simp, ?_⟩
  repeat' (refine N.go ?_; first | with_reducible (first | refine N.obl (by decide) ?_ | refine N.obl (flat_wi _ _ _) ?_ | refine N.obl (flat_lim _ _) ?_ | refine N.eq ?_ | refine N.obl rfl ?_ | refine N.obl ⟨by kernel_rfl, by kernel_rfl⟩ ?_ | refine N.forkT ?_ | refine N.forkF ?_) | refine N.forkNo (by decide) ?_ | refine N.forkYes (by decide) ?_ | fail)
  refine N.go ?_
  refine N_callM [5] _ (by kernel_rfl) (fun h₂ hh => mk_arM 5 ((hh 5 (by simp)).trans rfl) (d.natAbs) (bzW d) (Try.call52) (qs := [.pl (.int .i64 d)]) ⟨.pl rfl, trivial⟩ (fun _ => rfl) (wOf d (by omega))) fun v ms hR => ?_
  obtain ⟨κd, hκd, rfl, rfl⟩ := hR
  refine ⟨by simp, ?_⟩
  repeat' (refine N.go ?_; first | with_reducible (first | refine N.obl (by decide) ?_ | refine N.obl (flat_wi _ _ _) ?_ | refine N.obl (flat_lim _ _) ?_ | refine N.eq ?_ | refine N.obl rfl ?_ | refine N.obl ⟨by kernel_rfl, by kernel_rfl⟩ ?_ | refine N.forkT ?_ | refine N.forkF ?_) | refine N.forkNo (by decide) ?_ | refine N.forkYes (by decide) ?_ | fail)
  refine N.go ?_
  refine N_callM [5] _ (by kernel_rfl) (fun h₂ hh => mk_arM 5 ((hh 5 (by simp)).trans rfl) ((y * y).natAbs) (bzW (y * y)) (Try.call50) (qs := [.big (decide (y < 0)) κy.v, .big (decide (y < 0)) κy.v]) ⟨.big (.ar (by simp)), .big (.ar (by simp)), trivial⟩ (fun _ => rfl) (by rw [hκy]; exact wMul (y) (y) (by have := nl30 (n := (y).natAbs) (by omega); omega))) fun v ms hR => ?_
  obtain ⟨κyy, hκyy, rfl, rfl⟩ := hR
  refine ⟨by simp, ?_⟩
  repeat' (refine N.go ?_; first | with_reducible (first | refine N.obl (by decide) ?_ | refine N.obl (flat_wi _ _ _) ?_ | refine N.obl (flat_lim _ _) ?_ | refine N.eq ?_ | refine N.obl rfl ?_ | refine N.obl ⟨by kernel_rfl, by kernel_rfl⟩ ?_ | refine N.forkT ?_ | refine N.forkF ?_) | refine N.forkNo (by decide) ?_ | refine N.forkYes (by decide) ?_ | fail)
  refine N.go ?_
  refine N_callM [5] _ (by kernel_rfl) (fun h₂ hh => mk_arM 5 ((hh 5 (by simp)).trans rfl) ((d * (y * y)).natAbs) (bzW (d * (y * y))) (Try.call50) (qs := [.big (decide (d < 0)) κd.v, .big (decide ((y * y) < 0)) κyy.v]) ⟨.big (.ar (by simp)), .big (.ar (by simp)), trivial⟩ (fun _ => rfl) (by rw [hκd, hκyy]; exact wMul (d) ((y * y)) (by have := nl30 (n := (d).natAbs) (by omega); have := nl30 (n := (y * y).natAbs) (by omega); omega))) fun v ms hR => ?_
  obtain ⟨κ4, hκ4, rfl, rfl⟩ := hR
  refine ⟨by simp, ?_⟩
  repeat' (refine N.go ?_; first | with_reducible (first | refine N.obl (by decide) ?_ | refine N.obl (flat_wi _ _ _) ?_ | refine N.obl (flat_lim _ _) ?_ | refine N.eq ?_ | refine N.obl rfl ?_ | refine N.obl ⟨by kernel_rfl, by kernel_rfl⟩ ?_ | refine N.forkT ?_ | refine N.forkF ?_) | refine N.forkNo (by decide) ?_ | refine N.forkYes (by decide) ?_ | fail)
  refine N.go ?_
  refine N_callM [5] _ (by kernel_rfl) (fun h₂ hh => mk_arM 5 ((hh 5 (by simp)).trans rfl) (((a * (x * x) + b * (x * y + x * y)) + (d * (y * y))).natAbs) (bzW ((a * (x * x) + b * (x * y + x * y)) + (d * (y * y)))) (Try.call51) (qs := [.big (decide ((a * (x * x) + b * (x * y + x * y)) < 0)) κ3.v, .big (decide ((d * (y * y)) < 0)) κ4.v]) ⟨.big (.ar (by simp)), .big (.ar (by simp)), trivial⟩ (fun _ => rfl) (wAdd ((a * (x * x) + b * (x * y + x * y))) ((d * (y * y))) κ3.v κ4.v hκ3 hκ4 (by rw [hκ3]; have := nl30 (n := (a * (x * x) + b * (x * y + x * y)).natAbs) (by omega); omega) (by rw [hκ4]; have := nl30 (n := (d * (y * y)).natAbs) (by omega); omega))) fun v ms hR => ?_
  obtain ⟨κ5, hκ5, rfl, rfl⟩ := hR
  refine ⟨by simp, ?_⟩
  repeat' (refine N.go ?_; first | with_reducible (first | refine N.obl (by decide) ?_ | refine N.obl (flat_wi _ _ _) ?_ | refine N.obl (flat_lim _ _) ?_ | refine N.eq ?_ | refine N.obl rfl ?_ | refine N.obl ⟨by kernel_rfl, by kernel_rfl⟩ ?_ | refine N.forkT ?_ | refine N.forkF ?_) | refine N.obl (by show endB _ _ = Bool.true; kernel_rfl) ?_ | refine N.endM κ5 5 hκ5 rfl (by rfl) (by simp) | refine N.forkNo (by decide) ?_ | refine N.forkYes (by decide) ?_ | fail)
end Go.Proofs.Ytchfbblpflcniaa


/-
  The document's MayE and Time.
-/
set_option linter.unusedVariables false
set_option linter.unusedSimpArgs false
namespace Go.Proofs.Ytchfbblpflcniaa
open Go Go.RowKit Sx

set_option maxRecDepth 100000 in
set_option maxHeartbeats 2000000 in
theorem rwithin_x (n m : Int) (hm : 0 ≤ m ∧ m ≤ 1152921504606846976) (w : World) : Calls Try.prog 27 #[.int .i64 n, .int .i64 m] w fun e w' => e = .returned (.bool (decide (-m ≤ n ∧ n ≤ m))) ∧ Below w.heap.size w w' := by
  have hw := i64s (0 - m) (by omega) (by omega)
  refine calls_pure (G := tys) w tysOK mixed Try.func27 (by rfl) (by rfl) (by rfl) ?_
  repeat' (refine N.go ?_; first | with_reducible (first | refine N.obl (by decide) ?_ | refine N.eq ?_ | refine N.obl rfl ?_ | refine N.obl ⟨by kernel_rfl, by kernel_rfl⟩ ?_ | refine N.alt ?_ | refine N.forkT ?_ | refine N.forkF ?_) | with_reducible refine N.fork (fun hb => ?_) (fun hb => ?_) | fail)
  all_goals try rw [hw] at *
  all_goals
    refine boolD ?_
    simp only [decide_eq_true_eq, decide_eq_false_iff_not, Bool.false_eq_true, false_iff, true_iff, iff_true, iff_false, reduceCtorEq, not_true_eq_false, not_false_eq_true, ge_iff_le, gt_iff_lt] at *
    omega
theorem cRWithin (n m : Int) (hm : 0 ≤ m ∧ m ≤ 1152921504606846976) (h : List (Option Chunk)) : CallOK Try.prog 27 [.int .i64 n, .int .i64 m] h (.bool (decide (-m ≤ n ∧ n ≤ m))) [] [] := call_pure rfl rfl (Try.call27 _) (rwithin_x n m hm)
set_option maxRecDepth 100000 in
set_option maxHeartbeats 2000000 in
theorem rmaypoint_x (x y : Int) (w : World) : Calls Try.prog 15 #[.agg #[.int .i64 x, .int .i64 y]] w fun e w' => e = .returned (.bool (decide (withinP 4194304 x y))) ∧ Below w.heap.size w w' := by
  refine calls_pure (G := tys) w tysOK mixed Try.func15 (by rfl) (by rfl) (by rfl) ?_
  repeat' (refine N.go ?_; first | with_reducible (first | refine N.obl (by decide) ?_ | refine N.eq ?_ | refine N.obl rfl ?_ | refine N.obl ⟨by kernel_rfl, by kernel_rfl⟩ ?_ | refine N.alt ?_ | refine N.forkT ?_ | refine N.forkF ?_) | refine N.call (cRWithin _ _ (by decide) _) ?_ | with_reducible refine N.fork (fun hb => ?_) (fun hb => ?_) | fail)
  all_goals
    refine boolD ?_
    simp only [decide_eq_true_eq, decide_eq_false_iff_not, Bool.false_eq_true, false_iff, true_iff, iff_true, iff_false, reduceCtorEq, not_true_eq_false, not_false_eq_true, ge_iff_le, gt_iff_lt] at *
    try simp only [withinP] at *
    omega
theorem cRMayPoint (x y : Int) (h : List (Option Chunk)) : CallOK Try.prog 15 [.agg #[.int .i64 x, .int .i64 y]] h (.bool (decide (withinP 4194304 x y))) [] [] := call_pure rfl rfl (Try.call15 _) (rmaypoint_x x y)
theorem sgnI_pos (z : Int) : decide (sgnI z > 0) = decide (0 < z) := by
  unfold sgnI
  split
  · rw [decide_eq_false (by decide), decide_eq_false (by omega)]
  · split
    · rw [decide_eq_false (by decide), decide_eq_false (by omega)]
    · rw [decide_eq_true (by decide), decide_eq_true (by omega)]
set_option maxRecDepth 100000 in
set_option maxHeartbeats 2000000 in
theorem rmaye_x (x y a b d : Int) (w : World) : Calls Try.prog 17 #[.agg #[.int .i64 x, .int .i64 y, .int .i64 a, .int .i64 b, .int .i64 d]] w fun e w' => e = .returned (.bool (decide (mayP x y a b d))) ∧ Below w.heap.size w w' := by
  by_cases hr : withinP 4194304 x y ∧ (1 ≤ a ∧ a ≤ 70368744177664) ∧ (1 ≤ d ∧ d ≤ 70368744177664) ∧ (-70368744177664 ≤ b ∧ b ≤ 70368744177664)
  · obtain ⟨p1, ⟨p2, p3⟩, ⟨p4, p5⟩, p6, p7⟩ := hr
    have he : decide (mayP x y a b d) = decide (sgnI (a * d - b * b) > 0) := by
      rw [sgnI_pos, decide_eq_decide]
      unfold mayP
      exact ⟨fun h => h.2.2.2.2, fun h => ⟨p1, ⟨p2, p3⟩, ⟨p4, p5⟩, ⟨p6, p7⟩, h⟩⟩
    rw [he]
    refine calls_pure (G := tys) w tysOK mixed Try.func17 (by rfl) (by rfl) (by rfl) ?_
    repeat' (refine N.go ?_; first | with_reducible (first | refine N.obl (by decide) ?_ | refine N.eq ?_ | refine N.obl rfl ?_ | refine N.obl ⟨by kernel_rfl, by kernel_rfl⟩ ?_ | refine N.alt ?_ | refine N.forkT ?_ | refine N.forkF ?_) | refine N.call (cRMayPoint _ _ _) ?_ | refine N.call (cRWithin _ _ (by decide) _) ?_ | refine N.call (cASign (a * d - b * b) _ _ _ _ hκ _) ?_ | refine N.forkYes (decide_eq_true (by assumption)) ?_ | refine N.forkNo (decide_eq_false (by assumption)) ?_ | refine N.forkYes (decide_eq_true (by omega)) ?_ | refine N.forkNo (decide_eq_false (by omega)) ?_ | fail)
    refine N.go ?_
    refine N.callAll (mk_arN 2 (by rfl) (a * d - b * b).natAbs (bzW (a * d - b * b)) (Try.call37) (qs := [.pl (.agg #[.int .i64 a, .int .i64 b, .int .i64 d])]) ⟨.pl rfl, trivial⟩ (fun _ => rfl) (wDet a b d ⟨by omega, by omega⟩ ⟨by omega, by omega⟩ ⟨by omega, by omega⟩)) fun v ms hR => ?_
    obtain ⟨κ, hκ, rfl, rfl⟩ := hR
    repeat' (refine N.go ?_; first | with_reducible (first | refine N.obl (by decide) ?_ | refine N.eq ?_ | refine N.obl rfl ?_ | refine N.obl ⟨by kernel_rfl, by kernel_rfl⟩ ?_ | refine N.alt ?_ | refine N.forkT ?_ | refine N.forkF ?_) | refine N.call (cRMayPoint _ _ _) ?_ | refine N.call (cRWithin _ _ (by decide) _) ?_ | refine N.call (cASign (a * d - b * b) _ _ _ _ hκ _) ?_ | refine N.forkYes (decide_eq_true (by assumption)) ?_ | refine N.forkNo (decide_eq_false (by assumption)) ?_ | refine N.forkYes (decide_eq_true (by omega)) ?_ | refine N.forkNo (decide_eq_false (by omega)) ?_ | fail)
    all_goals rfl
  · have he : decide (mayP x y a b d) = false := by
      rw [decide_eq_false_iff_not]
      intro h
      unfold mayP at h
      exact hr ⟨h.1, h.2.1, h.2.2.1, h.2.2.2.1⟩
    rw [he]
    refine calls_pure (G := tys) w tysOK mixed Try.func17 (by rfl) (by rfl) (by rfl) ?_
    by_cases q1 : withinP 4194304 x y
    · by_cases q2 : 1 ≤ a
      · by_cases q3 : a ≤ 70368744177664
        · by_cases q4 : 1 ≤ d
          · by_cases q5 : d ≤ 70368744177664
            · have q6 : ¬ (-70368744177664 ≤ b ∧ b ≤ 70368744177664) := fun h => hr ⟨q1, ⟨q2, q3⟩, ⟨q4, q5⟩, h⟩
              repeat' (refine N.go ?_; first | with_reducible (first | refine N.obl (by decide) ?_ | refine N.eq ?_ | refine N.obl rfl ?_ | refine N.obl ⟨by kernel_rfl, by kernel_rfl⟩ ?_ | refine N.alt ?_ | refine N.forkT ?_ | refine N.forkF ?_) | refine N.call (cRMayPoint _ _ _) ?_ | refine N.call (cRWithin _ _ (by decide) _) ?_ | refine N.forkYes (decide_eq_true (by assumption)) ?_ | refine N.forkNo (decide_eq_false (by assumption)) ?_ | refine N.forkYes (decide_eq_true (by omega)) ?_ | refine N.forkNo (decide_eq_false (by omega)) ?_ | fail)
              all_goals rfl
            · repeat' (refine N.go ?_; first | with_reducible (first | refine N.obl (by decide) ?_ | refine N.eq ?_ | refine N.obl rfl ?_ | refine N.obl ⟨by kernel_rfl, by kernel_rfl⟩ ?_ | refine N.alt ?_ | refine N.forkT ?_ | refine N.forkF ?_) | refine N.call (cRMayPoint _ _ _) ?_ | refine N.call (cRWithin _ _ (by decide) _) ?_ | refine N.forkYes (decide_eq_true (by assumption)) ?_ | refine N.forkNo (decide_eq_false (by assumption)) ?_ | refine N.forkYes (decide_eq_true (by omega)) ?_ | refine N.forkNo (decide_eq_false (by omega)) ?_ | fail)
              all_goals rfl
          · repeat' (refine N.go ?_; first | with_reducible (first | refine N.obl (by decide) ?_ | refine N.eq ?_ | refine N.obl rfl ?_ | refine N.obl ⟨by kernel_rfl, by kernel_rfl⟩ ?_ | refine N.alt ?_ | refine N.forkT ?_ | refine N.forkF ?_) | refine N.call (cRMayPoint _ _ _) ?_ | refine N.call (cRWithin _ _ (by decide) _) ?_ | refine N.forkYes (decide_eq_true (by assumption)) ?_ | refine N.forkNo (decide_eq_false (by assumption)) ?_ | refine N.forkYes (decide_eq_true (by omega)) ?_ | refine N.forkNo (decide_eq_false (by omega)) ?_ | fail)
            all_goals rfl
        · repeat' (refine N.go ?_; first | with_reducible (first | refine N.obl (by decide) ?_ | refine N.eq ?_ | refine N.obl rfl ?_ | refine N.obl ⟨by kernel_rfl, by kernel_rfl⟩ ?_ | refine N.alt ?_ | refine N.forkT ?_ | refine N.forkF ?_) | refine N.call (cRMayPoint _ _ _) ?_ | refine N.call (cRWithin _ _ (by decide) _) ?_ | refine N.forkYes (decide_eq_true (by assumption)) ?_ | refine N.forkNo (decide_eq_false (by assumption)) ?_ | refine N.forkYes (decide_eq_true (by omega)) ?_ | refine N.forkNo (decide_eq_false (by omega)) ?_ | fail)
          all_goals rfl
      · repeat' (refine N.go ?_; first | with_reducible (first | refine N.obl (by decide) ?_ | refine N.eq ?_ | refine N.obl rfl ?_ | refine N.obl ⟨by kernel_rfl, by kernel_rfl⟩ ?_ | refine N.alt ?_ | refine N.forkT ?_ | refine N.forkF ?_) | refine N.call (cRMayPoint _ _ _) ?_ | refine N.call (cRWithin _ _ (by decide) _) ?_ | refine N.forkYes (decide_eq_true (by assumption)) ?_ | refine N.forkNo (decide_eq_false (by assumption)) ?_ | refine N.forkYes (decide_eq_true (by omega)) ?_ | refine N.forkNo (decide_eq_false (by omega)) ?_ | fail)
        all_goals rfl
    · repeat' (refine N.go ?_; first | with_reducible (first | refine N.obl (by decide) ?_ | refine N.eq ?_ | refine N.obl rfl ?_ | refine N.obl ⟨by kernel_rfl, by kernel_rfl⟩ ?_ | refine N.alt ?_ | refine N.forkT ?_ | refine N.forkF ?_) | refine N.call (cRMayPoint _ _ _) ?_ | refine N.call (cRWithin _ _ (by decide) _) ?_ | refine N.forkYes (decide_eq_true (by assumption)) ?_ | refine N.forkNo (decide_eq_false (by assumption)) ?_ | refine N.forkYes (decide_eq_true (by omega)) ?_ | refine N.forkNo (decide_eq_false (by omega)) ?_ | fail)
      all_goals rfl
theorem cMayE (x y a b d : Int) (h : List (Option Chunk)) : CallOK Try.prog 17 [.agg #[.int .i64 x, .int .i64 y, .int .i64 a, .int .i64 b, .int .i64 d]] h (.bool (decide (mayP x y a b d))) [] [] := call_pure rfl rfl (Try.call17 _) (rmaye_x x y a b d)
end Go.Proofs.Ytchfbblpflcniaa


/-
  The document's ellipses: In, Ball, Box, Shift, Trace, Radius, Hull, Along.
-/
set_option linter.unusedVariables false
set_option linter.unusedSimpArgs false
namespace Go.Proofs.Ytchfbblpflcniaa
open Go Go.RowKit Sx

theorem cRHoldsz (a b d x y x' y' : Int) (h : List (Option Chunk)) (e1 : x' = x) (e2 : y' = y) (ha : a.natAbs ≤ 140737488355328) (hbb : b.natAbs ≤ 140737488355328) (hd : d.natAbs ≤ 140737488355328) (hx : x.natAbs ≤ 2147483648) (hy : y.natAbs ≤ 2147483648) : CallOK Try.prog 39 [.agg #[.int .i64 a, .int .i64 b, .int .i64 d], .agg #[.int .i64 x', .int .i64 y']] h (.bool (decide (holdsP a b d x y))) [] [] := by
  subst e1 e2; exact cRHolds a b d x' y' h ha hbb hd hx hy
set_option maxRecDepth 100000 in
theorem rIn_x (cx cy a b d x y : Int)  (w : World) : Calls Try.prog 19 #[.agg #[.int .i64 cx, .int .i64 cy, .int .i64 a, .int .i64 b, .int .i64 d], .agg #[.int .i64 x, .int .i64 y]] w fun e w' => e = .returned (.bool (decide (inP cx cy a b d x y))) ∧ Below w.heap.size w w' := by
  by_cases hm : mayP cx cy a b d
  · by_cases hw : withinP 1073741824 x y
    · obtain ⟨⟨c1, c2⟩, m1, m2, m3⟩ := may_b hm
      have hw1 := hw
      unfold withinP at hw1
      obtain ⟨w1, w2⟩ := hw1
      have e1 := i64s (x - cx) (by omega) (by omega)
      have e2 := i64s (y - cy) (by omega) (by omega)
      rw [show decide (inP cx cy a b d x y) = decide (holdsP a b d (x - cx) (y - cy)) from decide_eq_decide.2 ⟨fun h => h.2.2, fun h => ⟨hm, hw, h⟩⟩]
      refine calls_pure (G := tys) w tysOK mixed Try.func19 (by rfl) (by first | rfl | (simp only [List.all_cons, List.all_nil, plain_wz]; rfl)) (by first | rfl | exact plain3_wz _ | (simp only [plain3, List.all_cons, List.all_nil, plain_wz]; rfl)) ?_
      repeat' (refine N.go ?_; first | with_reducible (first | refine N.obl (by decide) ?_ | refine N.obl (flat_wi _ _ _) ?_ | refine N.obl (flat_lim _ _) ?_ | refine N.eq ?_ | refine N.obl rfl ?_ | refine N.obl ⟨by kernel_rfl, by kernel_rfl⟩ ?_ | refine N.alt ?_ | refine N.forkT ?_ | refine N.forkF ?_ | refine N.call (cMayE _ _ _ _ _ _) ?_) | refine N.call (cRWithin _ _ (by decide) _) ?_ | refine N.call (cRHoldsz _ _ _ (x - cx) (y - cy) _ _ _ e1 e2 m1 m2 m3 (by omega) (by omega)) ?_ | refine N.forkNo (by rw [decide_eq_true (by assumption)]; rfl) ?_ | refine N.forkYes (by rw [decide_eq_false (by assumption)]; rfl) ?_ | refine N.forkYes (decide_eq_true (by assumption)) ?_ | refine N.forkNo (decide_eq_false (by assumption)) ?_)
      all_goals rfl
    · rw [decide_eq_false (fun h : inP cx cy a b d x y => hw h.2.1)]
      by_cases w1 : -1073741824 ≤ x ∧ x ≤ 1073741824
      · have w2 : ¬ (-1073741824 ≤ y ∧ y ≤ 1073741824) := fun h => hw ⟨w1, h⟩
        refine calls_pure (G := tys) w tysOK mixed Try.func19 (by rfl) (by first | rfl | (simp only [List.all_cons, List.all_nil, plain_wz]; rfl)) (by first | rfl | exact plain3_wz _ | (simp only [plain3, List.all_cons, List.all_nil, plain_wz]; rfl)) ?_
        repeat' (refine N.go ?_; first | with_reducible (first | refine N.obl (by decide) ?_ | refine N.obl (flat_wi _ _ _) ?_ | refine N.obl (flat_lim _ _) ?_ | refine N.eq ?_ | refine N.obl rfl ?_ | refine N.obl ⟨by kernel_rfl, by kernel_rfl⟩ ?_ | refine N.alt ?_ | refine N.forkT ?_ | refine N.forkF ?_ | refine N.call (cMayE _ _ _ _ _ _) ?_) | refine N.call (cRWithin _ _ (by decide) _) ?_ | refine N.forkNo (by rw [decide_eq_true (by assumption)]; rfl) ?_ | refine N.forkYes (by rw [decide_eq_false (by assumption)]; rfl) ?_ | refine N.forkYes (decide_eq_true (by assumption)) ?_ | refine N.forkNo (decide_eq_false (by assumption)) ?_)
        all_goals rfl
      · skip
        refine calls_pure (G := tys) w tysOK mixed Try.func19 (by rfl) (by first | rfl | (simp only [List.all_cons, List.all_nil, plain_wz]; rfl)) (by first | rfl | exact plain3_wz _ | (simp only [plain3, List.all_cons, List.all_nil, plain_wz]; rfl)) ?_
        repeat' (refine N.go ?_; first | with_reducible (first | refine N.obl (by decide) ?_ | refine N.obl (flat_wi _ _ _) ?_ | refine N.obl (flat_lim _ _) ?_ | refine N.eq ?_ | refine N.obl rfl ?_ | refine N.obl ⟨by kernel_rfl, by kernel_rfl⟩ ?_ | refine N.alt ?_ | refine N.forkT ?_ | refine N.forkF ?_ | refine N.call (cMayE _ _ _ _ _ _) ?_) | refine N.call (cRWithin _ _ (by decide) _) ?_ | refine N.forkNo (by rw [decide_eq_true (by assumption)]; rfl) ?_ | refine N.forkYes (by rw [decide_eq_false (by assumption)]; rfl) ?_ | refine N.forkYes (decide_eq_true (by assumption)) ?_ | refine N.forkNo (decide_eq_false (by assumption)) ?_)
        all_goals rfl
  · rw [decide_eq_false (fun h : inP cx cy a b d x y => hm h.1)]
    refine calls_pure (G := tys) w tysOK mixed Try.func19 (by rfl) (by first | rfl | (simp only [List.all_cons, List.all_nil, plain_wz]; rfl)) (by first | rfl | exact plain3_wz _ | (simp only [plain3, List.all_cons, List.all_nil, plain_wz]; rfl)) ?_
    repeat' (refine N.go ?_; first | with_reducible (first | refine N.obl (by decide) ?_ | refine N.obl (flat_wi _ _ _) ?_ | refine N.obl (flat_lim _ _) ?_ | refine N.eq ?_ | refine N.obl rfl ?_ | refine N.obl ⟨by kernel_rfl, by kernel_rfl⟩ ?_ | refine N.alt ?_ | refine N.forkT ?_ | refine N.forkF ?_ | refine N.call (cMayE _ _ _ _ _ _) ?_) | refine N.call (cRWithin _ _ (by decide) _) ?_ | refine N.forkNo (by rw [decide_eq_true (by assumption)]; rfl) ?_ | refine N.forkYes (by rw [decide_eq_false (by assumption)]; rfl) ?_ | refine N.forkYes (decide_eq_true (by assumption)) ?_ | refine N.forkNo (decide_eq_false (by assumption)) ?_)
    all_goals rfl
theorem cRIn (cx cy a b d x y : Int) (h : List (Option Chunk))  : CallOK Try.prog 19 [.agg #[.int .i64 cx, .int .i64 cy, .int .i64 a, .int .i64 b, .int .i64 d], .agg #[.int .i64 x, .int .i64 y]] h (.bool (decide (inP cx cy a b d x y))) [] [] :=
  call_pure (by first | rfl | (simp only [List.all_cons, List.all_nil, plain_wz]; rfl)) (by first | rfl | exact plain3_wz _ | (simp only [plain3, List.all_cons, List.all_nil, plain_wz]; rfl)) (Try.call19 _) (rIn_x cx cy a b d x y )
set_option maxRecDepth 100000 in
theorem rTrace_x (cx cy a b d : Int)  (w : World) : Calls Try.prog 21 #[.agg #[.int .i64 cx, .int .i64 cy, .int .i64 a, .int .i64 b, .int .i64 d]] w fun e w' => e = .returned (.int .i64 (trP cx cy a b d)) ∧ Below w.heap.size w w' := by
  unfold trP
  by_cases hm : mayP cx cy a b d
  · obtain ⟨_, m1, m2, m3⟩ := may_b hm
    have e1 := i64s (a + d) (by omega) (by omega)
    rw [if_pos hm]
    refine calls_pure (G := tys) w tysOK mixed Try.func21 (by rfl) (by first | rfl | (simp only [List.all_cons, List.all_nil, plain_wz]; rfl)) (by first | rfl | exact plain3_wz _ | (simp only [plain3, List.all_cons, List.all_nil, plain_wz]; rfl)) ?_
    repeat' (refine N.go ?_; first | with_reducible (first | refine N.obl (by decide) ?_ | refine N.obl (flat_wi _ _ _) ?_ | refine N.obl (flat_lim _ _) ?_ | refine N.eq ?_ | refine N.obl rfl ?_ | refine N.obl ⟨by kernel_rfl, by kernel_rfl⟩ ?_ | refine N.alt ?_ | refine N.forkT ?_ | refine N.forkF ?_ | refine N.call (cMayE _ _ _ _ _ _) ?_) | refine N.forkNo (by rw [decide_eq_true (by assumption)]; rfl) ?_ | refine N.forkYes (by rw [decide_eq_false (by assumption)]; rfl) ?_ | refine N.forkYes (decide_eq_true (by assumption)) ?_ | refine N.forkNo (decide_eq_false (by assumption)) ?_)
    all_goals (rw [e1])
  · rw [if_neg hm]
    refine calls_pure (G := tys) w tysOK mixed Try.func21 (by rfl) (by first | rfl | (simp only [List.all_cons, List.all_nil, plain_wz]; rfl)) (by first | rfl | exact plain3_wz _ | (simp only [plain3, List.all_cons, List.all_nil, plain_wz]; rfl)) ?_
    repeat' (refine N.go ?_; first | with_reducible (first | refine N.obl (by decide) ?_ | refine N.obl (flat_wi _ _ _) ?_ | refine N.obl (flat_lim _ _) ?_ | refine N.eq ?_ | refine N.obl rfl ?_ | refine N.obl ⟨by kernel_rfl, by kernel_rfl⟩ ?_ | refine N.alt ?_ | refine N.forkT ?_ | refine N.forkF ?_ | refine N.call (cMayE _ _ _ _ _ _) ?_) | refine N.forkNo (by rw [decide_eq_true (by assumption)]; rfl) ?_ | refine N.forkYes (by rw [decide_eq_false (by assumption)]; rfl) ?_ | refine N.forkYes (decide_eq_true (by assumption)) ?_ | refine N.forkNo (decide_eq_false (by assumption)) ?_)
    all_goals rfl
theorem cRTrace (cx cy a b d : Int) (h : List (Option Chunk))  : CallOK Try.prog 21 [.agg #[.int .i64 cx, .int .i64 cy, .int .i64 a, .int .i64 b, .int .i64 d]] h (.int .i64 (trP cx cy a b d)) [] [] :=
  call_pure (by first | rfl | (simp only [List.all_cons, List.all_nil, plain_wz]; rfl)) (by first | rfl | exact plain3_wz _ | (simp only [plain3, List.all_cons, List.all_nil, plain_wz]; rfl)) (Try.call21 _) (rTrace_x cx cy a b d )
set_option maxRecDepth 100000 in
theorem cIsqrtK (k : Nat) (h : List (Option Chunk)) (hk : k < 281474976710656) : CallOK Try.prog 41 [.int .i64 (k : Int)] h (.int .i64 ((isq k : Nat) : Int)) [] [] := by
  have := cIsqrt (k : Int) h ⟨by omega, by omega⟩
  rwa [Int.toNat_natCast] at this
set_option maxRecDepth 100000 in
theorem rUp_x (n : Int) (hn : 0 ≤ n ∧ n < 281474976710656) (w : World) : Calls Try.prog 29 #[.int .i64 n] w fun e w' => e = .returned (.int .i64 ((usq n.toNat : Nat) : Int)) ∧ Below w.heap.size w w' := by
  obtain ⟨k, rfl⟩ := Int.eq_ofNat_of_zero_le hn.1
  rw [Int.toNat_natCast]
  have h1 : isq k < 16777217 := isq_below (by omega)
  have h2 := isq_le k
  have h3 := Nat.mul_le_mul (show isq k ≤ 16777216 by omega) (show isq k ≤ 16777216 by omega)
  have e1 : IntKind.i64.wrap (((isq k : Nat) : Int) * ((isq k : Nat) : Int)) = ((isq k * isq k : Nat) : Int) := by rw [← Int.natCast_mul]; exact i64s _ (by omega) (by omega)
  have e2 := i64s (((isq k : Nat) : Int) + 1) (by omega) (by omega)
  by_cases h0 : k = 0
  · have hu : usq k = 0 := by subst h0; decide
    have hi : isq k = 0 := by subst h0; decide
    rw [hu]
    refine calls_pure (G := tys) w tysOK mixed Try.func29 (by rfl) (by first | rfl | (simp only [List.all_cons, List.all_nil, plain_wz]; rfl)) (by first | rfl | exact plain3_wz _ | (simp only [plain3, List.all_cons, List.all_nil, plain_wz]; rfl)) ?_
    repeat' (refine N.go ?_; first | with_reducible (first | refine N.obl (by decide) ?_ | refine N.obl (flat_wi _ _ _) ?_ | refine N.obl (flat_lim _ _) ?_ | refine N.eq ?_ | refine N.obl rfl ?_ | refine N.obl ⟨by kernel_rfl, by kernel_rfl⟩ ?_ | refine N.alt ?_ | refine N.forkT ?_ | refine N.forkF ?_) | refine N.call (cIsqrt _ _ hn) ?_ | refine N.forkNo (decide_eq_false (by omega)) ?_)
    all_goals (rw [Int.toNat_natCast, hi])
  · by_cases hlt : isq k * isq k < k
    · have hu : usq k = isq k + 1 := by unfold usq; rw [if_pos hlt]
      rw [hu]
      refine calls_pure (G := tys) w tysOK mixed Try.func29 (by rfl) (by first | rfl | (simp only [List.all_cons, List.all_nil, plain_wz]; rfl)) (by first | rfl | exact plain3_wz _ | (simp only [plain3, List.all_cons, List.all_nil, plain_wz]; rfl)) ?_
      repeat' (refine N.go ?_; first | with_reducible (first | refine N.obl (by decide) ?_ | refine N.obl (flat_wi _ _ _) ?_ | refine N.obl (flat_lim _ _) ?_ | refine N.eq ?_ | refine N.obl rfl ?_ | refine N.obl ⟨by kernel_rfl, by kernel_rfl⟩ ?_ | refine N.alt ?_ | refine N.forkT ?_ | refine N.forkF ?_) | refine N.call (cIsqrtK k _ (by omega)) ?_ | refine N.forkYes (decide_eq_true (by omega)) ?_ | refine N.forkYes (by rw [e1]; exact decide_eq_true (by omega)) ?_)
      all_goals (rw [e2]; rfl)
    · have hu : usq k = isq k := by unfold usq; rw [if_neg hlt]
      rw [hu]
      refine calls_pure (G := tys) w tysOK mixed Try.func29 (by rfl) (by first | rfl | (simp only [List.all_cons, List.all_nil, plain_wz]; rfl)) (by first | rfl | exact plain3_wz _ | (simp only [plain3, List.all_cons, List.all_nil, plain_wz]; rfl)) ?_
      repeat' (refine N.go ?_; first | with_reducible (first | refine N.obl (by decide) ?_ | refine N.obl (flat_wi _ _ _) ?_ | refine N.obl (flat_lim _ _) ?_ | refine N.eq ?_ | refine N.obl rfl ?_ | refine N.obl ⟨by kernel_rfl, by kernel_rfl⟩ ?_ | refine N.alt ?_ | refine N.forkT ?_ | refine N.forkF ?_) | refine N.call (cIsqrtK k _ (by omega)) ?_ | refine N.forkYes (decide_eq_true (by omega)) ?_ | refine N.forkNo (by rw [e1]; exact decide_eq_false (by omega)) ?_)
      all_goals rfl
theorem cRUp (n : Int) (h : List (Option Chunk)) (hn : 0 ≤ n ∧ n < 281474976710656) : CallOK Try.prog 29 [.int .i64 n] h (.int .i64 ((usq n.toNat : Nat) : Int)) [] [] :=
  call_pure (by first | rfl | (simp only [List.all_cons, List.all_nil, plain_wz]; rfl)) (by first | rfl | exact plain3_wz _ | (simp only [plain3, List.all_cons, List.all_nil, plain_wz]; rfl)) (Try.call29 _) (rUp_x n hn)
set_option maxRecDepth 100000 in
theorem rRadius_x (cx cy a b d : Int)  (w : World) : Calls Try.prog 23 #[.agg #[.int .i64 cx, .int .i64 cy, .int .i64 a, .int .i64 b, .int .i64 d]] w fun e w' => e = .returned (.int .i64 (usq (trP cx cy a b d).toNat : Nat)) ∧ Below w.heap.size w w' := by
  have hb : 0 ≤ trP cx cy a b d ∧ trP cx cy a b d < 281474976710656 := by
    unfold trP
    split
    · rename_i hm; have := hm.2.1; have := hm.2.2.1; omega
    · omega
  refine calls_pure (G := tys) w tysOK mixed Try.func23 (by rfl) (by first | rfl | (simp only [List.all_cons, List.all_nil, plain_wz]; rfl)) (by first | rfl | exact plain3_wz _ | (simp only [plain3, List.all_cons, List.all_nil, plain_wz]; rfl)) ?_
  repeat' (refine N.go ?_; first | with_reducible (first | refine N.obl (by decide) ?_ | refine N.obl (flat_wi _ _ _) ?_ | refine N.obl (flat_lim _ _) ?_ | refine N.eq ?_ | refine N.obl rfl ?_ | refine N.obl ⟨by kernel_rfl, by kernel_rfl⟩ ?_ | refine N.alt ?_ | refine N.forkT ?_ | refine N.forkF ?_) | refine N.call (cRTrace _ _ _ _ _ _) ?_ | refine N.call (cRUp _ _ hb) ?_)
  all_goals rfl
theorem cRRadius (cx cy a b d : Int) (h : List (Option Chunk))  : CallOK Try.prog 23 [.agg #[.int .i64 cx, .int .i64 cy, .int .i64 a, .int .i64 b, .int .i64 d]] h (.int .i64 (usq (trP cx cy a b d).toNat : Nat)) [] [] :=
  call_pure (by first | rfl | (simp only [List.all_cons, List.all_nil, plain_wz]; rfl)) (by first | rfl | exact plain3_wz _ | (simp only [plain3, List.all_cons, List.all_nil, plain_wz]; rfl)) (Try.call23 _) (rRadius_x cx cy a b d )
set_option maxRecDepth 100000 in
theorem rHullY_x (cx cy a b d : Int) (hm : mayP cx cy a b d) (w : World) : Calls Try.prog 11 #[.agg #[.int .i64 cx, .int .i64 cy, .int .i64 a, .int .i64 b, .int .i64 d]] w fun e w' => e = .returned (.tuple #[.int .i64 (usq a.toNat : Nat), .int .i64 (usq d.toNat : Nat)]) ∧ Below w.heap.size w w' := by
  have ha := hm.2.1
  have hd := hm.2.2.1
  refine calls_pure (G := tys) w tysOK mixed Try.func11 (by rfl) (by first | rfl | (simp only [List.all_cons, List.all_nil, plain_wz]; rfl)) (by first | rfl | exact plain3_wz _ | (simp only [plain3, List.all_cons, List.all_nil, plain_wz]; rfl)) ?_
  repeat' (refine N.go ?_; first | with_reducible (first | refine N.obl (by decide) ?_ | refine N.obl (flat_wi _ _ _) ?_ | refine N.obl (flat_lim _ _) ?_ | refine N.eq ?_ | refine N.obl rfl ?_ | refine N.obl ⟨by kernel_rfl, by kernel_rfl⟩ ?_ | refine N.alt ?_ | refine N.forkT ?_ | refine N.forkF ?_ | refine N.call (cMayE _ _ _ _ _ _) ?_) | refine N.call (cRUp _ _ ⟨by omega, by omega⟩) ?_ | refine N.forkNo (by rw [decide_eq_true (by assumption)]; rfl) ?_ | refine N.forkYes (by rw [decide_eq_false (by assumption)]; rfl) ?_ | refine N.forkYes (decide_eq_true (by assumption)) ?_ | refine N.forkNo (decide_eq_false (by assumption)) ?_)
  all_goals rfl
theorem cRHullY (cx cy a b d : Int) (h : List (Option Chunk)) (hm : mayP cx cy a b d) : CallOK Try.prog 11 [.agg #[.int .i64 cx, .int .i64 cy, .int .i64 a, .int .i64 b, .int .i64 d]] h (.tuple #[.int .i64 (usq a.toNat : Nat), .int .i64 (usq d.toNat : Nat)]) [] [] :=
  call_pure (by first | rfl | (simp only [List.all_cons, List.all_nil, plain_wz]; rfl)) (by first | rfl | exact plain3_wz _ | (simp only [plain3, List.all_cons, List.all_nil, plain_wz]; rfl)) (Try.call11 _) (rHullY_x cx cy a b d hm)
set_option maxRecDepth 100000 in
theorem rHullN_x (cx cy a b d : Int) (hm : ¬ mayP cx cy a b d) (w : World) : Calls Try.prog 11 #[.agg #[.int .i64 cx, .int .i64 cy, .int .i64 a, .int .i64 b, .int .i64 d]] w fun e w' => e = .returned (.tuple #[.int .i64 0, .int .i64 0]) ∧ Below w.heap.size w w' := by
  refine calls_pure (G := tys) w tysOK mixed Try.func11 (by rfl) (by first | rfl | (simp only [List.all_cons, List.all_nil, plain_wz]; rfl)) (by first | rfl | exact plain3_wz _ | (simp only [plain3, List.all_cons, List.all_nil, plain_wz]; rfl)) ?_
  repeat' (refine N.go ?_; first | with_reducible (first | refine N.obl (by decide) ?_ | refine N.obl (flat_wi _ _ _) ?_ | refine N.obl (flat_lim _ _) ?_ | refine N.eq ?_ | refine N.obl rfl ?_ | refine N.obl ⟨by kernel_rfl, by kernel_rfl⟩ ?_ | refine N.alt ?_ | refine N.forkT ?_ | refine N.forkF ?_ | refine N.call (cMayE _ _ _ _ _ _) ?_) | refine N.forkNo (by rw [decide_eq_true (by assumption)]; rfl) ?_ | refine N.forkYes (by rw [decide_eq_false (by assumption)]; rfl) ?_ | refine N.forkYes (decide_eq_true (by assumption)) ?_ | refine N.forkNo (decide_eq_false (by assumption)) ?_)
  all_goals rfl
theorem cRHullN (cx cy a b d : Int) (h : List (Option Chunk)) (hm : ¬ mayP cx cy a b d) : CallOK Try.prog 11 [.agg #[.int .i64 cx, .int .i64 cy, .int .i64 a, .int .i64 b, .int .i64 d]] h (.tuple #[.int .i64 0, .int .i64 0]) [] [] :=
  call_pure (by first | rfl | (simp only [List.all_cons, List.all_nil, plain_wz]; rfl)) (by first | rfl | exact plain3_wz _ | (simp only [plain3, List.all_cons, List.all_nil, plain_wz]; rfl)) (Try.call11 _) (rHullN_x cx cy a b d hm)
set_option maxRecDepth 100000 in
theorem HullN_x (cx cy a b d : Int) (hm : ¬ mayP cx cy a b d) (w : World) : Calls Try.prog 10 #[.agg #[.int .i64 cx, .int .i64 cy, .int .i64 a, .int .i64 b, .int .i64 d]] w fun e w' => e = .returned (.tuple #[.int .i64 0, .int .i64 0]) ∧ Below w.heap.size w w' := by
  refine calls_pure (G := tys) w tysOK mixed Try.func10 (by rfl) (by first | rfl | (simp only [List.all_cons, List.all_nil, plain_wz]; rfl)) (by first | rfl | exact plain3_wz _ | (simp only [plain3, List.all_cons, List.all_nil, plain_wz]; rfl)) ?_
  repeat' (refine N.go ?_; first | with_reducible (first | refine N.obl (by decide) ?_ | refine N.obl (flat_wi _ _ _) ?_ | refine N.obl (flat_lim _ _) ?_ | refine N.eq ?_ | refine N.obl rfl ?_ | refine N.obl ⟨by kernel_rfl, by kernel_rfl⟩ ?_ | refine N.alt ?_ | refine N.forkT ?_ | refine N.forkF ?_ | refine N.call (cEMay _ _ _ _ _ _) ?_) | refine N.forkNo (by rw [decide_eq_true (by assumption)]; rfl) ?_ | refine N.forkYes (by rw [decide_eq_false (by assumption)]; rfl) ?_ | refine N.forkYes (decide_eq_true (by assumption)) ?_ | refine N.forkNo (decide_eq_false (by assumption)) ?_)
  all_goals rfl
theorem cHullN (cx cy a b d : Int) (h : List (Option Chunk)) (hm : ¬ mayP cx cy a b d) : CallOK Try.prog 10 [.agg #[.int .i64 cx, .int .i64 cy, .int .i64 a, .int .i64 b, .int .i64 d]] h (.tuple #[.int .i64 0, .int .i64 0]) [] [] :=
  call_pure (by first | rfl | (simp only [List.all_cons, List.all_nil, plain_wz]; rfl)) (by first | rfl | exact plain3_wz _ | (simp only [plain3, List.all_cons, List.all_nil, plain_wz]; rfl)) (Try.call10 _) (HullN_x cx cy a b d hm)
set_option maxRecDepth 100000 in
theorem rBallY_x (x y r : Int) (hw : withinP 4194304 x y) (hr0 : 1 ≤ r ∧ r ≤ 4194304) (w : World) : Calls Try.prog 5 #[.agg #[.int .i64 x, .int .i64 y], .int .i64 r] w fun e w' => e = .returned (.tuple #[.agg #[.int .i64 x, .int .i64 y, .int .i64 (r * r), .int .i64 0, .int .i64 (r * r)], .int .i64 0]) ∧ Below w.heap.size w w' := by
  have k1 := mulB (a := r) (b := r) (m := 4194304) (n := 4194304) (by omega) (by omega)
  have e1 := i64s (r * r) (by omega) (by omega)
  refine calls_pure (G := tys) w tysOK mixed Try.func5 (by rfl) (by first | rfl | (simp only [List.all_cons, List.all_nil, plain_wz]; rfl)) (by first | rfl | exact plain3_wz _ | (simp only [plain3, List.all_cons, List.all_nil, plain_wz]; rfl)) ?_
  repeat' (refine N.go ?_; first | with_reducible (first | refine N.obl (by decide) ?_ | refine N.obl (flat_wi _ _ _) ?_ | refine N.obl (flat_lim _ _) ?_ | refine N.eq ?_ | refine N.obl rfl ?_ | refine N.obl ⟨by kernel_rfl, by kernel_rfl⟩ ?_ | refine N.alt ?_ | refine N.forkT ?_ | refine N.forkF ?_ | refine N.call (cRMayPoint _ _ _) ?_) | refine N.forkNo (by rw [decide_eq_true (by assumption)]; rfl) ?_ | refine N.forkYes (by rw [decide_eq_false (by assumption)]; rfl) ?_ | refine N.forkYes (decide_eq_true (by assumption)) ?_ | refine N.forkNo (decide_eq_false (by assumption)) ?_ | refine N.forkNo (decide_eq_false (by omega)) ?_ | refine N.forkYes (decide_eq_true (by omega)) ?_)
  all_goals (rw [e1])
theorem cRBallY (x y r : Int) (h : List (Option Chunk)) (hw : withinP 4194304 x y) (hr0 : 1 ≤ r ∧ r ≤ 4194304) : CallOK Try.prog 5 [.agg #[.int .i64 x, .int .i64 y], .int .i64 r] h (.tuple #[.agg #[.int .i64 x, .int .i64 y, .int .i64 (r * r), .int .i64 0, .int .i64 (r * r)], .int .i64 0]) [] [] :=
  call_pure (by first | rfl | (simp only [List.all_cons, List.all_nil, plain_wz]; rfl)) (by first | rfl | exact plain3_wz _ | (simp only [plain3, List.all_cons, List.all_nil, plain_wz]; rfl)) (Try.call5 _) (rBallY_x x y r hw hr0)
set_option maxRecDepth 100000 in
theorem rBallN_x (x y r : Int) (hn : ¬ (withinP 4194304 x y ∧ (1 ≤ r ∧ r ≤ 4194304))) (w : World) : Calls Try.prog 5 #[.agg #[.int .i64 x, .int .i64 y], .int .i64 r] w fun e w' => e = .returned (.tuple #[.agg #[.int .i64 0, .int .i64 0, .int .i64 0, .int .i64 0, .int .i64 0], .int .i64 1]) ∧ Below w.heap.size w w' := by
  by_cases hc0 : withinP 4194304 x y
  rotate_left
  · skip
    refine calls_pure (G := tys) w tysOK mixed Try.func5 (by rfl) (by first | rfl | (simp only [List.all_cons, List.all_nil, plain_wz]; rfl)) (by first | rfl | exact plain3_wz _ | (simp only [plain3, List.all_cons, List.all_nil, plain_wz]; rfl)) ?_
    repeat' (refine N.go ?_; first | with_reducible (first | refine N.obl (by decide) ?_ | refine N.obl (flat_wi _ _ _) ?_ | refine N.obl (flat_lim _ _) ?_ | refine N.eq ?_ | refine N.obl rfl ?_ | refine N.obl ⟨by kernel_rfl, by kernel_rfl⟩ ?_ | refine N.alt ?_ | refine N.forkT ?_ | refine N.forkF ?_ | refine N.call (cRMayPoint _ _ _) ?_) | refine N.forkNo (by rw [decide_eq_true (by assumption)]; rfl) ?_ | refine N.forkYes (by rw [decide_eq_false (by assumption)]; rfl) ?_ | refine N.forkYes (decide_eq_true (by assumption)) ?_ | refine N.forkNo (decide_eq_false (by assumption)) ?_ | refine N.forkNo (decide_eq_false (by omega)) ?_ | refine N.forkYes (decide_eq_true (by omega)) ?_)
    all_goals rfl
  by_cases hc1 : 1 ≤ r
  rotate_left
  · skip
    refine calls_pure (G := tys) w tysOK mixed Try.func5 (by rfl) (by first | rfl | (simp only [List.all_cons, List.all_nil, plain_wz]; rfl)) (by first | rfl | exact plain3_wz _ | (simp only [plain3, List.all_cons, List.all_nil, plain_wz]; rfl)) ?_
    repeat' (refine N.go ?_; first | with_reducible (first | refine N.obl (by decide) ?_ | refine N.obl (flat_wi _ _ _) ?_ | refine N.obl (flat_lim _ _) ?_ | refine N.eq ?_ | refine N.obl rfl ?_ | refine N.obl ⟨by kernel_rfl, by kernel_rfl⟩ ?_ | refine N.alt ?_ | refine N.forkT ?_ | refine N.forkF ?_ | refine N.call (cRMayPoint _ _ _) ?_) | refine N.forkNo (by rw [decide_eq_true (by assumption)]; rfl) ?_ | refine N.forkYes (by rw [decide_eq_false (by assumption)]; rfl) ?_ | refine N.forkYes (decide_eq_true (by assumption)) ?_ | refine N.forkNo (decide_eq_false (by assumption)) ?_ | refine N.forkNo (decide_eq_false (by omega)) ?_ | refine N.forkYes (decide_eq_true (by omega)) ?_)
    all_goals rfl
  have hc2 : ¬ (r ≤ 4194304) := fun h => hn ⟨hc0, ⟨hc1, h⟩⟩
  refine calls_pure (G := tys) w tysOK mixed Try.func5 (by rfl) (by first | rfl | (simp only [List.all_cons, List.all_nil, plain_wz]; rfl)) (by first | rfl | exact plain3_wz _ | (simp only [plain3, List.all_cons, List.all_nil, plain_wz]; rfl)) ?_
  repeat' (refine N.go ?_; first | with_reducible (first | refine N.obl (by decide) ?_ | refine N.obl (flat_wi _ _ _) ?_ | refine N.obl (flat_lim _ _) ?_ | refine N.eq ?_ | refine N.obl rfl ?_ | refine N.obl ⟨by kernel_rfl, by kernel_rfl⟩ ?_ | refine N.alt ?_ | refine N.forkT ?_ | refine N.forkF ?_ | refine N.call (cRMayPoint _ _ _) ?_) | refine N.forkNo (by rw [decide_eq_true (by assumption)]; rfl) ?_ | refine N.forkYes (by rw [decide_eq_false (by assumption)]; rfl) ?_ | refine N.forkYes (decide_eq_true (by assumption)) ?_ | refine N.forkNo (decide_eq_false (by assumption)) ?_ | refine N.forkNo (decide_eq_false (by omega)) ?_ | refine N.forkYes (decide_eq_true (by omega)) ?_)
  all_goals rfl
theorem cRBallN (x y r : Int) (h : List (Option Chunk)) (hn : ¬ (withinP 4194304 x y ∧ (1 ≤ r ∧ r ≤ 4194304))) : CallOK Try.prog 5 [.agg #[.int .i64 x, .int .i64 y], .int .i64 r] h (.tuple #[.agg #[.int .i64 0, .int .i64 0, .int .i64 0, .int .i64 0, .int .i64 0], .int .i64 1]) [] [] :=
  call_pure (by first | rfl | (simp only [List.all_cons, List.all_nil, plain_wz]; rfl)) (by first | rfl | exact plain3_wz _ | (simp only [plain3, List.all_cons, List.all_nil, plain_wz]; rfl)) (Try.call5 _) (rBallN_x x y r hn)
set_option maxRecDepth 100000 in
theorem rBoxY_x (x y p q : Int) (hw : withinP 4194304 x y) (hr0 : 1 ≤ p ∧ p ≤ 4194304) (hr1 : 1 ≤ q ∧ q ≤ 4194304) (w : World) : Calls Try.prog 7 #[.agg #[.int .i64 x, .int .i64 y], .int .i64 p, .int .i64 q] w fun e w' => e = .returned (.tuple #[.agg #[.int .i64 x, .int .i64 y, .int .i64 (2 * p * p), .int .i64 0, .int .i64 (2 * q * q)], .int .i64 0]) ∧ Below w.heap.size w w' := by
  have k1 := mulB (a := 2 * p) (b := p) (m := 8388608) (n := 4194304) (by omega) (by omega)
  have k2 := mulB (a := 2 * q) (b := q) (m := 8388608) (n := 4194304) (by omega) (by omega)
  have e1 := i64s (2 * p) (by omega) (by omega)
  have e2 := i64s (2 * q) (by omega) (by omega)
  have e3 := i64s (2 * p * p) (by omega) (by omega)
  have e4 := i64s (2 * q * q) (by omega) (by omega)
  refine calls_pure (G := tys) w tysOK mixed Try.func7 (by rfl) (by first | rfl | (simp only [List.all_cons, List.all_nil, plain_wz]; rfl)) (by first | rfl | exact plain3_wz _ | (simp only [plain3, List.all_cons, List.all_nil, plain_wz]; rfl)) ?_
  repeat' (refine N.go ?_; first | with_reducible (first | refine N.obl (by decide) ?_ | refine N.obl (flat_wi _ _ _) ?_ | refine N.obl (flat_lim _ _) ?_ | refine N.eq ?_ | refine N.obl rfl ?_ | refine N.obl ⟨by kernel_rfl, by kernel_rfl⟩ ?_ | refine N.alt ?_ | refine N.forkT ?_ | refine N.forkF ?_ | refine N.call (cRMayPoint _ _ _) ?_) | refine N.forkNo (by rw [decide_eq_true (by assumption)]; rfl) ?_ | refine N.forkYes (by rw [decide_eq_false (by assumption)]; rfl) ?_ | refine N.forkYes (decide_eq_true (by assumption)) ?_ | refine N.forkNo (decide_eq_false (by assumption)) ?_ | refine N.forkNo (decide_eq_false (by omega)) ?_ | refine N.forkYes (decide_eq_true (by omega)) ?_)
  all_goals (rw [e1, e2, e3, e4])
theorem cRBoxY (x y p q : Int) (h : List (Option Chunk)) (hw : withinP 4194304 x y) (hr0 : 1 ≤ p ∧ p ≤ 4194304) (hr1 : 1 ≤ q ∧ q ≤ 4194304) : CallOK Try.prog 7 [.agg #[.int .i64 x, .int .i64 y], .int .i64 p, .int .i64 q] h (.tuple #[.agg #[.int .i64 x, .int .i64 y, .int .i64 (2 * p * p), .int .i64 0, .int .i64 (2 * q * q)], .int .i64 0]) [] [] :=
  call_pure (by first | rfl | (simp only [List.all_cons, List.all_nil, plain_wz]; rfl)) (by first | rfl | exact plain3_wz _ | (simp only [plain3, List.all_cons, List.all_nil, plain_wz]; rfl)) (Try.call7 _) (rBoxY_x x y p q hw hr0 hr1)
set_option maxRecDepth 100000 in
theorem rBoxN_x (x y p q : Int) (hn : ¬ (withinP 4194304 x y ∧ (1 ≤ p ∧ p ≤ 4194304) ∧ (1 ≤ q ∧ q ≤ 4194304))) (w : World) : Calls Try.prog 7 #[.agg #[.int .i64 x, .int .i64 y], .int .i64 p, .int .i64 q] w fun e w' => e = .returned (.tuple #[.agg #[.int .i64 0, .int .i64 0, .int .i64 0, .int .i64 0, .int .i64 0], .int .i64 1]) ∧ Below w.heap.size w w' := by
  by_cases hc0 : withinP 4194304 x y
  rotate_left
  · skip
    refine calls_pure (G := tys) w tysOK mixed Try.func7 (by rfl) (by first | rfl | (simp only [List.all_cons, List.all_nil, plain_wz]; rfl)) (by first | rfl | exact plain3_wz _ | (simp only [plain3, List.all_cons, List.all_nil, plain_wz]; rfl)) ?_
    repeat' (refine N.go ?_; first | with_reducible (first | refine N.obl (by decide) ?_ | refine N.obl (flat_wi _ _ _) ?_ | refine N.obl (flat_lim _ _) ?_ | refine N.eq ?_ | refine N.obl rfl ?_ | refine N.obl ⟨by kernel_rfl, by kernel_rfl⟩ ?_ | refine N.alt ?_ | refine N.forkT ?_ | refine N.forkF ?_ | refine N.call (cRMayPoint _ _ _) ?_) | refine N.forkNo (by rw [decide_eq_true (by assumption)]; rfl) ?_ | refine N.forkYes (by rw [decide_eq_false (by assumption)]; rfl) ?_ | refine N.forkYes (decide_eq_true (by assumption)) ?_ | refine N.forkNo (decide_eq_false (by assumption)) ?_ | refine N.forkNo (decide_eq_false (by omega)) ?_ | refine N.forkYes (decide_eq_true (by omega)) ?_)
    all_goals rfl
  by_cases hc1 : 1 ≤ p
  rotate_left
  · skip
    refine calls_pure (G := tys) w tysOK mixed Try.func7 (by rfl) (by first | rfl | (simp only [List.all_cons, List.all_nil, plain_wz]; rfl)) (by first | rfl | exact plain3_wz _ | (simp only [plain3, List.all_cons, List.all_nil, plain_wz]; rfl)) ?_
    repeat' (refine N.go ?_; first | with_reducible (first | refine N.obl (by decide) ?_ | refine N.obl (flat_wi _ _ _) ?_ | refine N.obl (flat_lim _ _) ?_ | refine N.eq ?_ | refine N.obl rfl ?_ | refine N.obl ⟨by kernel_rfl, by kernel_rfl⟩ ?_ | refine N.alt ?_ | refine N.forkT ?_ | refine N.forkF ?_ | refine N.call (cRMayPoint _ _ _) ?_) | refine N.forkNo (by rw [decide_eq_true (by assumption)]; rfl) ?_ | refine N.forkYes (by rw [decide_eq_false (by assumption)]; rfl) ?_ | refine N.forkYes (decide_eq_true (by assumption)) ?_ | refine N.forkNo (decide_eq_false (by assumption)) ?_ | refine N.forkNo (decide_eq_false (by omega)) ?_ | refine N.forkYes (decide_eq_true (by omega)) ?_)
    all_goals rfl
  by_cases hc2 : p ≤ 4194304
  rotate_left
  · skip
    refine calls_pure (G := tys) w tysOK mixed Try.func7 (by rfl) (by first | rfl | (simp only [List.all_cons, List.all_nil, plain_wz]; rfl)) (by first | rfl | exact plain3_wz _ | (simp only [plain3, List.all_cons, List.all_nil, plain_wz]; rfl)) ?_
    repeat' (refine N.go ?_; first | with_reducible (first | refine N.obl (by decide) ?_ | refine N.obl (flat_wi _ _ _) ?_ | refine N.obl (flat_lim _ _) ?_ | refine N.eq ?_ | refine N.obl rfl ?_ | refine N.obl ⟨by kernel_rfl, by kernel_rfl⟩ ?_ | refine N.alt ?_ | refine N.forkT ?_ | refine N.forkF ?_ | refine N.call (cRMayPoint _ _ _) ?_) | refine N.forkNo (by rw [decide_eq_true (by assumption)]; rfl) ?_ | refine N.forkYes (by rw [decide_eq_false (by assumption)]; rfl) ?_ | refine N.forkYes (decide_eq_true (by assumption)) ?_ | refine N.forkNo (decide_eq_false (by assumption)) ?_ | refine N.forkNo (decide_eq_false (by omega)) ?_ | refine N.forkYes (decide_eq_true (by omega)) ?_)
    all_goals rfl
  by_cases hc3 : 1 ≤ q
  rotate_left
  · skip
    refine calls_pure (G := tys) w tysOK mixed Try.func7 (by rfl) (by first | rfl | (simp only [List.all_cons, List.all_nil, plain_wz]; rfl)) (by first | rfl | exact plain3_wz _ | (simp only [plain3, List.all_cons, List.all_nil, plain_wz]; rfl)) ?_
    repeat' (refine N.go ?_; first | with_reducible (first | refine N.obl (by decide) ?_ | refine N.obl (flat_wi _ _ _) ?_ | refine N.obl (flat_lim _ _) ?_ | refine N.eq ?_ | refine N.obl rfl ?_ | refine N.obl ⟨by kernel_rfl, by kernel_rfl⟩ ?_ | refine N.alt ?_ | refine N.forkT ?_ | refine N.forkF ?_ | refine N.call (cRMayPoint _ _ _) ?_) | refine N.forkNo (by rw [decide_eq_true (by assumption)]; rfl) ?_ | refine N.forkYes (by rw [decide_eq_false (by assumption)]; rfl) ?_ | refine N.forkYes (decide_eq_true (by assumption)) ?_ | refine N.forkNo (decide_eq_false (by assumption)) ?_ | refine N.forkNo (decide_eq_false (by omega)) ?_ | refine N.forkYes (decide_eq_true (by omega)) ?_)
    all_goals rfl
  have hc4 : ¬ (q ≤ 4194304) := fun h => hn ⟨hc0, ⟨hc1, hc2⟩, ⟨hc3, h⟩⟩
  refine calls_pure (G := tys) w tysOK mixed Try.func7 (by rfl) (by first | rfl | (simp only [List.all_cons, List.all_nil, plain_wz]; rfl)) (by first | rfl | exact plain3_wz _ | (simp only [plain3, List.all_cons, List.all_nil, plain_wz]; rfl)) ?_
  repeat' (refine N.go ?_; first | with_reducible (first | refine N.obl (by decide) ?_ | refine N.obl (flat_wi _ _ _) ?_ | refine N.obl (flat_lim _ _) ?_ | refine N.eq ?_ | refine N.obl rfl ?_ | refine N.obl ⟨by kernel_rfl, by kernel_rfl⟩ ?_ | refine N.alt ?_ | refine N.forkT ?_ | refine N.forkF ?_ | refine N.call (cRMayPoint _ _ _) ?_) | refine N.forkNo (by rw [decide_eq_true (by assumption)]; rfl) ?_ | refine N.forkYes (by rw [decide_eq_false (by assumption)]; rfl) ?_ | refine N.forkYes (decide_eq_true (by assumption)) ?_ | refine N.forkNo (decide_eq_false (by assumption)) ?_ | refine N.forkNo (decide_eq_false (by omega)) ?_ | refine N.forkYes (decide_eq_true (by omega)) ?_)
  all_goals rfl
theorem cRBoxN (x y p q : Int) (h : List (Option Chunk)) (hn : ¬ (withinP 4194304 x y ∧ (1 ≤ p ∧ p ≤ 4194304) ∧ (1 ≤ q ∧ q ≤ 4194304))) : CallOK Try.prog 7 [.agg #[.int .i64 x, .int .i64 y], .int .i64 p, .int .i64 q] h (.tuple #[.agg #[.int .i64 0, .int .i64 0, .int .i64 0, .int .i64 0, .int .i64 0], .int .i64 1]) [] [] :=
  call_pure (by first | rfl | (simp only [List.all_cons, List.all_nil, plain_wz]; rfl)) (by first | rfl | exact plain3_wz _ | (simp only [plain3, List.all_cons, List.all_nil, plain_wz]; rfl)) (Try.call7 _) (rBoxN_x x y p q hn)
set_option maxRecDepth 100000 in
theorem cRMayPointz (x y x' y' : Int) (h : List (Option Chunk)) (e1 : x' = x) (e2 : y' = y) : CallOK Try.prog 15 [.agg #[.int .i64 x', .int .i64 y']] h (.bool (decide (withinP 4194304 x y))) [] [] := by
  subst e1 e2; exact cRMayPoint x' y' h
set_option maxRecDepth 100000 in
theorem rShiftY_x (cx cy a b d x y : Int) (hm : mayP cx cy a b d) (hw : withinP 4194304 x y) (hc : withinP 4194304 (cx + x) (cy + y)) (w : World) : Calls Try.prog 9 #[.agg #[.int .i64 cx, .int .i64 cy, .int .i64 a, .int .i64 b, .int .i64 d], .agg #[.int .i64 x, .int .i64 y]] w fun e w' => e = .returned (.tuple #[.agg #[.int .i64 (cx + x), .int .i64 (cy + y), .int .i64 a, .int .i64 b, .int .i64 d], .int .i64 0]) ∧ Below w.heap.size w w' := by
  obtain ⟨⟨c1, c2⟩, m1, m2, m3⟩ := may_b hm
  have hw1 := hw
  unfold withinP at hw1
  obtain ⟨w1, w2⟩ := hw1
  have e1 := i64s (cx + x) (by omega) (by omega)
  have e2 := i64s (cy + y) (by omega) (by omega)
  refine calls_pure (G := tys) w tysOK mixed Try.func9 (by rfl) (by first | rfl | (simp only [List.all_cons, List.all_nil, plain_wz]; rfl)) (by first | rfl | exact plain3_wz _ | (simp only [plain3, List.all_cons, List.all_nil, plain_wz]; rfl)) ?_
  repeat' (refine N.go ?_; first | with_reducible (first | refine N.obl (by decide) ?_ | refine N.obl (flat_wi _ _ _) ?_ | refine N.obl (flat_lim _ _) ?_ | refine N.eq ?_ | refine N.obl rfl ?_ | refine N.obl ⟨by kernel_rfl, by kernel_rfl⟩ ?_ | refine N.alt ?_ | refine N.forkT ?_ | refine N.forkF ?_ | refine N.call (cMayE _ _ _ _ _ _) ?_) | refine N.call (cRWithin _ _ (by decide) _) ?_ | refine N.call (cRMayPointz (cx + x) (cy + y) _ _ _ e1 e2) ?_ | refine N.forkNo (by rw [decide_eq_true (by assumption)]; rfl) ?_ | refine N.forkYes (by rw [decide_eq_false (by assumption)]; rfl) ?_ | refine N.forkYes (decide_eq_true (by assumption)) ?_ | refine N.forkNo (decide_eq_false (by assumption)) ?_)
  all_goals (rw [e1, e2])
theorem cRShiftY (cx cy a b d x y : Int) (h : List (Option Chunk)) (hm : mayP cx cy a b d) (hw : withinP 4194304 x y) (hc : withinP 4194304 (cx + x) (cy + y)) : CallOK Try.prog 9 [.agg #[.int .i64 cx, .int .i64 cy, .int .i64 a, .int .i64 b, .int .i64 d], .agg #[.int .i64 x, .int .i64 y]] h (.tuple #[.agg #[.int .i64 (cx + x), .int .i64 (cy + y), .int .i64 a, .int .i64 b, .int .i64 d], .int .i64 0]) [] [] :=
  call_pure (by first | rfl | (simp only [List.all_cons, List.all_nil, plain_wz]; rfl)) (by first | rfl | exact plain3_wz _ | (simp only [plain3, List.all_cons, List.all_nil, plain_wz]; rfl)) (Try.call9 _) (rShiftY_x cx cy a b d x y hm hw hc)
set_option maxRecDepth 100000 in
theorem rShiftO_x (cx cy a b d x y : Int) (hm : mayP cx cy a b d) (hw : withinP 4194304 x y) (hc : ¬ withinP 4194304 (cx + x) (cy + y)) (w : World) : Calls Try.prog 9 #[.agg #[.int .i64 cx, .int .i64 cy, .int .i64 a, .int .i64 b, .int .i64 d], .agg #[.int .i64 x, .int .i64 y]] w fun e w' => e = .returned (.tuple #[.agg #[.int .i64 0, .int .i64 0, .int .i64 0, .int .i64 0, .int .i64 0], .int .i64 2]) ∧ Below w.heap.size w w' := by
  obtain ⟨⟨c1, c2⟩, m1, m2, m3⟩ := may_b hm
  have hw1 := hw
  unfold withinP at hw1
  obtain ⟨w1, w2⟩ := hw1
  have e1 := i64s (cx + x) (by omega) (by omega)
  have e2 := i64s (cy + y) (by omega) (by omega)
  refine calls_pure (G := tys) w tysOK mixed Try.func9 (by rfl) (by first | rfl | (simp only [List.all_cons, List.all_nil, plain_wz]; rfl)) (by first | rfl | exact plain3_wz _ | (simp only [plain3, List.all_cons, List.all_nil, plain_wz]; rfl)) ?_
  repeat' (refine N.go ?_; first | with_reducible (first | refine N.obl (by decide) ?_ | refine N.obl (flat_wi _ _ _) ?_ | refine N.obl (flat_lim _ _) ?_ | refine N.eq ?_ | refine N.obl rfl ?_ | refine N.obl ⟨by kernel_rfl, by kernel_rfl⟩ ?_ | refine N.alt ?_ | refine N.forkT ?_ | refine N.forkF ?_ | refine N.call (cMayE _ _ _ _ _ _) ?_) | refine N.call (cRWithin _ _ (by decide) _) ?_ | refine N.call (cRMayPointz (cx + x) (cy + y) _ _ _ e1 e2) ?_ | refine N.forkNo (by rw [decide_eq_true (by assumption)]; rfl) ?_ | refine N.forkYes (by rw [decide_eq_false (by assumption)]; rfl) ?_ | refine N.forkYes (decide_eq_true (by assumption)) ?_ | refine N.forkNo (decide_eq_false (by assumption)) ?_)
  all_goals rfl
theorem cRShiftO (cx cy a b d x y : Int) (h : List (Option Chunk)) (hm : mayP cx cy a b d) (hw : withinP 4194304 x y) (hc : ¬ withinP 4194304 (cx + x) (cy + y)) : CallOK Try.prog 9 [.agg #[.int .i64 cx, .int .i64 cy, .int .i64 a, .int .i64 b, .int .i64 d], .agg #[.int .i64 x, .int .i64 y]] h (.tuple #[.agg #[.int .i64 0, .int .i64 0, .int .i64 0, .int .i64 0, .int .i64 0], .int .i64 2]) [] [] :=
  call_pure (by first | rfl | (simp only [List.all_cons, List.all_nil, plain_wz]; rfl)) (by first | rfl | exact plain3_wz _ | (simp only [plain3, List.all_cons, List.all_nil, plain_wz]; rfl)) (Try.call9 _) (rShiftO_x cx cy a b d x y hm hw hc)
set_option maxRecDepth 100000 in
theorem rShiftN_x (cx cy a b d x y : Int) (hn : ¬ (mayP cx cy a b d ∧ withinP 4194304 x y)) (w : World) : Calls Try.prog 9 #[.agg #[.int .i64 cx, .int .i64 cy, .int .i64 a, .int .i64 b, .int .i64 d], .agg #[.int .i64 x, .int .i64 y]] w fun e w' => e = .returned (.tuple #[.agg #[.int .i64 0, .int .i64 0, .int .i64 0, .int .i64 0, .int .i64 0], .int .i64 1]) ∧ Below w.heap.size w w' := by
  by_cases hm : mayP cx cy a b d
  · have hw : ¬ withinP 4194304 x y := fun h => hn ⟨hm, h⟩
    by_cases w1 : -4194304 ≤ x ∧ x ≤ 4194304
    · have w2 : ¬ (-4194304 ≤ y ∧ y ≤ 4194304) := fun h => hw ⟨w1, h⟩
      refine calls_pure (G := tys) w tysOK mixed Try.func9 (by rfl) (by first | rfl | (simp only [List.all_cons, List.all_nil, plain_wz]; rfl)) (by first | rfl | exact plain3_wz _ | (simp only [plain3, List.all_cons, List.all_nil, plain_wz]; rfl)) ?_
      repeat' (refine N.go ?_; first | with_reducible (first | refine N.obl (by decide) ?_ | refine N.obl (flat_wi _ _ _) ?_ | refine N.obl (flat_lim _ _) ?_ | refine N.eq ?_ | refine N.obl rfl ?_ | refine N.obl ⟨by kernel_rfl, by kernel_rfl⟩ ?_ | refine N.alt ?_ | refine N.forkT ?_ | refine N.forkF ?_ | refine N.call (cMayE _ _ _ _ _ _) ?_) | refine N.call (cRWithin _ _ (by decide) _) ?_ | refine N.forkNo (by rw [decide_eq_true (by assumption)]; rfl) ?_ | refine N.forkYes (by rw [decide_eq_false (by assumption)]; rfl) ?_ | refine N.forkYes (decide_eq_true (by assumption)) ?_ | refine N.forkNo (decide_eq_false (by assumption)) ?_)
      all_goals rfl
    · skip
      refine calls_pure (G := tys) w tysOK mixed Try.func9 (by rfl) (by first | rfl | (simp only [List.all_cons, List.all_nil, plain_wz]; rfl)) (by first | rfl | exact plain3_wz _ | (simp only [plain3, List.all_cons, List.all_nil, plain_wz]; rfl)) ?_
      repeat' (refine N.go ?_; first | with_reducible (first | refine N.obl (by decide) ?_ | refine N.obl (flat_wi _ _ _) ?_ | refine N.obl (flat_lim _ _) ?_ | refine N.eq ?_ | refine N.obl rfl ?_ | refine N.obl ⟨by kernel_rfl, by kernel_rfl⟩ ?_ | refine N.alt ?_ | refine N.forkT ?_ | refine N.forkF ?_ | refine N.call (cMayE _ _ _ _ _ _) ?_) | refine N.call (cRWithin _ _ (by decide) _) ?_ | refine N.forkNo (by rw [decide_eq_true (by assumption)]; rfl) ?_ | refine N.forkYes (by rw [decide_eq_false (by assumption)]; rfl) ?_ | refine N.forkYes (decide_eq_true (by assumption)) ?_ | refine N.forkNo (decide_eq_false (by assumption)) ?_)
      all_goals rfl
  · skip
    refine calls_pure (G := tys) w tysOK mixed Try.func9 (by rfl) (by first | rfl | (simp only [List.all_cons, List.all_nil, plain_wz]; rfl)) (by first | rfl | exact plain3_wz _ | (simp only [plain3, List.all_cons, List.all_nil, plain_wz]; rfl)) ?_
    repeat' (refine N.go ?_; first | with_reducible (first | refine N.obl (by decide) ?_ | refine N.obl (flat_wi _ _ _) ?_ | refine N.obl (flat_lim _ _) ?_ | refine N.eq ?_ | refine N.obl rfl ?_ | refine N.obl ⟨by kernel_rfl, by kernel_rfl⟩ ?_ | refine N.alt ?_ | refine N.forkT ?_ | refine N.forkF ?_ | refine N.call (cMayE _ _ _ _ _ _) ?_) | refine N.call (cRWithin _ _ (by decide) _) ?_ | refine N.forkNo (by rw [decide_eq_true (by assumption)]; rfl) ?_ | refine N.forkYes (by rw [decide_eq_false (by assumption)]; rfl) ?_ | refine N.forkYes (decide_eq_true (by assumption)) ?_ | refine N.forkNo (decide_eq_false (by assumption)) ?_)
    all_goals rfl
theorem cRShiftN (cx cy a b d x y : Int) (h : List (Option Chunk)) (hn : ¬ (mayP cx cy a b d ∧ withinP 4194304 x y)) : CallOK Try.prog 9 [.agg #[.int .i64 cx, .int .i64 cy, .int .i64 a, .int .i64 b, .int .i64 d], .agg #[.int .i64 x, .int .i64 y]] h (.tuple #[.agg #[.int .i64 0, .int .i64 0, .int .i64 0, .int .i64 0, .int .i64 0], .int .i64 1]) [] [] :=
  call_pure (by first | rfl | (simp only [List.all_cons, List.all_nil, plain_wz]; rfl)) (by first | rfl | exact plain3_wz _ | (simp only [plain3, List.all_cons, List.all_nil, plain_wz]; rfl)) (Try.call9 _) (rShiftN_x cx cy a b d x y hn)
set_option maxRecDepth 100000 in
theorem rAlongN_x (cx cy a b d x y : Int) (hn : ¬ (mayP cx cy a b d ∧ withinP 16777216 x y)) (w : World) : Calls Try.prog 13 #[.agg #[.int .i64 cx, .int .i64 cy, .int .i64 a, .int .i64 b, .int .i64 d], .agg #[.int .i64 x, .int .i64 y]] w fun e w' => e = .returned (.tuple #[.int .i64 0, .int .i64 1]) ∧ Below w.heap.size w w' := by
  by_cases hm : mayP cx cy a b d
  · have hw : ¬ withinP 16777216 x y := fun h => hn ⟨hm, h⟩
    by_cases w1 : -16777216 ≤ x ∧ x ≤ 16777216
    · have w2 : ¬ (-16777216 ≤ y ∧ y ≤ 16777216) := fun h => hw ⟨w1, h⟩
      refine calls_pure (G := tys) w tysOK mixed Try.func13 (by rfl) (by first | rfl | (simp only [List.all_cons, List.all_nil, plain_wz]; rfl)) (by first | rfl | exact plain3_wz _ | (simp only [plain3, List.all_cons, List.all_nil, plain_wz]; rfl)) ?_
      repeat' (refine N.go ?_; first | with_reducible (first | refine N.obl (by decide) ?_ | refine N.obl (flat_wi _ _ _) ?_ | refine N.obl (flat_lim _ _) ?_ | refine N.eq ?_ | refine N.obl rfl ?_ | refine N.obl ⟨by kernel_rfl, by kernel_rfl⟩ ?_ | refine N.alt ?_ | refine N.forkT ?_ | refine N.forkF ?_ | refine N.call (cMayE _ _ _ _ _ _) ?_) | refine N.call (cRWithin _ _ (by decide) _) ?_ | refine N.forkNo (by rw [decide_eq_true (by assumption)]; rfl) ?_ | refine N.forkYes (by rw [decide_eq_false (by assumption)]; rfl) ?_ | refine N.forkYes (decide_eq_true (by assumption)) ?_ | refine N.forkNo (decide_eq_false (by assumption)) ?_)
      all_goals rfl
    · skip
      refine calls_pure (G := tys) w tysOK mixed Try.func13 (by rfl) (by first | rfl | (simp only [List.all_cons, List.all_nil, plain_wz]; rfl)) (by first | rfl | exact plain3_wz _ | (simp only [plain3, List.all_cons, List.all_nil, plain_wz]; rfl)) ?_
      repeat' (refine N.go ?_; first | with_reducible (first | refine N.obl (by decide) ?_ | refine N.obl (flat_wi _ _ _) ?_ | refine N.obl (flat_lim _ _) ?_ | refine N.eq ?_ | refine N.obl rfl ?_ | refine N.obl ⟨by kernel_rfl, by kernel_rfl⟩ ?_ | refine N.alt ?_ | refine N.forkT ?_ | refine N.forkF ?_ | refine N.call (cMayE _ _ _ _ _ _) ?_) | refine N.call (cRWithin _ _ (by decide) _) ?_ | refine N.forkNo (by rw [decide_eq_true (by assumption)]; rfl) ?_ | refine N.forkYes (by rw [decide_eq_false (by assumption)]; rfl) ?_ | refine N.forkYes (decide_eq_true (by assumption)) ?_ | refine N.forkNo (decide_eq_false (by assumption)) ?_)
      all_goals rfl
  · skip
    refine calls_pure (G := tys) w tysOK mixed Try.func13 (by rfl) (by first | rfl | (simp only [List.all_cons, List.all_nil, plain_wz]; rfl)) (by first | rfl | exact plain3_wz _ | (simp only [plain3, List.all_cons, List.all_nil, plain_wz]; rfl)) ?_
    repeat' (refine N.go ?_; first | with_reducible (first | refine N.obl (by decide) ?_ | refine N.obl (flat_wi _ _ _) ?_ | refine N.obl (flat_lim _ _) ?_ | refine N.eq ?_ | refine N.obl rfl ?_ | refine N.obl ⟨by kernel_rfl, by kernel_rfl⟩ ?_ | refine N.alt ?_ | refine N.forkT ?_ | refine N.forkF ?_ | refine N.call (cMayE _ _ _ _ _ _) ?_) | refine N.call (cRWithin _ _ (by decide) _) ?_ | refine N.forkNo (by rw [decide_eq_true (by assumption)]; rfl) ?_ | refine N.forkYes (by rw [decide_eq_false (by assumption)]; rfl) ?_ | refine N.forkYes (decide_eq_true (by assumption)) ?_ | refine N.forkNo (decide_eq_false (by assumption)) ?_)
    all_goals rfl
theorem cRAlongN (cx cy a b d x y : Int) (h : List (Option Chunk)) (hn : ¬ (mayP cx cy a b d ∧ withinP 16777216 x y)) : CallOK Try.prog 13 [.agg #[.int .i64 cx, .int .i64 cy, .int .i64 a, .int .i64 b, .int .i64 d], .agg #[.int .i64 x, .int .i64 y]] h (.tuple #[.int .i64 0, .int .i64 1]) [] [] :=
  call_pure (by first | rfl | (simp only [List.all_cons, List.all_nil, plain_wz]; rfl)) (by first | rfl | exact plain3_wz _ | (simp only [plain3, List.all_cons, List.all_nil, plain_wz]; rfl)) (Try.call13 _) (rAlongN_x cx cy a b d x y hn)
end Go.Proofs.Ytchfbblpflcniaa


/-
  The document's WideUp of nothing, and Along.
-/
set_option linter.unusedVariables false
set_option linter.unusedSimpArgs false
namespace Go.Proofs.Ytchfbblpflcniaa
open Go Go.RowKit Sx

theorem srcs_of {h : List (Option Chunk)} {L : List Nm} {sv : Value} {v u : Nat} (s : SrcS h L sv v) (e : v = u) : SrcS h L sv u := by subst e; exact s
set_option maxRecDepth 100000 in
set_option maxHeartbeats 2000000 in
theorem cTimesNil (K : Nat) (h : List (Option Chunk)) (h0 : h[K]? = some none) : CallOK Try.prog 82 [.slice none 0 0, .slice none 0 0] h (.slice (some ⟨K, 0, some 0⟩) 0 0) [(K, zC)] [] := by
  refine call_res (G := tys) (fun _ : Unit => True) (fun _ => partH []) [] [⟨K, 8, zC⟩] [.slice none 0 0, .slice none 0 0] tysOK mixed Try.func82 (by rfl) (Try.call82) trivial trivial (by simp [Apart]) trivial ⟨⟨h0, rfl, .inr zX_selfish, by simp⟩, trivial⟩ ⟨.plain rfl, .plain rfl, trivial⟩ Opens.same (fun _ _ => ?_)
  repeat' (refine N.go ?_; first | with_reducible (first | refine N.obl (by decide) ?_ | refine N.obl (flat_wi _ _ _) ?_ | refine N.obl (flat_lim _ _) ?_ | refine N.eq ?_ | refine N.obl rfl ?_ | refine N.obl ⟨by kernel_rfl, by kernel_rfl⟩ ?_ | refine N.alt ?_ | refine N.forkT ?_ | refine N.forkF ?_) | refine N.mk (.inr ⟨by rfl, by rfl, ?_⟩) | refine N.roll 1 ?_ | refine N.forkNo (by rfl) ?_ | refine N.forkNo (by decide) ?_ | refine N.call (cTrim 0 0 0 _ _ _ (by rfl) zc_num (Nat.le_refl _) (by omega) (by rw [bw_zero]; decide)) ?_ | refine N.endSame ?_ | refine N.obl (re_sl (by rfl) (by rw [nl_zero])) ?_ | refine N.obl ⟨⟨Nat.zero_le _, post_z (by rfl)⟩, trivial⟩ ?_ | refine N.obl ⟨trivial, ⟨.inr ⟨_, by rfl, rfl⟩, trivial⟩⟩ ?_ | refine N.obl ⟨trivial, trivial⟩ ?_ | refine N.obl trivial ?_ | exact N.true | fail)
theorem wTimesNil (w : World) (xs : List Value) (hx : All2 (AR w) [.pl (.slice none 0 0), .pl (.slice none 0 0)] xs) : Mk Try.prog 82 xs w 0 Nm.sl := by
  obtain ⟨rfl⟩ : xs = [.slice none 0 0, .slice none 0 0] := by
    rcases xs with _ | ⟨u, _ | ⟨v, _ | ⟨z, xs⟩⟩⟩ <;> first | exact hx.elim | exact hx.2.elim | exact hx.2.2.elim | skip
    obtain ⟨h1, h2, _⟩ := hx
    cases h1; cases h2; rfl
  exact num_new0 (V := fun K => .slice (some ⟨K, 0, some 0⟩) 0 0) (es := []) (Try.call82) (fun e he => by cases he) (vs := [.slice none 0 0, .slice none 0 0]) (xs := [.slice none 0 0, .slice none 0 0]) ⟨.pl rfl, .pl rfl, trivial⟩ Nm.sl (fun r => by show _ = Value.slice _ (nl 0) 0; rw [nl_zero]; rfl) (cTimesNil 0 _ rfl)
set_option maxRecDepth 100000 in
set_option maxHeartbeats 2000000 in
theorem wMulNil (w : World) (xs : List Value) (hx : All2 (AR w) [.pl (.agg #[.bool false, .bool false, .slice none 0 0]), .pl (.agg #[.bool false, .bool false, .slice none 0 0])] xs) : Mk Try.prog 50 xs w 0 (fun κ => .agg #[.bool false, .bool false, .slice (some ⟨κ.b, κ.o, none⟩) (nl κ.v) κ.c]) := by
  obtain ⟨rfl⟩ : xs = [.agg #[.bool false, .bool false, .slice none 0 0], .agg #[.bool false, .bool false, .slice none 0 0]] := by
    rcases xs with _ | ⟨u, _ | ⟨v, _ | ⟨z, xs⟩⟩⟩ <;> first | exact hx.elim | exact hx.2.elim | exact hx.2.2.elim | skip
    obtain ⟨h1, h2, _⟩ := hx
    cases h1; cases h2; rfl
  refine calls_nums (es := []) (vs := [.agg #[.bool false, .bool false, .slice none 0 0], .agg #[.bool false, .bool false, .slice none 0 0]]) (xs := [.agg #[.bool false, .bool false, .slice none 0 0], .agg #[.bool false, .bool false, .slice none 0 0]]) w tysOK mixed Try.func50 (by rfl) (fun e he => by cases he) ⟨.pl rfl, .pl rfl, trivial⟩ (fun _ => rfl) ?_
  repeat' (refine N.go ?_; first | with_reducible (first | refine N.obl (by decide) ?_ | refine N.obl (flat_wi _ _ _) ?_ | refine N.obl (flat_lim _ _) ?_ | refine N.eq ?_ | refine N.obl rfl ?_ | refine N.obl ⟨by kernel_rfl, by kernel_rfl⟩ ?_ | refine N.forkT ?_ | refine N.forkF ?_) | refine N.forkNo (by decide) ?_ | refine N.forkYes (by decide) ?_ | fail)
  refine N.go ?_
  refine N.altP ?_
  refine N.go ?_
  refine N.plan [0, 1, 2, 3, 4, 5, 6, 7, 8] [(9, [10, 11])] (by kernel_rfl) ?_
  repeat' (refine N.go ?_; first | with_reducible (first | refine N.obl (by decide) ?_ | refine N.obl (flat_wi _ _ _) ?_ | refine N.obl (flat_lim _ _) ?_ | refine N.eq ?_ | refine N.obl rfl ?_ | refine N.obl ⟨by kernel_rfl, by kernel_rfl⟩ ?_ | refine N.forkT ?_ | refine N.forkF ?_) | refine N.forkNo (by decide) ?_ | refine N.forkYes (by decide) ?_ | fail)
  refine N.go ?_
  refine N_callM [3] _ (by kernel_rfl) (fun h₂ hh => mk_arN 3 ((hh 3 (by simp)).trans rfl) (0) Nm.sl (Try.call82) (qs := [.pl (.slice none 0 0), .pl (.slice none 0 0)]) ⟨.pl rfl, .pl rfl, trivial⟩ (fun _ => rfl) (wTimesNil)) fun v ms hR => ?_
  obtain ⟨κ, hκ, rfl, rfl⟩ := hR
  refine ⟨by simp, ?_⟩
  repeat' (refine N.go ?_; first | with_reducible (first | refine N.obl (by decide) ?_ | refine N.obl (flat_wi _ _ _) ?_ | refine N.obl (flat_lim _ _) ?_ | refine N.eq ?_ | refine N.obl rfl ?_ | refine N.obl ⟨by kernel_rfl, by kernel_rfl⟩ ?_ | refine N.forkT ?_ | refine N.forkF ?_) | refine N.call (cAMade _ κ 3 (by rfl) (List.mem_singleton.2 rfl)) ?_ | refine N.obl (by show endB _ _ = Bool.true; kernel_rfl) ?_ | refine N.endM κ 3 hκ rfl (by rfl) (List.mem_singleton.2 rfl) | refine N.forkNo (by decide) ?_ | refine N.forkYes (by decide) ?_ | fail)
set_option maxRecDepth 100000 in
set_option maxHeartbeats 2000000 in
theorem i64nilQ (w : World) : Calls Try.prog 53 #[.agg #[.bool false, .bool false, .slice none 0 0]] w fun e w' => e = .returned (.tuple #[.int .i64 0, .bool true]) ∧ Below w.heap.size w w' := by
  refine calls_pure (G := tys) w tysOK mixed Try.func53 (by rfl) (by rfl) (by rfl) ?_
  repeat' (refine N.go ?_; first | with_reducible (first | refine N.obl (by decide) ?_ | refine N.obl (flat_wi _ _ _) ?_ | refine N.obl (flat_lim _ _) ?_ | refine N.eq ?_ | refine N.obl rfl ?_ | refine N.obl ⟨by kernel_rfl, by kernel_rfl⟩ ?_ | refine N.alt ?_ | refine N.forkT ?_ | refine N.forkF ?_) | refine N.roll 1 ?_ | refine N.forkNo (by decide) ?_ | refine N.forkYes (by decide) ?_ | fail)
  all_goals rfl
theorem ci64nil (h : List (Option Chunk)) : CallOK Try.prog 53 [.agg #[.bool false, .bool false, .slice none 0 0]] h (.tuple #[.int .i64 0, .bool true]) [] [] := call_pure rfl rfl (Try.call53 _) i64nilQ
set_option maxRecDepth 100000 in
set_option maxHeartbeats 2000000 in
theorem wSqrt0 (w : World) (xs : List Value) (hx : All2 (AR w) [.big false 0] xs) : Calls Try.prog 48 ⟨xs⟩ w fun e w' => e = .returned (.tuple #[.agg #[.bool false, .bool false, .slice none 0 0], .int .i64 0]) ∧ Below w.heap.size w w' := by
  obtain ⟨e, rfl, h1, v1⟩ := ar_big1 hx
  have hn : nl e.v = 0 := by rw [v1]; exact nl_zero
  refine calls_numsP (es := [e]) (vs := [.agg #[.bool false, .bool false, .slice (some ⟨0, 0, some 0⟩) (nl e.v) e.c]]) (xs := [e.big false]) w tysOK mixed Try.func48 (by rfl) (one_at h1) ⟨.big rfl, trivial⟩ rfl ?_
  repeat' (refine N.go ?_; first | with_reducible (first | refine N.obl (by decide) ?_ | refine N.obl (flat_wi _ _ _) ?_ | refine N.obl (flat_lim _ _) ?_ | refine N.eq ?_ | refine N.obl rfl ?_ | refine N.obl ⟨by kernel_rfl, by kernel_rfl⟩ ?_ | refine N.forkT ?_ | refine N.forkF ?_) | refine N.forkYes (by rw [hn]; rfl) ?_ | refine N.forkNo (by decide) ?_ | refine N.forkYes (by decide) ?_ | fail)
  all_goals rfl
theorem cSqrt0 (rh : List Nat) {sv : Value} {h : List (Option Chunk)} (hs : ∀ h₂ : List (Option Chunk), (∀ i ∈ rh, h₂[i]? = h[i]?) → SrcS h₂ [] sv 0) :
    CallOK Try.prog 48 [.agg #[.bool false, .bool false, sv]] h (.tuple #[.agg #[.bool false, .bool false, .slice none 0 0], .int .i64 0]) [] rh :=
  call_arP (qs := [.big false 0]) (L := []) rh 0 (.inr rfl) (.inr rfl) (Try.call48) (fun h₂ hh => ⟨.big (hs h₂ hh), trivial⟩) rfl fun w xs hx => wSqrt0 w xs hx
set_option maxRecDepth 100000 in
set_option maxHeartbeats 2000000 in
theorem wWideUp0 (w : World) (xs : List Value) (hx : All2 (AR w) [.big false 0] xs) : Calls Try.prog 32 ⟨xs⟩ w fun e w' => e = .returned (.tuple #[.int .i64 0, .int .i64 0]) ∧ Below w.heap.size w w' := by
  obtain ⟨e, rfl, h1, v1⟩ := ar_big1 hx
  refine calls_numsP (es := [e]) (vs := [.agg #[.bool false, .bool false, .slice (some ⟨0, 0, some 0⟩) (nl e.v) e.c]]) (xs := [e.big false]) w tysOK mixed Try.func32 (by rfl) (one_at h1) ⟨.big rfl, trivial⟩ rfl ?_
  repeat' (refine N.go ?_; first | with_reducible (first | refine N.obl (by decide) ?_ | refine N.obl (flat_wi _ _ _) ?_ | refine N.obl (flat_lim _ _) ?_ | refine N.eq ?_ | refine N.obl rfl ?_ | refine N.obl ⟨by kernel_rfl, by kernel_rfl⟩ ?_ | refine N.forkT ?_ | refine N.forkF ?_) | refine N.call (cSqrt0 [0] (fun h₂ hh => srcs_of (.ch ((hh 0 (by simp)).trans rfl) (isNum _ _ _) h1.len h1.cap) v1)) ?_ | refine N.forkNo (by decide) ?_ | refine N.forkYes (by decide) ?_ | fail)
  refine N.go ?_
  refine N.altP ?_
  refine N.go ?_
  refine N.plan [0, 1, 3] [(2, [4, 5, 6, 7, 8, 9])] (by kernel_rfl) ?_
  repeat' (refine N.go ?_; first | with_reducible (first | refine N.obl (by decide) ?_ | refine N.obl (flat_wi _ _ _) ?_ | refine N.obl (flat_lim _ _) ?_ | refine N.eq ?_ | refine N.obl rfl ?_ | refine N.obl ⟨by kernel_rfl, by kernel_rfl⟩ ?_ | refine N.forkT ?_ | refine N.forkF ?_) | refine N.forkNo (by decide) ?_ | refine N.forkYes (by decide) ?_ | fail)
  refine N.go ?_
  refine N_callM [4] _ (by kernel_rfl) (fun h₂ hh => mk_arN 4 ((hh 4 (by simp)).trans rfl) (0) (fun κ => .agg #[.bool false, .bool false, .slice (some ⟨κ.b, κ.o, none⟩) (nl κ.v) κ.c]) (Try.call50) (qs := [.pl (.agg #[.bool false, .bool false, .slice none 0 0]), .pl (.agg #[.bool false, .bool false, .slice none 0 0])]) ⟨.pl rfl, .pl rfl, trivial⟩ (fun _ => rfl) (wMulNil)) fun v ms hR => ?_
  obtain ⟨κ2, hκ2, rfl, rfl⟩ := hR
  refine ⟨by simp, ?_⟩
  repeat' (refine N.go ?_; first | with_reducible (first | refine N.obl (by decide) ?_ | refine N.obl (flat_wi _ _ _) ?_ | refine N.obl (flat_lim _ _) ?_ | refine N.eq ?_ | refine N.obl rfl ?_ | refine N.obl ⟨by kernel_rfl, by kernel_rfl⟩ ?_ | refine N.forkT ?_ | refine N.forkF ?_) | refine N.call (cRCmp κ2.v e.v [0, 4] 4 (.inl (by rfl)) (.inl (by simp)) (fun h₂ hh => ⟨.ar (by simp), .ch ((hh 0 (by simp)).trans rfl) (isNum _ _ _) h1.len h1.cap⟩)) ?_ | refine N.obl (by show endB _ _ = Bool.true; kernel_rfl) ?_ | refine N.forkNo (by decide) ?_ | refine N.forkYes (by decide) ?_ | fail)
  refine N.go ?_
  refine N.forkNo (decide_eq_false (by show ¬ sgnI _ < 0; rw [hκ2, v1]; decide)) ?_
  repeat' (refine N.go ?_; first | with_reducible (first | refine N.obl (by decide) ?_ | refine N.obl (flat_wi _ _ _) ?_ | refine N.obl (flat_lim _ _) ?_ | refine N.eq ?_ | refine N.obl rfl ?_ | refine N.obl ⟨by kernel_rfl, by kernel_rfl⟩ ?_ | refine N.forkT ?_ | refine N.forkF ?_) | refine N.call (ci64nil _) ?_ | refine N.forkNo (by decide) ?_ | refine N.forkYes (by decide) ?_ | fail)
  all_goals rfl
theorem cWideUpQ (q : Int) (hq : 0 ≤ q ∧ q < 1267650600228229401496703205376) (κ : Nm) (hκv : κ.v = q.natAbs) (i : Nat) {L : List Nm} {h : List (Option Chunk)} (hi : h[i]? = some (some (arC L))) (hκ : κ ∈ L) :
    CallOK Try.prog 32 [.agg #[.bool (decide (q < 0)), .bool false, .slice (some ⟨κ.b, κ.o, none⟩) (nl κ.v) κ.c]] h (.tuple #[.int .i64 ((usq q.toNat : Nat) : Int), .int .i64 0]) [] [i] := by
  rw [decide_eq_false (by omega : ¬ q < 0)]
  refine call_arP (qs := [.big false κ.v]) [i] i (.inl hi) (.inl (List.mem_singleton.2 rfl)) (Try.call32) (fun _ _ => ⟨.big (.ar hκ), trivial⟩) rfl fun w xs hx => ?_
  have e1 : q.toNat = κ.v := by omega
  rw [e1]
  rcases Nat.eq_zero_or_pos κ.v with h0 | hp
  · rw [h0] at hx ⊢
    have hu : usq 0 = 0 := by decide
    rw [hu]
    exact wWideUp0 w xs hx
  · exact wWideUp κ.v ⟨hp, by omega⟩ w xs hx
set_option maxRecDepth 100000 in
theorem rAlongY_x (cx cy a b d x y : Int) (hm : mayP cx cy a b d) (hw : withinP 16777216 x y) (w : World) : Calls Try.prog 13 #[.agg #[.int .i64 cx, .int .i64 cy, .int .i64 a, .int .i64 b, .int .i64 d], .agg #[.int .i64 x, .int .i64 y]] w fun e w' => e = .returned (.tuple #[.int .i64 (alongN a b d x y : Nat), .int .i64 0]) ∧ Below w.heap.size w w' := by
  obtain ⟨_, m1, m2, m3⟩ := may_b hm
  have hw1 := hw
  unfold withinP at hw1
  obtain ⟨w1, w2⟩ := hw1
  have hm1 := hm
  unfold mayP at hm1
  have q1 := quad_nn (x := x) (y := y) hm1.2.1.1 (Int.le_of_lt hm1.2.2.2.2)
  have q2 := quad_B (x := x) (y := y) m1 m2 m3 (by omega) (by omega)
  refine calls_pure (G := tys) w tysOK mixed Try.func13 (by rfl) (by first | rfl | (simp only [List.all_cons, List.all_nil, plain_wz]; rfl)) (by first | rfl | exact plain3_wz _ | (simp only [plain3, List.all_cons, List.all_nil, plain_wz]; rfl)) ?_
  repeat' (refine N.go ?_; first | with_reducible (first | refine N.obl (by decide) ?_ | refine N.obl (flat_wi _ _ _) ?_ | refine N.obl (flat_lim _ _) ?_ | refine N.eq ?_ | refine N.obl rfl ?_ | refine N.obl ⟨by kernel_rfl, by kernel_rfl⟩ ?_ | refine N.alt ?_ | refine N.forkT ?_ | refine N.forkF ?_ | refine N.call (cMayE _ _ _ _ _ _) ?_) | refine N.call (cRWithin _ _ (by decide) _) ?_ | refine N.forkNo (by rw [decide_eq_true (by assumption)]; rfl) ?_ | refine N.forkYes (by rw [decide_eq_false (by assumption)]; rfl) ?_ | refine N.forkYes (decide_eq_true (by assumption)) ?_ | refine N.forkNo (decide_eq_false (by assumption)) ?_)
  refine N.go ?_
  refine N.callAll (mk_arN 4 (by rfl) ((quadZ a b d x y).natAbs) (bzW (quadZ a b d x y)) (Try.call33) (qs := [.pl (.agg #[.int .i64 a, .int .i64 b, .int .i64 d]), .pl (.agg #[.int .i64 x, .int .i64 y])]) ⟨.pl rfl, .pl rfl, trivial⟩ (fun _ => rfl) (wQuad a b d x y m1 m2 m3 (by omega) (by omega))) fun v ms hR => ?_
  obtain ⟨κ, hκ, rfl, rfl⟩ := hR
  repeat' (refine N.go ?_; first | with_reducible (first | refine N.obl (by decide) ?_ | refine N.obl (flat_wi _ _ _) ?_ | refine N.obl (flat_lim _ _) ?_ | refine N.eq ?_ | refine N.obl rfl ?_ | refine N.obl ⟨by kernel_rfl, by kernel_rfl⟩ ?_ | refine N.alt ?_ | refine N.forkT ?_ | refine N.forkF ?_) | refine N.call (cWideUpQ (quadZ a b d x y) ⟨q1, by omega⟩ κ hκ 4 (by rfl) (List.mem_singleton.2 rfl)) ?_ | refine N.forkNo (by rw [decide_eq_true (by assumption)]; rfl) ?_ | refine N.forkYes (by rw [decide_eq_false (by assumption)]; rfl) ?_ | refine N.forkYes (decide_eq_true (by assumption)) ?_ | refine N.forkNo (decide_eq_false (by assumption)) ?_)
  all_goals rfl
theorem cRAlongY (cx cy a b d x y : Int) (h : List (Option Chunk)) (hm : mayP cx cy a b d) (hw : withinP 16777216 x y) : CallOK Try.prog 13 [.agg #[.int .i64 cx, .int .i64 cy, .int .i64 a, .int .i64 b, .int .i64 d], .agg #[.int .i64 x, .int .i64 y]] h (.tuple #[.int .i64 (alongN a b d x y : Nat), .int .i64 0]) [] [] :=
  call_pure (by first | rfl | (simp only [List.all_cons, List.all_nil, plain_wz]; rfl)) (by first | rfl | exact plain3_wz _ | (simp only [plain3, List.all_cons, List.all_nil, plain_wz]; rfl)) (Try.call13 _) (rAlongY_x cx cy a b d x y hm hw)
end Go.Proofs.Ytchfbblpflcniaa
