/-
  The walk of Evict.
-/
import Derived.Test.YtpafcfelaaibgaaTbl10
set_option linter.unusedVariables false
set_option linter.unusedSimpArgs false
namespace Go.Proofs.Ytpafcfelaaibgaa
open Go Go.RowKit Sx

def ricell (x : Int) : Nat → Value
  | _ => .int .i64 x
theorem ricell_plain (x : Int) (k : Nat) : plain1 (ricell x k) = true := by unfold ricell; split <;> rfl
theorem ricell_in (x : Int) {k : Nat} (h : k < 1) : cellIn (.agg #[.int .i64 x]) k = ricell x k := by
  match k, h with
  | 0, _ => rfl
theorem ricell_zero (j : Nat) : repZ 1 (.agg #[.int .i64 0]) j = ricell (0) (j % 1) := by
  unfold repZ
  have h : j % 1 < 1 := Nat.mod_lt _ (by decide)
  generalize j % 1 = k at h
  match k, h with
  | 0, _ => rfl

/-- Elements, with room. -/
abbrev riC (o : Bool) (c : Nat) (T : Nat → Int) : Chunk := ⟨o, c * 1, [(0, c * 1, .agg ⟨segL (c * 1) (fun j => ricell (T (j / 1)) (j % 1))⟩)]⟩
theorem riC_f {o : Bool} {c j : Nat} {T : Nat → Int} (h : j < c * 1) : (riC o c T).f j = ricell (T (j / 1)) (j % 1) := seg_cell h
theorem riC_re {ix : List (Nat × Nat)} {o o' : Bool} {c : Nat} {T T' : Nat → Int} (h : ∀ i, i < c → T i = T' i) : ChunkRe ix (riC o c T) (riC o' c T') := fun j hj => by
  have hj : j < c * 1 := hj
  rw [seg_cell hj, seg_cell hj, h (j / 1) (by omega)]; exact .plain (ricell_plain _ _)
theorem riC_post {ix : List (Nat × Nat)} {c : Nat} {T T' : Nat → Int} {hp : List (Option Chunk)} {n : Nat} (h : ∀ i, i < c → T i = T' i) (hh : hp[n]? = some (some (riC true c T'))) : PostC ix hp n (riC true c T) := ⟨_, hh, id, Nat.le_refl _, riC_re h⟩
theorem riC_ren {ix : List (Nat × Nat)} {c : Nat} {T T' : Nat → Int} (h : ∀ i, i < c → T i = T' i) : ChunkReLe ix (riC true c T) (riC true c T') := ⟨id, Nat.le_refl _, riC_re h⟩
theorem rd_ri {o : Bool} {c p n : Nat} {T : Nat → Int} (i : Nat) (hn : n = 1) (h : i < c) (e : p = i * 1) : Reads (riC o c T) p true n (.agg #[.int .i64 (T i)]) := by
  subst e hn
  refine ⟨by show i * 1 + 1 ≤ c * 1; omega, _, rfl, rfl, fun j hj => ?_⟩
  rw [seg_cell (by omega), show (i * 1 + j) / 1 = i from by omega, show (i * 1 + j) % 1 = j from by omega]
  exact (ricell_in _ hj).symm
def setri (T : Nat → Int) (l : Nat) (x : Int) (i : Nat) : Int := if i = l then x else T i
theorem wr_ri {c l p : Nat} {T : Nat → Int} {x : Int} (h : l < c) (e : p = l * 1) : Writes (riC true c T) p (1 * 1) (.agg #[.int .i64 x]) (riC true c (setri T l x)) := by
  subst e
  refine ⟨rfl, by show l * 1 + 1 * 1 ≤ c * 1; omega, rfl, fun j hj => ?_⟩
  have hj : j < c * 1 := hj
  rw [seg_cell hj, seg_cell hj]
  unfold setri
  by_cases e : l * 1 ≤ j ∧ j < l * 1 + 1 * 1
  · rw [if_pos e, if_pos (by omega), ricell_in _ (by omega)]
    congr 1; omega
  · rw [if_neg e, if_neg (by omega)]
def growri (T : Nat → Int) (l : Nat) (x : Int) (i : Nat) : Int := if i < l then T i else if i = l then x else 0
theorem grown_ri {ci : Chunk} {l cap : Nat} {T : Nat → Int} {x : Int} (h : l < cap) (hc : ∀ j, j < l * 1 → ci.f j = ricell (T (j / 1)) (j % 1)) {j : Nat} (hj : j < cap * 1) : (grown ci l 1 1 (.agg #[.int .i64 x]) (.agg #[.int .i64 0]) cap).f j = ricell (growri T l x (j / 1)) (j % 1) := by
  unfold growri
  by_cases h1 : j < l * 1
  · rw [grown_old h1, if_pos (by omega)]; exact hc j h1
  · rw [if_neg (by omega)]
    by_cases h2 : j < (l + 1) * 1
    · have := grown_new (ci := ci) (l := l) (m := 1) (size := 1) (cap := cap) (v := .agg #[.int .i64 x]) (z := .agg #[.int .i64 0]) (j := j - l * 1) (by omega)
      rw [show l * 1 + (j - l * 1) = j from by omega] at this
      rw [this, if_pos (by omega), ricell_in _ (by omega)]
      congr 1; omega
    · rw [grown_zero (by omega) hj, if_neg (by omega)]; exact ricell_zero j
theorem grownri_post {ix : List (Nat × Nat)} {ci : Chunk} {l cap : Nat} {T : Nat → Int} {x : Int} {hp : List (Option Chunk)} {n : Nat} (h : l < cap) (hc : ∀ j, j < l * 1 → ci.f j = ricell (T (j / 1)) (j % 1)) (hh : hp[n]? = some (some (grown ci l 1 1 (.agg #[.int .i64 x]) (.agg #[.int .i64 0]) cap))) : PostC ix hp n (riC true cap (growri T l x)) :=
  ⟨_, hh, fun _ => rfl, by show cap * 1 ≤ cap * 1; omega, fun j hj => by
    have hj : j < cap * 1 := hj
    rw [seg_cell hj, grown_ri h hc hj]; exact .plain (ricell_plain _ _)⟩
theorem grownri_ren {ix : List (Nat × Nat)} {ci : Chunk} {l cap : Nat} {T T' : Nat → Int} {x : Int} (h : l < cap) (hc : ∀ j, j < l * 1 → ci.f j = ricell (T (j / 1)) (j % 1)) (he : ∀ i, i < cap → T' i = growri T l x i) : ChunkReLe ix (riC true cap T') (grown ci l 1 1 (.agg #[.int .i64 x]) (.agg #[.int .i64 0]) cap) :=
  ⟨fun _ => rfl, by show cap * 1 ≤ cap * 1; omega, fun j hj => by
    have hj : j < cap * 1 := hj
    rw [seg_cell hj, grown_ri h hc hj, he _ (by omega)]; exact .plain (ricell_plain _ _)⟩
theorem tbl_ren {ix : List (Nat × Nat)} {T : Tbl} : ChunkReLe ix (tblC T) (tblC T) := ⟨id, Nat.le_refl _, fun j hj => absurd hj (Nat.not_lt_zero j)⟩
theorem rd1 {o : Bool} {c p n : Nat} {T : Nat → Int} (i : Nat) (hn : n = 1) (h : i < c) (e : p = i * 1) : Reads (riC o c T) p false n (.int .i64 (T i)) := by
  subst e hn
  refine ⟨by show i * 1 < c * 1; omega, rfl, ?_⟩
  rw [riC_f (by omega), show i * 1 / 1 = i from by omega]; rfl
abbrev rl (R : List Int) (c : Nat) : Chunk := riC true c (fun i => R.getD i 0)
theorem seti_rl (S : List Int) (x : Int) : setri (fun i => S.getD i 0) S.length x = fun i => (S ++ [x]).getD i 0 := by
  funext i
  unfold setri
  by_cases h : i = S.length
  · rw [if_pos h]; simp [h]
  · rw [if_neg h]
    by_cases h2 : i < S.length
    · simp [List.getD_eq_getElem?_getD, List.getElem?_append_left h2]
    · simp [List.getD_eq_getElem?_getD, List.getElem?_eq_none (l := S) (i := i) (by omega), List.getElem?_eq_none (l := S ++ [x]) (i := i) (by simp; omega)]
theorem growi_rl (S : List Int) (x : Int) (i : Nat) : (S ++ [x]).getD i 0 = growri (fun i => S.getD i 0) S.length x i := by
  rw [← congrFun (seti_rl S x) i]
  unfold setri growri
  by_cases h : i < S.length
  · rw [if_neg (by omega), if_pos h]
  · rw [if_neg h]
    by_cases h2 : i = S.length
    · rw [if_pos h2, if_pos h2]
    · rw [if_neg h2, if_neg h2]; simp [List.getD_eq_getElem?_getD, List.getElem?_eq_none (l := S) (i := i) (by omega)]
theorem rl_ren {ix : List (Nat × Nat)} {S S' : List Int} {c : Nat} (e : S' = S) : ChunkReLe ix (rl S' c) (rl S c) := by subst e; exact riC_ren fun _ _ => rfl
theorem set_ren {ix : List (Nat × Nat)} {S S' : List Int} {x : Int} {c : Nat} (e : S' = S ++ [x]) : ChunkReLe ix (rl S' c) (riC true c (setri (fun i => S.getD i 0) S.length x)) := by subst e; rw [seti_rl]; exact riC_ren fun _ _ => rfl
theorem grow_ren {ix : List (Nat × Nat)} {S S' : List Int} {x : Int} {c cap : Nat} (e : S' = S ++ [x]) (h : S.length < cap) (hc : S.length ≤ c) : ChunkReLe ix (rl S' cap) (grown (rl S c) S.length 1 1 (.agg #[.int .i64 x]) (.agg #[.int .i64 0]) cap) := by
  subst e
  exact grownri_ren h (fun j hj => riC_f (by omega)) fun i _ => growi_rl S x i
theorem sl_ren {ix : List (Nat × Nat)} {i j l l' c : Nat} (e : l' = l) (h : ixK ix i = some j) : Re ix (.slice (some ⟨j, 0, some 0⟩) l' c) (.slice (some ⟨i, 0, some 0⟩) l c) := by subst e; exact .one (.slice h)
/-- Who goes, and the entries then, after r rounds. -/
def evP (now silent : Int) (x : Ent) : Bool := decide (max 1 silent ≤ now) && decide (x.heard ≤ now - max 1 silent)
def evL (E : List (Int × Ent)) (p : Ent → Bool) : Nat → List Int
  | 0 => []
  | r + 1 => if p (entT E r) = true then evL E p r ++ [(entT E r).node] else evL E p r
def evE (E : List (Int × Ent)) (p : Ent → Bool) : Nat → List (Int × Ent)
  | 0 => E
  | r + 1 => if p (entT E r) = true then dDel (evE E p r) (entT E r).node else evE E p r
theorem evL_le (E : List (Int × Ent)) (p : Ent → Bool) : ∀ r, (evL E p r).length ≤ r
  | 0 => Nat.le_refl _
  | r + 1 => by
    unfold evL
    split
    · rw [List.length_append]; have := evL_le E p r; simp only [List.length_cons, List.length_nil]; omega
    · have := evL_le E p r; omega
def Tbl.ev (T : Tbl) (now silent : Int) : Tbl := ⟨T.most, evE T.E (evP now silent) T.E.length, T.lives⟩
def evictL (T : Tbl) (now silent : Int) : List Int := evL T.E (evP now silent) T.E.length
/-- What Evict answers. -/
def evR (T' : Tbl) (L : List Int) (i k : Nat) (v : Value) (ms : List (Nat × Chunk)) : Prop :=
  (L = [] ∧ v = .slice none 0 0 ∧ ms = [(i, tblC T')]) ∨ ∃ cap, 0 < L.length ∧ L.length ≤ cap ∧ v = .slice (some ⟨k, 0, some 0⟩) L.length cap ∧ ms = [(i, tblC T'), (k, rl L cap)]
def silV (silent : Int) (r : Nat) : Int := if r = 0 then silent else max 1 silent
theorem max_sil (silent : Int) (r : Nat) : max 1 (silV silent r) = max 1 silent := by unfold silV; split <;> omega
theorem rd_alle {E : List (Int × Ent)} {n cap r p m : Nat} (hr : r < n) (hc : n ≤ cap) (hm : m = 10) (hp : p = r * 10) : Reads (enC true cap (fun i => if i < n then entT E i else Ent.zero)) p true m (entV (entT E r)) := by
  have h := rd_en (o := true) (c := cap) (T := fun i => if i < n then entT E i else Ent.zero) r hm (by omega) hp
  simp only [if_pos hr] at h; exact h
theorem rl_safe {c : Nat} {S : List Int} {h : List (Option Chunk)} {j : Nat} (hj : j < c * 1) : Safe1 h ((rl S c).f j) := by
  rw [riC_f hj]; trivial
theorem grow0_ren {ix : List (Nat × Nat)} {S' : List Int} {x : Int} {cap : Nat} (e : S' = [] ++ [x]) (h : 0 < cap) : ChunkReLe ix (rl S' cap) (grown ⟨true, 0, []⟩ 0 1 1 (.agg #[.int .i64 x]) (.agg #[.int .i64 0]) cap) := by
  subst e
  exact grownri_ren (T := fun _ => 0) h (fun j hj => absurd hj (by omega)) fun i _ => growi_rl [] x i
inductive EvS where
  | no (r : Nat)
  | yes (r c : Nat)
def EvS.r : EvS → Nat
  | .no r => r
  | .yes r _ => r
def evOK (T : Tbl) (now silent : Int) : EvS → Prop
  | .no r => r ≤ T.E.length ∧ evL T.E (evP now silent) r = []
  | .yes r c => r ≤ T.E.length ∧ 0 < (evL T.E (evP now silent) r).length ∧ (evL T.E (evP now silent) r).length ≤ c
@[reducible] def evSet (T : Tbl) (now silent : Int) : EvS → List (Nat × Value)
  | .no r => [(13, .int .i64 (r : Int)), (7, .slice none 0 0), (2, .int .i64 (silV silent r))]
  | .yes r c => [(13, .int .i64 (r : Int)), (7, .slice (some ⟨4, 0, some 0⟩) (evL T.E (evP now silent) r).length c), (2, .int .i64 (silV silent r))]
@[reducible] def evHs (T : Tbl) (now silent : Int) : EvS → List (Nat × Chunk)
  | .no r => [(1, mapC entV (evE T.E (evP now silent) r))]
  | .yes r c => [(1, mapC entV (evE T.E (evP now silent) r)), (4, rl (evL T.E (evP now silent) r) c)]
set_option maxRecDepth 100000 in
set_option maxHeartbeats 2000000 in
theorem cEvict (T : Tbl) (hE : T.E.length ≤ 64) (now silent : Int) (hnow : now < 9223372036854775808) (hsl : -9223372036854775808 ≤ silent ∧ silent < 9223372036854775808) (i K : Nat) (h : List (Option Chunk)) (hi : h[i]? = some (some (tblC T))) (hK : h[K]? = some none) :
    CallAll Try.prog 14 [.pointer (some ⟨i, 0, some 0⟩), .int .i64 now, .int .i64 silent] h (evR (T.ev now silent) (evictL T now silent) i K) := by
  have key := call_resall (G := tys) (h := h) (vs := [.pointer (some ⟨i, 0, some 0⟩), .int .i64 now, .int .i64 silent]) (livesOK T.lives) (tblH T) (α := Option Nat) (fun κ => match κ with | none => evictL T now silent = [] | some cap => 0 < (evictL T now silent).length ∧ (evictL T now silent).length ≤ cap) (fun κ => match κ with | none => .slice none 0 0 | some cap => .slice (some ⟨K, 0, some 0⟩) (evictL T now silent).length cap) [⟨i, tblC T, tblC T, tblC (T.ev now silent)⟩] (fun _ => [tblC (T.ev now silent)])
    (fun κ => match κ with | none => [] | some cap => [⟨K, 4, rl (evictL T now silent) cap⟩]) [.pointer (some ⟨0, 0, some 0⟩), .int .i64 now, .int .i64 silent] tysOK mixed Try.func14 (by rfl) (Try.call14) ⟨hi, trivial⟩ ⟨⟨fun h => ⟨rfl, Nat.le_refl _⟩, Nat.le_refl _, fun j hj => absurd hj (Nat.not_lt_zero j)⟩, trivial⟩ (fun κ _ => ⟨⟨fun h => ⟨rfl, Nat.le_refl _⟩, Nat.le_refl _, fun j hj => absurd hj (Nat.not_lt_zero j)⟩, trivial⟩) (by simp [Apart]) ⟨.inr ⟨rfl, rfl⟩, trivial⟩ (fun κ hκ => by
      cases κ with
      | none => exact trivial
      | some cap => exact ⟨⟨hK, rfl, .inl (by show 0 < cap * 1; have := hκ.1; have := hκ.2; omega), by simp⟩, trivial⟩) ⟨.ptr rfl, .plain rfl, .plain rfl, trivial⟩ pack_opens ?_
  · refine callAll_mono key fun v ms hR => ?_
    obtain ⟨κ, hκ, rfl, rfl⟩ := hR
    cases κ with
    | none => exact .inl ⟨hκ, rfl, rfl⟩
    | some cap => exact .inr ⟨cap, hκ.1, hκ.2, rfl, rfl⟩
  intro β hβ
  repeat' (refine N.go ?_; first | with_reducible refine N.obl (by decide) ?_ | with_reducible refine N.obl (flat_wi _ _ _) ?_ | with_reducible refine N.obl (flat_lim _ _) ?_ | with_reducible refine N.eq ?_ | with_reducible refine N.obl rfl ?_ | with_reducible refine N.obl ⟨by kernel_rfl, by kernel_rfl⟩ ?_ | with_reducible refine N.forkT ?_ | with_reducible refine N.forkF ?_ | refine N.forkYes (by rw [decide_eq_true_eq]; omega) ?_ | refine N.forkNo (by rw [decide_eq_false_iff_not]; omega) ?_ | refine N.forkYes (by decide) ?_ | refine N.forkNo (by decide) ?_ | fail_if_success skip)
  refine N.go ?_
  refine N.callAll (cAllI _ _ _ T.E hE 0 1 2 3 _ (by rfl) (by rfl) (by decide) (by rfl)) fun v ms hR => ?_
  rcases hR with ⟨hE0, rfl, rfl⟩ | ⟨ce, hpos, hce, rfl, rfl⟩
  · have hl0 : T.E.length = 0 := by rw [hE0]; rfl
    have hEv : (T.ev now silent).E = T.E := by unfold Tbl.ev; rw [hl0]; rfl
    have hLv : evictL T now silent = [] := by unfold evictL; rw [hl0]; rfl
    repeat' (refine N.go ?_; first | with_reducible refine N.obl (by decide) ?_ | with_reducible refine N.obl (flat_wi _ _ _) ?_ | with_reducible refine N.obl (flat_lim _ _) ?_ | with_reducible refine N.eq ?_ | with_reducible refine N.obl rfl ?_ | with_reducible refine N.obl ⟨by kernel_rfl, by kernel_rfl⟩ ?_ | with_reducible refine N.forkT ?_ | with_reducible refine N.forkF ?_ | refine N.forkYes (by rw [decide_eq_true_eq]; omega) ?_ | refine N.forkNo (by rw [decide_eq_false_iff_not]; omega) ?_ | refine N.forkYes (by decide) ?_ | refine N.forkNo (by decide) ?_ | fail_if_success skip)
    refine N.go ?_
    refine N.roll 1 ?_
    repeat' (refine N.go ?_; first | with_reducible refine N.obl (by decide) ?_ | with_reducible refine N.obl (flat_wi _ _ _) ?_ | with_reducible refine N.obl (flat_lim _ _) ?_ | with_reducible refine N.eq ?_ | with_reducible refine N.obl rfl ?_ | with_reducible refine N.obl ⟨by kernel_rfl, by kernel_rfl⟩ ?_ | with_reducible refine N.forkT ?_ | with_reducible refine N.forkF ?_ | refine N.forkYes (by rw [decide_eq_true_eq]; omega) ?_ | refine N.forkNo (by rw [decide_eq_false_iff_not]; omega) ?_ | refine N.forkYes (by decide) ?_ | refine N.forkNo (by decide) ?_ | fail_if_success skip)
    refine N.go ?_
    refine tblClose (T.ev now silent) β 0 1 2 [] tbl_piece (fun i hi => .inl (by simpa using hi)) hβ (by rfl) (by rfl) (by rfl) (by rfl) (by rfl) (by rfl) (by rfl) (by rw [hEv]; rfl) (by rfl) (by decide) (fun k hk => by cases hk) safe0 (plain_sc rfl) ?_
    refine N.some none ⟨hLv, ?_⟩
    refine N.obl (.plain rfl) ?_
    refine N.obl ⟨⟨_, rfl, id, Nat.le_refl _, fun j hj => absurd hj (Nat.not_lt_zero j)⟩, trivial⟩ ?_
    refine N.obl trivial ?_
    refine N.obl ⟨⟨.inr ⟨_, rfl, rfl⟩, trivial⟩, trivial⟩ ?_
    exact N.true
  · repeat' (refine N.go ?_; first | with_reducible refine N.obl (by decide) ?_ | with_reducible refine N.obl (flat_wi _ _ _) ?_ | with_reducible refine N.obl (flat_lim _ _) ?_ | with_reducible refine N.eq ?_ | with_reducible refine N.obl rfl ?_ | with_reducible refine N.obl ⟨by kernel_rfl, by kernel_rfl⟩ ?_ | with_reducible refine N.forkT ?_ | with_reducible refine N.forkF ?_ | refine N.forkYes (by rw [decide_eq_true_eq]; omega) ?_ | refine N.forkNo (by rw [decide_eq_false_iff_not]; omega) ?_ | refine N.forkYes (by decide) ?_ | refine N.forkNo (by decide) ?_ | fail_if_success skip)
    refine N.go ?_
    refine N.loopR (α := EvS) (evOK T now silent) (fun s => T.E.length - s.r) (evSet T now silent) (evHs T now silent) (.no 0) [(0, 0), (1, 1), (2, 2), (3, 3)] ⟨Nat.zero_le _, rfl⟩ ?_ ?_
    · repeat' (refine N.go ?_; first | with_reducible refine N.obl (by decide) ?_ | with_reducible refine N.obl (flat_wi _ _ _) ?_ | with_reducible refine N.obl (flat_lim _ _) ?_ | with_reducible refine N.eq ?_ | with_reducible refine N.obl rfl ?_ | with_reducible refine N.obl ⟨by kernel_rfl, by kernel_rfl⟩ ?_ | with_reducible refine N.forkT ?_ | with_reducible refine N.forkF ?_ | exact N.true | refine N.obl (.plain (by rfl)) ?_ | refine N.obl (.one (.ptr rfl)) ?_ | refine N.obl (.one (.slice rfl)) ?_ | refine N.obl map_ren ?_ | refine N.obl (main_ren rfl rfl) ?_ | refine N.obl (enC_ren fun _ _ => rfl) ?_ | fail_if_success skip)
    · intro s hs
      have hr : s.r ≤ T.E.length := by cases s <;> exact hs.1
      by_cases hlt : s.r < T.E.length
      · cases s with
        | no r =>
          obtain ⟨r1, r2⟩ := hs
          have hlt : r < T.E.length := hlt
          have r2 : evL T.E (evP now silent) r = [] := r2
          refine N.go ?_
          refine N.forkYes (by rw [decide_eq_true_eq]; omega) ?_
          refine N.go ?_
          refine N.idx r 1 rfl hlt ?_
          refine N.go ?_
          refine N.load _ (rd_alle hlt hce rfl (by first | rfl | omega)) ?_
          repeat' (refine N.go ?_; first | with_reducible refine N.obl (by decide) ?_ | with_reducible refine N.obl (flat_wi _ _ _) ?_ | with_reducible refine N.obl (flat_lim _ _) ?_ | with_reducible refine N.eq ?_ | with_reducible refine N.obl rfl ?_ | with_reducible refine N.obl ⟨by kernel_rfl, by kernel_rfl⟩ ?_ | with_reducible refine N.forkT ?_ | with_reducible refine N.forkF ?_ | fail_if_success skip)
          refine N.go ?_
          refine N.max2 ?_
          rw [max_sil]
          by_cases hp : evP now silent (entT T.E r) = true
          · have e1 : evL T.E (evP now silent) (r + 1) = evL T.E (evP now silent) r ++ [(entT T.E r).node] := if_pos hp
            have e2 : evE T.E (evP now silent) (r + 1) = dDel (evE T.E (evP now silent) r) (entT T.E r).node := if_pos hp
            obtain ⟨h1, h2⟩ : max 1 silent ≤ now ∧ (entT T.E r).heard ≤ now - max 1 silent := by unfold evP at hp; simpa using hp
            have hw : IntKind.i64.wrap (now - max 1 silent) = now - max 1 silent := i64s _ (by omega) (by omega)
            repeat' (refine N.go ?_; first | with_reducible refine N.obl (by decide) ?_ | with_reducible refine N.obl (flat_wi _ _ _) ?_ | with_reducible refine N.obl (flat_lim _ _) ?_ | with_reducible refine N.eq ?_ | with_reducible refine N.obl rfl ?_ | with_reducible refine N.obl ⟨by kernel_rfl, by kernel_rfl⟩ ?_ | with_reducible refine N.forkT ?_ | with_reducible refine N.forkF ?_ | refine N.forkYes (by rw [hw, decide_eq_true_eq]; omega) ?_ | refine N.forkNo (by rw [hw, decide_eq_false_iff_not]; omega) ?_ | refine N.forkYes (by rw [decide_eq_true_eq]; omega) ?_ | refine N.forkNo (by rw [decide_eq_false_iff_not]; omega) ?_ | refine N.forkYes (by rw [decide_eq_true_eq]; omega) ?_ | refine N.forkNo (by rw [decide_eq_false_iff_not]; omega) ?_ | refine N.forkYes (by decide) ?_ | refine N.forkNo (by decide) ?_ | fail_if_success skip)
            refine N.go ?_
            refine App0_mk (.agg #[.int .i64 (entT T.E r).node]) (rd_all (by rfl) (by rfl)) (by decide) (by decide) (by decide) fun cap hcap => ?_
            repeat' (refine N.go ?_; first | with_reducible refine N.obl (by decide) ?_ | with_reducible refine N.obl (flat_wi _ _ _) ?_ | with_reducible refine N.obl (flat_lim _ _) ?_ | with_reducible refine N.eq ?_ | with_reducible refine N.obl rfl ?_ | with_reducible refine N.obl ⟨by kernel_rfl, by kernel_rfl⟩ ?_ | with_reducible refine N.forkT ?_ | with_reducible refine N.forkF ?_ | refine N_del entV _ rfl rfl rfl Try.underlying64 Try.underlying3 ?_ | refine N.forkYes (by rw [decide_eq_true_eq]; omega) ?_ | refine N.forkNo (by rw [decide_eq_false_iff_not]; omega) ?_ | refine N.forkYes (by decide) ?_ | refine N.forkNo (by decide) ?_ | fail_if_success skip)
            refine N.go ?_
            rw [r2] at e1
            refine N.nextR (α := EvS) (.yes (r + 1) cap) [(0, 0), (1, 1), (2, 2), (3, 3), (6, 4)] (And.intro ⟨hlt, by show 0 < (evL T.E (evP now silent) (r + 1)).length; rw [e1]; exact Nat.le_refl _, by show (evL T.E (evP now silent) (r + 1)).length ≤ cap; rw [e1]; exact hcap⟩ (by show T.E.length - (r + 1) < T.E.length - r; omega)) ?_
            repeat' (refine N.go ?_; first | with_reducible refine N.obl (by decide) ?_ | with_reducible refine N.obl (flat_wi _ _ _) ?_ | with_reducible refine N.obl (flat_lim _ _) ?_ | with_reducible refine N.eq ?_ | with_reducible refine N.obl rfl ?_ | with_reducible refine N.obl ⟨by kernel_rfl, by kernel_rfl⟩ ?_ | with_reducible refine N.forkT ?_ | with_reducible refine N.forkF ?_ | refine N.obl (re_eq (int_eq (by rw [i64s ((r : Int) + 1) (by omega) (by omega)]; rfl)) rfl) ?_ | refine N.obl (re_eq (int_eq (show silV silent (r + 1) = max 1 silent from if_neg (Nat.succ_ne_zero _))) rfl) ?_ | refine N.obl (sl_ren (by show (evL T.E (evP now silent) (r + 1)).length = _; rw [e1]; rfl) (by rfl)) ?_ | refine N.obl (by show ChunkReLe _ (mapC entV (evE T.E (evP now silent) (r + 1))) _; rw [e2]; exact map_ren) ?_ | refine N.obl (grow0_ren e1 hcap) ?_ | exact N.true | refine N.obl (.plain (by rfl)) ?_ | refine N.obl (.one (.ptr rfl)) ?_ | refine N.obl (.one (.slice rfl)) ?_ | refine N.obl map_ren ?_ | refine N.obl (main_ren rfl rfl) ?_ | refine N.obl (enC_ren fun _ _ => rfl) ?_ | fail_if_success skip)
          · have e1 : evL T.E (evP now silent) (r + 1) = evL T.E (evP now silent) r := if_neg hp
            have e2 : evE T.E (evP now silent) (r + 1) = evE T.E (evP now silent) r := if_neg hp
            by_cases h1 : max 1 silent ≤ now
            · have hw : IntKind.i64.wrap (now - max 1 silent) = now - max 1 silent := i64s _ (by omega) (by omega)
              have h2 : ¬ (entT T.E r).heard ≤ now - max 1 silent := fun h2 => hp (by unfold evP; simp [h1, h2])
              repeat' (refine N.go ?_; first | with_reducible refine N.obl (by decide) ?_ | with_reducible refine N.obl (flat_wi _ _ _) ?_ | with_reducible refine N.obl (flat_lim _ _) ?_ | with_reducible refine N.eq ?_ | with_reducible refine N.obl rfl ?_ | with_reducible refine N.obl ⟨by kernel_rfl, by kernel_rfl⟩ ?_ | with_reducible refine N.forkT ?_ | with_reducible refine N.forkF ?_ | refine N.forkYes (by rw [hw, decide_eq_true_eq]; omega) ?_ | refine N.forkNo (by rw [hw, decide_eq_false_iff_not]; omega) ?_ | refine N.forkYes (by rw [decide_eq_true_eq]; omega) ?_ | refine N.forkNo (by rw [decide_eq_false_iff_not]; omega) ?_ | refine N.forkYes (by rw [decide_eq_true_eq]; omega) ?_ | refine N.forkNo (by rw [decide_eq_false_iff_not]; omega) ?_ | refine N.forkYes (by decide) ?_ | refine N.forkNo (by decide) ?_ | fail_if_success skip)
              refine N.go ?_
              refine N.nextR (α := EvS) (.no (r + 1)) [(0, 0), (1, 1), (2, 2), (3, 3)] (And.intro ⟨hlt, by show evL T.E (evP now silent) (r + 1) = []; rw [e1, r2]⟩ (by show T.E.length - (r + 1) < T.E.length - r; omega)) ?_
              repeat' (refine N.go ?_; first | with_reducible refine N.obl (by decide) ?_ | with_reducible refine N.obl (flat_wi _ _ _) ?_ | with_reducible refine N.obl (flat_lim _ _) ?_ | with_reducible refine N.eq ?_ | with_reducible refine N.obl rfl ?_ | with_reducible refine N.obl ⟨by kernel_rfl, by kernel_rfl⟩ ?_ | with_reducible refine N.forkT ?_ | with_reducible refine N.forkF ?_ | refine N.obl (re_eq (int_eq (by rw [i64s ((r : Int) + 1) (by omega) (by omega)]; rfl)) rfl) ?_ | refine N.obl (re_eq (int_eq (show silV silent (r + 1) = max 1 silent from if_neg (Nat.succ_ne_zero _))) rfl) ?_ | refine N.obl (sl_ren (by show (evL T.E (evP now silent) (r + 1)).length = _; rw [e1]) (by rfl)) ?_ | refine N.obl (by show ChunkReLe _ (mapC entV (evE T.E (evP now silent) (r + 1))) _; rw [e2]; exact map_ren) ?_ | refine N.obl (rl_ren e1) ?_ | exact N.true | refine N.obl (.plain (by rfl)) ?_ | refine N.obl (.one (.ptr rfl)) ?_ | refine N.obl (.one (.slice rfl)) ?_ | refine N.obl map_ren ?_ | refine N.obl (main_ren rfl rfl) ?_ | refine N.obl (enC_ren fun _ _ => rfl) ?_ | fail_if_success skip)
            · repeat' (refine N.go ?_; first | with_reducible refine N.obl (by decide) ?_ | with_reducible refine N.obl (flat_wi _ _ _) ?_ | with_reducible refine N.obl (flat_lim _ _) ?_ | with_reducible refine N.eq ?_ | with_reducible refine N.obl rfl ?_ | with_reducible refine N.obl ⟨by kernel_rfl, by kernel_rfl⟩ ?_ | with_reducible refine N.forkT ?_ | with_reducible refine N.forkF ?_ | refine N.forkYes (by rw [hw, decide_eq_true_eq]; omega) ?_ | refine N.forkNo (by rw [hw, decide_eq_false_iff_not]; omega) ?_ | refine N.forkYes (by rw [decide_eq_true_eq]; omega) ?_ | refine N.forkNo (by rw [decide_eq_false_iff_not]; omega) ?_ | refine N.forkYes (by rw [decide_eq_true_eq]; omega) ?_ | refine N.forkNo (by rw [decide_eq_false_iff_not]; omega) ?_ | refine N.forkYes (by decide) ?_ | refine N.forkNo (by decide) ?_ | fail_if_success skip)
              refine N.go ?_
              refine N.nextR (α := EvS) (.no (r + 1)) [(0, 0), (1, 1), (2, 2), (3, 3)] (And.intro ⟨hlt, by show evL T.E (evP now silent) (r + 1) = []; rw [e1, r2]⟩ (by show T.E.length - (r + 1) < T.E.length - r; omega)) ?_
              repeat' (refine N.go ?_; first | with_reducible refine N.obl (by decide) ?_ | with_reducible refine N.obl (flat_wi _ _ _) ?_ | with_reducible refine N.obl (flat_lim _ _) ?_ | with_reducible refine N.eq ?_ | with_reducible refine N.obl rfl ?_ | with_reducible refine N.obl ⟨by kernel_rfl, by kernel_rfl⟩ ?_ | with_reducible refine N.forkT ?_ | with_reducible refine N.forkF ?_ | refine N.obl (re_eq (int_eq (by rw [i64s ((r : Int) + 1) (by omega) (by omega)]; rfl)) rfl) ?_ | refine N.obl (re_eq (int_eq (show silV silent (r + 1) = max 1 silent from if_neg (Nat.succ_ne_zero _))) rfl) ?_ | refine N.obl (sl_ren (by show (evL T.E (evP now silent) (r + 1)).length = _; rw [e1]) (by rfl)) ?_ | refine N.obl (by show ChunkReLe _ (mapC entV (evE T.E (evP now silent) (r + 1))) _; rw [e2]; exact map_ren) ?_ | refine N.obl (rl_ren e1) ?_ | exact N.true | refine N.obl (.plain (by rfl)) ?_ | refine N.obl (.one (.ptr rfl)) ?_ | refine N.obl (.one (.slice rfl)) ?_ | refine N.obl map_ren ?_ | refine N.obl (main_ren rfl rfl) ?_ | refine N.obl (enC_ren fun _ _ => rfl) ?_ | fail_if_success skip)
        | yes r c =>
          obtain ⟨r1, r2, r3⟩ := hs
          have hlt : r < T.E.length := hlt
          have r2 : 0 < (evL T.E (evP now silent) r).length := r2
          have r3 : (evL T.E (evP now silent) r).length ≤ c := r3
          have r4 := evL_le T.E (evP now silent) r
          refine N.go ?_
          refine N.forkYes (by rw [decide_eq_true_eq]; omega) ?_
          refine N.go ?_
          refine N.idx r 1 rfl hlt ?_
          refine N.go ?_
          refine N.load _ (rd_alle hlt hce rfl (by first | rfl | omega)) ?_
          repeat' (refine N.go ?_; first | with_reducible refine N.obl (by decide) ?_ | with_reducible refine N.obl (flat_wi _ _ _) ?_ | with_reducible refine N.obl (flat_lim _ _) ?_ | with_reducible refine N.eq ?_ | with_reducible refine N.obl rfl ?_ | with_reducible refine N.obl ⟨by kernel_rfl, by kernel_rfl⟩ ?_ | with_reducible refine N.forkT ?_ | with_reducible refine N.forkF ?_ | fail_if_success skip)
          refine N.go ?_
          refine N.max2 ?_
          rw [max_sil]
          by_cases hp : evP now silent (entT T.E r) = true
          · have e1 : evL T.E (evP now silent) (r + 1) = evL T.E (evP now silent) r ++ [(entT T.E r).node] := if_pos hp
            have e2 : evE T.E (evP now silent) (r + 1) = dDel (evE T.E (evP now silent) r) (entT T.E r).node := if_pos hp
            obtain ⟨h1, h2⟩ : max 1 silent ≤ now ∧ (entT T.E r).heard ≤ now - max 1 silent := by unfold evP at hp; simpa using hp
            have hw : IntKind.i64.wrap (now - max 1 silent) = now - max 1 silent := i64s _ (by omega) (by omega)
            repeat' (refine N.go ?_; first | with_reducible refine N.obl (by decide) ?_ | with_reducible refine N.obl (flat_wi _ _ _) ?_ | with_reducible refine N.obl (flat_lim _ _) ?_ | with_reducible refine N.eq ?_ | with_reducible refine N.obl rfl ?_ | with_reducible refine N.obl ⟨by kernel_rfl, by kernel_rfl⟩ ?_ | with_reducible refine N.forkT ?_ | with_reducible refine N.forkF ?_ | refine N.forkYes (by rw [hw, decide_eq_true_eq]; omega) ?_ | refine N.forkNo (by rw [hw, decide_eq_false_iff_not]; omega) ?_ | refine N.forkYes (by rw [decide_eq_true_eq]; omega) ?_ | refine N.forkNo (by rw [decide_eq_false_iff_not]; omega) ?_ | refine N.forkYes (by rw [decide_eq_true_eq]; omega) ?_ | refine N.forkNo (by rw [decide_eq_false_iff_not]; omega) ?_ | refine N.forkYes (by decide) ?_ | refine N.forkNo (by decide) ?_ | fail_if_success skip)
            refine N.go ?_
            refine App_mk (.agg #[.int .i64 (entT T.E r).node]) (rd_all (by rfl) (by rfl)) (by rfl) (by show _ * 1 ≤ c * 1; omega) (by omega) (by show (_ + 1) * 8 ≤ _; omega) (riC true c (setri (fun i => (evL T.E (evP now silent) r).getD i 0) (evL T.E (evP now silent) r).length (entT T.E r).node)) (fun h => wr_ri (by omega) rfl) (fun hr => ?_) (fun hg2 cap hcap => ?_)
            · repeat' (refine N.go ?_; first | with_reducible refine N.obl (by decide) ?_ | with_reducible refine N.obl (flat_wi _ _ _) ?_ | with_reducible refine N.obl (flat_lim _ _) ?_ | with_reducible refine N.eq ?_ | with_reducible refine N.obl rfl ?_ | with_reducible refine N.obl ⟨by kernel_rfl, by kernel_rfl⟩ ?_ | with_reducible refine N.forkT ?_ | with_reducible refine N.forkF ?_ | refine N_del entV _ rfl rfl rfl Try.underlying64 Try.underlying3 ?_ | refine N.forkYes (by rw [decide_eq_true_eq]; omega) ?_ | refine N.forkNo (by rw [decide_eq_false_iff_not]; omega) ?_ | refine N.forkYes (by decide) ?_ | refine N.forkNo (by decide) ?_ | fail_if_success skip)
              refine N.go ?_
              refine N.nextR (α := EvS) (.yes (r + 1) c) [(0, 0), (1, 1), (2, 2), (3, 3), (4, 4)] (And.intro ⟨hlt, by show 0 < (evL T.E (evP now silent) (r + 1)).length; rw [e1, List.length_append]; exact Nat.le_add_left _ _, by show (evL T.E (evP now silent) (r + 1)).length ≤ c; rw [e1, List.length_append]; exact hr⟩ (by show T.E.length - (r + 1) < T.E.length - r; omega)) ?_
              repeat' (refine N.go ?_; first | with_reducible refine N.obl (by decide) ?_ | with_reducible refine N.obl (flat_wi _ _ _) ?_ | with_reducible refine N.obl (flat_lim _ _) ?_ | with_reducible refine N.eq ?_ | with_reducible refine N.obl rfl ?_ | with_reducible refine N.obl ⟨by kernel_rfl, by kernel_rfl⟩ ?_ | with_reducible refine N.forkT ?_ | with_reducible refine N.forkF ?_ | refine N.obl (re_eq (int_eq (by rw [i64s ((r : Int) + 1) (by omega) (by omega)]; rfl)) rfl) ?_ | refine N.obl (re_eq (int_eq (show silV silent (r + 1) = max 1 silent from if_neg (Nat.succ_ne_zero _))) rfl) ?_ | refine N.obl (sl_ren (by show (evL T.E (evP now silent) (r + 1)).length = _; rw [e1, List.length_append]; rfl) (by rfl)) ?_ | refine N.obl (by show ChunkReLe _ (mapC entV (evE T.E (evP now silent) (r + 1))) _; rw [e2]; exact map_ren) ?_ | refine N.obl (set_ren e1) ?_ | exact N.true | refine N.obl (.plain (by rfl)) ?_ | refine N.obl (.one (.ptr rfl)) ?_ | refine N.obl (.one (.slice rfl)) ?_ | refine N.obl map_ren ?_ | refine N.obl (main_ren rfl rfl) ?_ | refine N.obl (enC_ren fun _ _ => rfl) ?_ | fail_if_success skip)
            · repeat' (refine N.go ?_; first | with_reducible refine N.obl (by decide) ?_ | with_reducible refine N.obl (flat_wi _ _ _) ?_ | with_reducible refine N.obl (flat_lim _ _) ?_ | with_reducible refine N.eq ?_ | with_reducible refine N.obl rfl ?_ | with_reducible refine N.obl ⟨by kernel_rfl, by kernel_rfl⟩ ?_ | with_reducible refine N.forkT ?_ | with_reducible refine N.forkF ?_ | refine N_del entV _ rfl rfl rfl Try.underlying64 Try.underlying3 ?_ | refine N.forkYes (by rw [decide_eq_true_eq]; omega) ?_ | refine N.forkNo (by rw [decide_eq_false_iff_not]; omega) ?_ | refine N.forkYes (by decide) ?_ | refine N.forkNo (by decide) ?_ | fail_if_success skip)
              refine N.go ?_
              refine N.nextR (α := EvS) (.yes (r + 1) cap) [(0, 0), (1, 1), (2, 2), (3, 3), (7, 4)] (And.intro ⟨hlt, by show 0 < (evL T.E (evP now silent) (r + 1)).length; rw [e1, List.length_append]; exact Nat.le_add_left _ _, by show (evL T.E (evP now silent) (r + 1)).length ≤ cap; rw [e1, List.length_append]; exact hcap⟩ (by show T.E.length - (r + 1) < T.E.length - r; omega)) ?_
              repeat' (refine N.go ?_; first | with_reducible refine N.obl (by decide) ?_ | with_reducible refine N.obl (flat_wi _ _ _) ?_ | with_reducible refine N.obl (flat_lim _ _) ?_ | with_reducible refine N.eq ?_ | with_reducible refine N.obl rfl ?_ | with_reducible refine N.obl ⟨by kernel_rfl, by kernel_rfl⟩ ?_ | with_reducible refine N.forkT ?_ | with_reducible refine N.forkF ?_ | refine N.obl (re_eq (int_eq (by rw [i64s ((r : Int) + 1) (by omega) (by omega)]; rfl)) rfl) ?_ | refine N.obl (re_eq (int_eq (show silV silent (r + 1) = max 1 silent from if_neg (Nat.succ_ne_zero _))) rfl) ?_ | refine N.obl (sl_ren (by show (evL T.E (evP now silent) (r + 1)).length = _; rw [e1, List.length_append]; rfl) (by rfl)) ?_ | refine N.obl (by show ChunkReLe _ (mapC entV (evE T.E (evP now silent) (r + 1))) _; rw [e2]; exact map_ren) ?_ | refine N.obl (grow_ren e1 hcap r3) ?_ | exact N.true | refine N.obl (.plain (by rfl)) ?_ | refine N.obl (.one (.ptr rfl)) ?_ | refine N.obl (.one (.slice rfl)) ?_ | refine N.obl map_ren ?_ | refine N.obl (main_ren rfl rfl) ?_ | refine N.obl (enC_ren fun _ _ => rfl) ?_ | fail_if_success skip)
          · have e1 : evL T.E (evP now silent) (r + 1) = evL T.E (evP now silent) r := if_neg hp
            have e2 : evE T.E (evP now silent) (r + 1) = evE T.E (evP now silent) r := if_neg hp
            by_cases h1 : max 1 silent ≤ now
            · have hw : IntKind.i64.wrap (now - max 1 silent) = now - max 1 silent := i64s _ (by omega) (by omega)
              have h2 : ¬ (entT T.E r).heard ≤ now - max 1 silent := fun h2 => hp (by unfold evP; simp [h1, h2])
              repeat' (refine N.go ?_; first | with_reducible refine N.obl (by decide) ?_ | with_reducible refine N.obl (flat_wi _ _ _) ?_ | with_reducible refine N.obl (flat_lim _ _) ?_ | with_reducible refine N.eq ?_ | with_reducible refine N.obl rfl ?_ | with_reducible refine N.obl ⟨by kernel_rfl, by kernel_rfl⟩ ?_ | with_reducible refine N.forkT ?_ | with_reducible refine N.forkF ?_ | refine N.forkYes (by rw [hw, decide_eq_true_eq]; omega) ?_ | refine N.forkNo (by rw [hw, decide_eq_false_iff_not]; omega) ?_ | refine N.forkYes (by rw [decide_eq_true_eq]; omega) ?_ | refine N.forkNo (by rw [decide_eq_false_iff_not]; omega) ?_ | refine N.forkYes (by rw [decide_eq_true_eq]; omega) ?_ | refine N.forkNo (by rw [decide_eq_false_iff_not]; omega) ?_ | refine N.forkYes (by decide) ?_ | refine N.forkNo (by decide) ?_ | fail_if_success skip)
              refine N.go ?_
              refine N.nextR (α := EvS) (.yes (r + 1) c) [(0, 0), (1, 1), (2, 2), (3, 3), (4, 4)] (And.intro ⟨hlt, by show 0 < (evL T.E (evP now silent) (r + 1)).length; rw [e1]; exact r2, by show (evL T.E (evP now silent) (r + 1)).length ≤ c; rw [e1]; exact r3⟩ (by show T.E.length - (r + 1) < T.E.length - r; omega)) ?_
              repeat' (refine N.go ?_; first | with_reducible refine N.obl (by decide) ?_ | with_reducible refine N.obl (flat_wi _ _ _) ?_ | with_reducible refine N.obl (flat_lim _ _) ?_ | with_reducible refine N.eq ?_ | with_reducible refine N.obl rfl ?_ | with_reducible refine N.obl ⟨by kernel_rfl, by kernel_rfl⟩ ?_ | with_reducible refine N.forkT ?_ | with_reducible refine N.forkF ?_ | refine N.obl (re_eq (int_eq (by rw [i64s ((r : Int) + 1) (by omega) (by omega)]; rfl)) rfl) ?_ | refine N.obl (re_eq (int_eq (show silV silent (r + 1) = max 1 silent from if_neg (Nat.succ_ne_zero _))) rfl) ?_ | refine N.obl (sl_ren (by show (evL T.E (evP now silent) (r + 1)).length = _; rw [e1]) (by rfl)) ?_ | refine N.obl (by show ChunkReLe _ (mapC entV (evE T.E (evP now silent) (r + 1))) _; rw [e2]; exact map_ren) ?_ | refine N.obl (rl_ren e1) ?_ | exact N.true | refine N.obl (.plain (by rfl)) ?_ | refine N.obl (.one (.ptr rfl)) ?_ | refine N.obl (.one (.slice rfl)) ?_ | refine N.obl map_ren ?_ | refine N.obl (main_ren rfl rfl) ?_ | refine N.obl (enC_ren fun _ _ => rfl) ?_ | fail_if_success skip)
            · repeat' (refine N.go ?_; first | with_reducible refine N.obl (by decide) ?_ | with_reducible refine N.obl (flat_wi _ _ _) ?_ | with_reducible refine N.obl (flat_lim _ _) ?_ | with_reducible refine N.eq ?_ | with_reducible refine N.obl rfl ?_ | with_reducible refine N.obl ⟨by kernel_rfl, by kernel_rfl⟩ ?_ | with_reducible refine N.forkT ?_ | with_reducible refine N.forkF ?_ | refine N.forkYes (by rw [hw, decide_eq_true_eq]; omega) ?_ | refine N.forkNo (by rw [hw, decide_eq_false_iff_not]; omega) ?_ | refine N.forkYes (by rw [decide_eq_true_eq]; omega) ?_ | refine N.forkNo (by rw [decide_eq_false_iff_not]; omega) ?_ | refine N.forkYes (by rw [decide_eq_true_eq]; omega) ?_ | refine N.forkNo (by rw [decide_eq_false_iff_not]; omega) ?_ | refine N.forkYes (by decide) ?_ | refine N.forkNo (by decide) ?_ | fail_if_success skip)
              refine N.go ?_
              refine N.nextR (α := EvS) (.yes (r + 1) c) [(0, 0), (1, 1), (2, 2), (3, 3), (4, 4)] (And.intro ⟨hlt, by show 0 < (evL T.E (evP now silent) (r + 1)).length; rw [e1]; exact r2, by show (evL T.E (evP now silent) (r + 1)).length ≤ c; rw [e1]; exact r3⟩ (by show T.E.length - (r + 1) < T.E.length - r; omega)) ?_
              repeat' (refine N.go ?_; first | with_reducible refine N.obl (by decide) ?_ | with_reducible refine N.obl (flat_wi _ _ _) ?_ | with_reducible refine N.obl (flat_lim _ _) ?_ | with_reducible refine N.eq ?_ | with_reducible refine N.obl rfl ?_ | with_reducible refine N.obl ⟨by kernel_rfl, by kernel_rfl⟩ ?_ | with_reducible refine N.forkT ?_ | with_reducible refine N.forkF ?_ | refine N.obl (re_eq (int_eq (by rw [i64s ((r : Int) + 1) (by omega) (by omega)]; rfl)) rfl) ?_ | refine N.obl (re_eq (int_eq (show silV silent (r + 1) = max 1 silent from if_neg (Nat.succ_ne_zero _))) rfl) ?_ | refine N.obl (sl_ren (by show (evL T.E (evP now silent) (r + 1)).length = _; rw [e1]) (by rfl)) ?_ | refine N.obl (by show ChunkReLe _ (mapC entV (evE T.E (evP now silent) (r + 1))) _; rw [e2]; exact map_ren) ?_ | refine N.obl (rl_ren e1) ?_ | exact N.true | refine N.obl (.plain (by rfl)) ?_ | refine N.obl (.one (.ptr rfl)) ?_ | refine N.obl (.one (.slice rfl)) ?_ | refine N.obl map_ren ?_ | refine N.obl (main_ren rfl rfl) ?_ | refine N.obl (enC_ren fun _ _ => rfl) ?_ | fail_if_success skip)
      · cases s with
        | no r =>
          obtain ⟨r1, r2⟩ := hs
          have hr : r ≤ T.E.length := hr
          have hlt : ¬ r < T.E.length := hlt
          obtain rfl : r = T.E.length := by omega
          refine N.go ?_
          refine N.forkNo (by rw [decide_eq_false_iff_not]; omega) ?_
          repeat' (refine N.go ?_; first | with_reducible refine N.obl (by decide) ?_ | with_reducible refine N.obl (flat_wi _ _ _) ?_ | with_reducible refine N.obl (flat_lim _ _) ?_ | with_reducible refine N.eq ?_ | with_reducible refine N.obl rfl ?_ | with_reducible refine N.obl ⟨by kernel_rfl, by kernel_rfl⟩ ?_ | with_reducible refine N.forkT ?_ | with_reducible refine N.forkF ?_ | fail_if_success skip)
          refine N.go ?_
          refine tblClose (T.ev now silent) β 0 1 2 [] tbl_piece (fun i hi => .inl (by simpa using hi)) hβ (by rfl) (by rfl) (by rfl) (by rfl) (by rfl) (by rfl) (by rfl) (by rfl) (by rfl) (by decide) (fun k hk => by cases hk) safe0 (plain_sc rfl) ?_
          refine N.some none ⟨r2, ?_⟩
          refine N.obl (.plain rfl) ?_
          refine N.obl ⟨⟨_, rfl, id, Nat.le_refl _, fun j hj => absurd hj (Nat.not_lt_zero j)⟩, trivial⟩ ?_
          refine N.obl trivial ?_
          refine N.obl ⟨⟨.inr ⟨_, rfl, rfl⟩, trivial⟩, trivial⟩ ?_
          exact N.true
        | yes r c =>
          obtain ⟨r1, r2, r3⟩ := hs
          have hr : r ≤ T.E.length := hr
          have hlt : ¬ r < T.E.length := hlt
          obtain rfl : r = T.E.length := by omega
          refine N.go ?_
          refine N.forkNo (by rw [decide_eq_false_iff_not]; omega) ?_
          repeat' (refine N.go ?_; first | with_reducible refine N.obl (by decide) ?_ | with_reducible refine N.obl (flat_wi _ _ _) ?_ | with_reducible refine N.obl (flat_lim _ _) ?_ | with_reducible refine N.eq ?_ | with_reducible refine N.obl rfl ?_ | with_reducible refine N.obl ⟨by kernel_rfl, by kernel_rfl⟩ ?_ | with_reducible refine N.forkT ?_ | with_reducible refine N.forkF ?_ | fail_if_success skip)
          refine N.go ?_
          refine tblClose (T.ev now silent) β 0 1 2 [4] tbl_piece (fun i hi => .inl (by simpa using hi)) hβ (by rfl) (by rfl) (by rfl) (by rfl) (by rfl) (by rfl) (by rfl) (by rfl) (by rfl) (by decide) (fun k hk => by simp at hk; omega) (fun k hk d hd l hl => ?_) (fun ρ ρ' ha => by have := ha 4 ⟨_, rfl⟩; simp [den, den2, den1, den0, denA, this]) ?_
          · obtain rfl : k = 4 := by simpa using hk
            obtain rfl : rl (evL T.E (evP now silent) T.E.length) c = d := by simpa using hd
            exact rl_safe hl
          refine N.some (some c) ⟨⟨r2, r3⟩, ?_⟩
          refine N.obl (.one (.slice rfl)) ?_
          refine N.obl ⟨⟨_, rfl, id, Nat.le_refl _, fun j hj => absurd hj (Nat.not_lt_zero j)⟩, trivial⟩ ?_
          refine N.obl ⟨⟨Nat.le_of_ble_eq_true rfl, riC_post (c := c) (T := fun i => (evL T.E (evP now silent) T.E.length).getD i 0) (T' := fun i => (evL T.E (evP now silent) T.E.length).getD i 0) (fun _ _ => rfl) (by rfl)⟩, trivial⟩ ?_
          refine N.obl ⟨⟨.inr ⟨_, rfl, rfl⟩, trivial⟩, .inl rfl, trivial⟩ ?_
          exact N.true
end Go.Proofs.Ytpafcfelaaibgaa
