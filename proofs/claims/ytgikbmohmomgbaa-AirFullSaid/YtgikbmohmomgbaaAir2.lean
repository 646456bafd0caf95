/-
  The walks of air at mails without data.
-/
import Derived.Test.YtgikbmohmomgbaaAir1
set_option linter.unusedVariables false
set_option linter.unusedSimpArgs false
namespace Go.Proofs.Ytgikbmohmomgbaa
open Go Go.RowKit Sx

theorem N.bnd {lo hi : Option Value} {len cap : Nat} {K : Nat → Nat → Nat → Prop} (p q s : Nat) (hq : Bnd hi len cap q) (hp : Bnd lo 0 q p) (k : K p q s) : N (BndN lo hi len cap K) := N.mk ⟨p, q, s, hq, hp, k⟩
theorem N.bnd3 {lo : Option Value} {hi b : Value} {cap : Nat} {K : Nat → Nat → Nat → Nat → Prop} (p q m s : Nat) (hm : Bnd (some b) 0 cap m) (hq : Bnd (some hi) 0 m q) (hp : Bnd lo 0 q p) (k : K p q m s) : N (Bnd3N lo hi b cap K) := N.mk ⟨p, q, m, s, hm, hq, hp, k⟩
theorem N.clr {ci : Chunk} {f l size : Nat} {z : Value} {K : Chunk → Prop} (d : Chunk) (h0 : 0 < l) (hw : Writes ci f (l * size) (.agg ⟨segL (l * size) (repZ size z)⟩) d) (k : K d) : N (ClrN ci f l size z K) := N.mk ⟨d, h0, hw, k⟩
/-- A mail without data. -/
abbrev mlV (x : Int) : Value := .agg #[.int .i64 x, .slice none 0 0, .int .i64 0, .int .i64 0, .bool false]
def mcell (x : Int) : Nat → Value
  | 0 => .int .i64 x
  | 1 => .slice none 0 0
  | 4 => .bool false
  | _ => .int .i64 0
theorem mcell_plain (x : Int) (k : Nat) : plain1 (mcell x k) = true := by unfold mcell; split <;> rfl
theorem mcell_in (x : Int) {k : Nat} (h : k < 5) : cellIn (mlV x) k = mcell x k := by
  match k, h with
  | 0, _ => rfl
  | 1, _ => rfl
  | 2, _ => rfl
  | 3, _ => rfl
  | 4, _ => rfl
theorem mcell_zero (j : Nat) : repZ 5 (mlV 0) j = mcell 0 (j % 5) := by
  unfold repZ
  have h : j % 5 < 5 := Nat.mod_lt _ (by decide)
  generalize j % 5 = k at h
  match k, h with
  | 0, _ => rfl
  | 1, _ => rfl
  | 2, _ => rfl
  | 3, _ => rfl
  | 4, _ => rfl
/-- Mails without data, with room. -/
abbrev mlT (o : Bool) (c : Nat) (T : Nat → Int) : Chunk := ⟨o, c * 5, [(0, c * 5, .agg ⟨segL (c * 5) (fun j => mcell (T (j / 5)) (j % 5))⟩)]⟩
theorem mlT_re {ix : List (Nat × Nat)} {o o' : Bool} {c : Nat} {T T' : Nat → Int} (h : ∀ i, i < c → T i = T' i) : ChunkRe ix (mlT o c T) (mlT o' c T') := fun j hj => by
  have hj : j < c * 5 := hj
  rw [seg_cell hj, seg_cell hj, h (j / 5) (by omega)]; exact .plain (mcell_plain _ _)
theorem mlT_post {ix : List (Nat × Nat)} {c : Nat} {T T' : Nat → Int} {hp : List (Option Chunk)} {n : Nat} (h : ∀ i, i < c → T i = T' i) (hh : hp[n]? = some (some (mlT true c T'))) : PostC ix hp n (mlT true c T) := ⟨_, hh, id, Nat.le_refl _, mlT_re h⟩
theorem rd_mlT {o : Bool} {c p n : Nat} {T : Nat → Int} (i : Nat) (hn : n = 5) (h : i < c) (e : p = i * 5) : Reads (mlT o c T) p true n (mlV (T i)) := by
  subst e hn
  refine ⟨by show i * 5 + 5 ≤ c * 5; omega, _, rfl, rfl, fun j hj => ?_⟩
  rw [seg_cell (by omega), show (i * 5 + j) / 5 = i from by omega, show (i * 5 + j) % 5 = j from by omega]
  exact (mcell_in _ hj).symm
def setT (T : Nat → Int) (l : Nat) (x : Int) (i : Nat) : Int := if i = l then x else T i
theorem wr_mlT {c l p : Nat} {T : Nat → Int} {x : Int} (h : l < c) (e : p = l * 5) : Writes (mlT true c T) p (1 * 5) (mlV x) (mlT true c (setT T l x)) := by
  subst e
  refine ⟨rfl, by show l * 5 + 1 * 5 ≤ c * 5; omega, rfl, fun j hj => ?_⟩
  have hj : j < c * 5 := hj
  rw [seg_cell hj, seg_cell hj]
  unfold setT
  by_cases e : l * 5 ≤ j ∧ j < l * 5 + 1 * 5
  · rw [if_pos e, if_pos (by omega), mcell_in _ (by omega)]
    congr 1; omega
  · rw [if_neg e, if_neg (by omega)]
def growT (T : Nat → Int) (l : Nat) (x : Int) (i : Nat) : Int := if i < l then T i else if i = l then x else 0
theorem grown_mlT {ci : Chunk} {l cap : Nat} {T : Nat → Int} {x : Int} (h : l < cap) (hc : ∀ j, j < l * 5 → ci.f j = mcell (T (j / 5)) (j % 5)) {j : Nat} (hj : j < cap * 5) : (grown ci l 1 5 (mlV x) (mlV 0) cap).f j = mcell (growT T l x (j / 5)) (j % 5) := by
  unfold growT
  by_cases h1 : j < l * 5
  · rw [grown_old h1, if_pos (by omega)]; exact hc j h1
  · rw [if_neg (by omega)]
    by_cases h2 : j < (l + 1) * 5
    · have := grown_new (ci := ci) (l := l) (m := 1) (size := 5) (cap := cap) (v := mlV x) (z := mlV 0) (j := j - l * 5) (by omega)
      rw [show l * 5 + (j - l * 5) = j from by omega] at this
      rw [this, if_pos (by omega), mcell_in _ (by omega)]
      congr 1; omega
    · rw [grown_zero (by omega) hj, if_neg (by omega)]; exact mcell_zero j
theorem grownT_post {ix : List (Nat × Nat)} {ci : Chunk} {l cap : Nat} {T : Nat → Int} {x : Int} {hp : List (Option Chunk)} {n : Nat} (h : l < cap) (hc : ∀ j, j < l * 5 → ci.f j = mcell (T (j / 5)) (j % 5)) (hh : hp[n]? = some (some (grown ci l 1 5 (mlV x) (mlV 0) cap))) : PostC ix hp n (mlT true cap (growT T l x)) :=
  ⟨_, hh, fun _ => rfl, by show cap * 5 ≤ cap * 5; omega, fun j hj => by
    have hj : j < cap * 5 := hj
    rw [seg_cell hj, grown_mlT h hc hj]; exact .plain (mcell_plain _ _)⟩
theorem air_re {ix : List (Nat × Nat)} {o o' : Bool} {k k' l c : Nat} (hk : ixK ix k' = some k) : ChunkRe ix (airC o (.slice (some ⟨k, 0, some 0⟩) l c)) (airC o' (.slice (some ⟨k', 0, some 0⟩) l c)) := fun j hj => by
  match j, hj with
  | 0, _ => exact .slice hk
theorem airT_post {ix : List (Nat × Nat)} {k l c : Nat} (k' : Nat) {hp : List (Option Chunk)} {n : Nat} {o : Chunk} (hk : ixK ix k' = some k) (hh : hp[n]? = some (some o)) (ho : o.own = true) (hn : 1 ≤ o.n) (hf : o.f 0 = .slice (some ⟨k', 0, some 0⟩) l c) : PostC ix hp n (airC true (.slice (some ⟨k, 0, some 0⟩) l c)) :=
  ⟨_, hh, fun _ => ho, hn, fun j hj => by
    match j, hj with
    | 0, _ => rw [hf]; exact .slice hk⟩
theorem airS_post {ix : List (Nat × Nat)} {k l c : Nat} (k' : Nat) {hp : List (Option Chunk)} {n : Nat} (hk : ixK ix k' = some k) (hh : hp[n]? = some (some (airC true (.slice (some ⟨k', 0, some 0⟩) l c)))) : PostC ix hp n (airC true (.slice (some ⟨k, 0, some 0⟩) l c)) := ⟨_, hh, id, Nat.le_refl _, air_re hk⟩
set_option maxRecDepth 100000 in
theorem clone0_x   (w : World) : Calls Try.prog 23 #[.slice none 0 0] w fun e w' => e = .returned (.slice none 0 0) ∧ Below w.heap.size w w' := by
  refine calls_pure (G := tys) w tysOK mixed Try.func23 (by rfl) (by first | rfl | (simp only [List.all_cons, List.all_nil, plain_wz, plain_lim, plain_wi]; rfl)) (by first | exact plain3_wz _ | exact plain3_wi _ _ _ | rfl | (simp only [plain3, List.all_cons, List.all_nil, plain_wz, plain_lim, plain_wi]; rfl)) ?_
  repeat' (refine N.go ?_; first | with_reducible refine N.obl (by decide) ?_ | with_reducible refine N.obl (flat_wi _ _ _) ?_ | with_reducible refine N.obl (flat_lim _ _) ?_ | with_reducible refine N.eq ?_ | with_reducible refine N.obl rfl ?_ | with_reducible refine N.obl ⟨by kernel_rfl, by kernel_rfl⟩ ?_ | with_reducible refine N.forkT ?_ | with_reducible refine N.forkF ?_ | refine N.forkNo (by decide) ?_ | refine N.forkYes (by decide) ?_)
  all_goals rfl
theorem cClone0 (h : List (Option Chunk)) : CallOK Try.prog 23 [.slice none 0 0] h (.slice none 0 0) [] [] := call_pure rfl rfl (Try.call23 _) clone0_x
set_option maxRecDepth 100000 in
theorem own0_x (x : Int)  (w : World) : Calls Try.prog 21 #[mlV x] w fun e w' => e = .returned (mlV x) ∧ Below w.heap.size w w' := by
  refine calls_pure (G := tys) w tysOK mixed Try.func21 (by rfl) (by first | rfl | (simp only [List.all_cons, List.all_nil, plain_wz, plain_lim, plain_wi]; rfl)) (by first | exact plain3_wz _ | exact plain3_wi _ _ _ | rfl | (simp only [plain3, List.all_cons, List.all_nil, plain_wz, plain_lim, plain_wi]; rfl)) ?_
  repeat' (refine N.go ?_; first | with_reducible refine N.obl (by decide) ?_ | with_reducible refine N.obl (flat_wi _ _ _) ?_ | with_reducible refine N.obl (flat_lim _ _) ?_ | with_reducible refine N.eq ?_ | with_reducible refine N.obl rfl ?_ | with_reducible refine N.obl ⟨by kernel_rfl, by kernel_rfl⟩ ?_ | with_reducible refine N.forkT ?_ | with_reducible refine N.forkF ?_ | refine N.call (cClone0 _) ?_ | refine N.forkNo (by decide) ?_ | refine N.forkYes (by decide) ?_)
  all_goals rfl
theorem cOwn0 (x : Int) (h : List (Option Chunk)) : CallOK Try.prog 21 [mlV x] h (mlV x) [] [] := call_pure rfl rfl (Try.call21 _) (own0_x x)
set_option maxRecDepth 100000 in
set_option maxHeartbeats 2000000 in
theorem cPutA (x : Int) (i L : Nat) (h : List (Option Chunk)) (hi : h[i]? = some (some (airC true (.slice none 0 0)))) (h0 : h[L]? = some none) :
    CallAll Try.prog 9 [.pointer (some ⟨i, 0, some 0⟩), mlV x] h (fun v ms => ∃ c : Nat, 1 ≤ c ∧ v = .bool true ∧ ms = [(i, airC true (.slice (some ⟨L, 0, some 0⟩) 1 c)), (L, mlT true c (growT (fun _ => 0) 0 x))]) := by
  refine call_suball (G := tys) (α := Nat) (fun c => 1 ≤ c) (fun c => .bool true) [⟨i, _, airC true (.slice none 0 0), airC true (.slice none 0 0)⟩] (fun c => [airC true (.slice (some ⟨L, 0, some 0⟩) 1 c)]) (fun c => [⟨L, 7, mlT true c (growT (fun _ => 0) 0 x)⟩]) [.pointer (some ⟨0, 0, some 0⟩), mlV x] tysOK mixed Try.func9 (by rfl) (Try.call9) ⟨hi, trivial⟩ ⟨⟨fun h => ⟨rfl, Nat.le_refl _⟩, Nat.le_refl _, fun j hj => by
    match j, hj with
    | 0, _ => exact .plain rfl⟩, trivial⟩ (fun _ _ => ⟨⟨fun h => ⟨rfl, Nat.le_refl _⟩, Nat.le_refl _, fun j hj => by
    match j, hj with
    | 0, _ => exact .plain rfl⟩, trivial⟩) (by simp [Apart]) (fun c hc => ⟨⟨h0, rfl, by show 0 < c * 5; omega, by simp⟩, trivial⟩) ⟨.ptr rfl, .plain rfl, trivial⟩ ?_
  repeat' (refine N.go ?_; first | with_reducible refine N.obl (by decide) ?_ | with_reducible refine N.obl (flat_wi _ _ _) ?_ | with_reducible refine N.obl (flat_lim _ _) ?_ | with_reducible refine N.eq ?_ | with_reducible refine N.obl rfl ?_ | with_reducible refine N.obl ⟨by kernel_rfl, by kernel_rfl⟩ ?_ | with_reducible refine N.forkT ?_ | with_reducible refine N.forkF ?_ | refine N.call (cOwn0 _ _) ?_ | refine N.forkNo (by decide) ?_ | refine N.forkYes (by decide) ?_ | refine N.obl (by show endB _ _ = Bool.true; kernel_rfl) ?_ | fail_if_success skip)
  refine N.go ?_
  refine N.plan [0, 1, 2, 3, 4, 5, 6, 7, 9, 10] [(8, [11])] (by kernel_rfl) ?_
  repeat' (refine N.go ?_; first | with_reducible refine N.obl (by decide) ?_ | with_reducible refine N.obl (flat_wi _ _ _) ?_ | with_reducible refine N.obl (flat_lim _ _) ?_ | with_reducible refine N.eq ?_ | with_reducible refine N.obl rfl ?_ | with_reducible refine N.obl ⟨by kernel_rfl, by kernel_rfl⟩ ?_ | with_reducible refine N.forkT ?_ | with_reducible refine N.forkF ?_ | refine N.call (cOwn0 _ _) ?_ | refine N.forkNo (by decide) ?_ | refine N.forkYes (by decide) ?_ | refine N.obl (by show endB _ _ = Bool.true; kernel_rfl) ?_ | fail_if_success skip)
  refine N.go ?_
  refine N.obl (by show midB _ _ _ _ = Bool.true; kernel_rfl) ?_
  refine N.go ?_
  refine App0N.mk1 (mlV x) ⟨Nat.le_refl _, _, rfl, rfl, fun j hj => by
    match j, hj with
    | 0, _ => rfl
    | 1, _ => rfl
    | 2, _ => rfl
    | 3, _ => rfl
    | 4, _ => rfl⟩ (by decide) (by decide) (by decide) fun c hc => ?_
  repeat' (refine N.go ?_; first | with_reducible refine N.obl (by decide) ?_ | with_reducible refine N.obl (flat_wi _ _ _) ?_ | with_reducible refine N.obl (flat_lim _ _) ?_ | with_reducible refine N.eq ?_ | with_reducible refine N.obl rfl ?_ | with_reducible refine N.obl ⟨by kernel_rfl, by kernel_rfl⟩ ?_ | with_reducible refine N.forkT ?_ | with_reducible refine N.forkF ?_ | refine N.call (cOwn0 _ _) ?_ | refine N.forkNo (by decide) ?_ | refine N.forkYes (by decide) ?_ | refine N.obl (by show endB _ _ = Bool.true; kernel_rfl) ?_ | fail_if_success skip)
  refine N.go ?_
  refine N.some c ⟨hc, ?_⟩
  refine N.obl (.plain rfl) ?_
  refine N.obl ⟨airT_post 7 (by rfl) (by rfl) rfl (Nat.le_refl _) rfl, trivial⟩ ?_
  refine N.obl ⟨⟨by show 1 ≤ 7; decide, grownT_post hc (fun j hj => absurd hj (by omega)) (by rfl)⟩, trivial⟩ ?_
  exact N.true
/-- What Put makes of n mails: they have room, or they move. -/
def putR (i L K n c : Nat) (T : Nat → Int) (x : Int) (v : Value) (ms : List (Nat × Chunk)) : Prop :=
  v = .bool true ∧ ((n < c ∧ ms = [(i, airC true (.slice (some ⟨L, 0, some 0⟩) (n + 1) c)), (L, mlT true c (setT T n x))]) ∨ ∃ c', n < c' ∧ c ≤ n ∧ ms = [(i, airC true (.slice (some ⟨K, 0, some 0⟩) (n + 1) c')), (L, mlT true c T), (K, mlT true c' (growT T n x))])
set_option maxRecDepth 100000 in
set_option maxHeartbeats 2000000 in
theorem cPutB (x : Int) (K : Nat) (i L n c : Nat) (T : Nat → Int) (h : List (Option Chunk)) (hi : h[i]? = some (some (airC true (.slice (some ⟨L, 0, some 0⟩) n c)))) (hL : h[L]? = some (some (mlT true c T))) (hiL : i ≠ L) (hn : 1 ≤ n) (hc : n ≤ c) (hm : n < 512) (h0 : h[K]? = some none) :
    CallAll Try.prog 9 [.pointer (some ⟨i, 0, some 0⟩), mlV x] h (putR i L K n c T x) := by
  have hKL : K ≠ i ∧ K ≠ L := ⟨fun e => (by subst e; rw [hi] at h0; cases h0), fun e => (by subst e; rw [hL] at h0; cases h0)⟩
  have key := call_suball (P := Try.prog) (G := tys) (α := Option Nat) (h := h) (vs := [.pointer (some ⟨i, 0, some 0⟩), mlV x]) (fun κ => match κ with | none => n < c | some c' => n < c' ∧ c ≤ n) (fun κ => .bool true) [⟨i, _, airC true (.slice (some ⟨1, 0, some 0⟩) n c), airC true (.slice (some ⟨L, 0, some 0⟩) n c)⟩, ⟨L, _, mlT true c T, mlT true c T⟩] (fun κ => (match κ with | none => [airC true (.slice (some ⟨L, 0, some 0⟩) (n + 1) c), mlT true c (setT T n x)] | some c' => [airC true (.slice (some ⟨K, 0, some 0⟩) (n + 1) c'), mlT true c T])) (fun κ => match κ with | none => [] | some c' => [⟨K, 8, mlT true c' (growT T n x)⟩]) [.pointer (some ⟨0, 0, some 0⟩), mlV x] tysOK mixed Try.func9 (by rfl) (Try.call9) ⟨hi, hL, trivial⟩ ⟨⟨fun h => ⟨rfl, Nat.le_refl _⟩, Nat.le_refl _, air_re (by rfl)⟩, ⟨fun h => ⟨rfl, Nat.le_refl _⟩, Nat.le_refl _, mlT_re (fun _ _ => rfl)⟩, trivial⟩ (fun κ _ => by cases κ <;> exact ⟨⟨fun h => ⟨rfl, Nat.le_refl _⟩, Nat.le_refl _, air_re (by rfl)⟩, ⟨fun h => ⟨rfl, Nat.le_refl _⟩, Nat.le_refl _, mlT_re (fun _ _ => rfl)⟩, trivial⟩) (by simp [Apart, hiL]) (fun κ hκ => by
    cases κ with
    | none => exact trivial
    | some c' => exact ⟨⟨h0, rfl, by show 0 < c' * 5; have := hκ.1; omega, by simp⟩, trivial⟩) ⟨.ptr rfl, .plain rfl, trivial⟩ ?_
  · intro X ρ w xs H hx'
    rcases key X ρ w xs H hx' with ⟨v, w', hr, u, ms, ρ', ⟨κ, hκ, rfl, rfl⟩, ha⟩ | ⟨hr, hcl⟩
    · refine .inl ⟨v, w', hr, _, _, ρ', ⟨rfl, ?_⟩, ha⟩
      cases κ with
      | none => exact .inl ⟨hκ, rfl⟩
      | some c' => exact .inr ⟨c', hκ.1, hκ.2, rfl⟩
    · refine .inr ⟨hr, hcl.mono ?_⟩
      rintro e w' ⟨y, he, u, ms, ρ', ⟨κ, hκ, rfl, rfl⟩, ha⟩
      refine ⟨y, he, _, _, ρ', ⟨rfl, ?_⟩, ha⟩
      cases κ with
      | none => exact .inl ⟨hκ, rfl⟩
      | some c' => exact .inr ⟨c', hκ.1, hκ.2, rfl⟩
  repeat' (refine N.go ?_; first | with_reducible refine N.obl (by decide) ?_ | with_reducible refine N.obl (flat_wi _ _ _) ?_ | with_reducible refine N.obl (flat_lim _ _) ?_ | with_reducible refine N.eq ?_ | with_reducible refine N.obl rfl ?_ | with_reducible refine N.obl ⟨by kernel_rfl, by kernel_rfl⟩ ?_ | with_reducible refine N.forkT ?_ | with_reducible refine N.forkF ?_ | refine N.call (cOwn0 _ _) ?_ | refine N.forkNo (by decide) ?_ | refine N.forkYes (by decide) ?_ | refine N.forkNo (by rw [decide_eq_false_iff_not]; omega) ?_ | refine N.obl (by show endB _ _ = Bool.true; kernel_rfl) ?_ | fail_if_success skip)
  refine N.go ?_
  refine N.plan [0, 1, 2, 3, 4, 5, 6, 7, 9, 10] [(8, [11])] (by kernel_rfl) ?_
  repeat' (refine N.go ?_; first | with_reducible refine N.obl (by decide) ?_ | with_reducible refine N.obl (flat_wi _ _ _) ?_ | with_reducible refine N.obl (flat_lim _ _) ?_ | with_reducible refine N.eq ?_ | with_reducible refine N.obl rfl ?_ | with_reducible refine N.obl ⟨by kernel_rfl, by kernel_rfl⟩ ?_ | with_reducible refine N.forkT ?_ | with_reducible refine N.forkF ?_ | refine N.call (cOwn0 _ _) ?_ | refine N.forkNo (by decide) ?_ | refine N.forkYes (by decide) ?_ | refine N.forkNo (by rw [decide_eq_false_iff_not]; omega) ?_ | refine N.obl (by show endB _ _ = Bool.true; kernel_rfl) ?_ | fail_if_success skip)
  refine N.go ?_
  refine N.obl (by show midB _ _ _ _ = Bool.true; kernel_rfl) ?_
  refine N.go ?_
  refine AppN.mk1 (mlV x) ⟨Nat.le_refl _, _, rfl, rfl, fun j hj => by
    match j, hj with
    | 0, _ => rfl
    | 1, _ => rfl
    | 2, _ => rfl
    | 3, _ => rfl
    | 4, _ => rfl⟩ (by rfl) (by show n * 5 ≤ c * 5; omega) (by omega) (by show (n + 1) * 56 ≤ _; omega) (mlT true c (setT T n x)) (fun h => wr_mlT (by omega) rfl) (fun hr => ?_) (fun hg cap hcap => ?_)
  · repeat' (refine N.go ?_; first | with_reducible refine N.obl (by decide) ?_ | with_reducible refine N.obl (flat_wi _ _ _) ?_ | with_reducible refine N.obl (flat_lim _ _) ?_ | with_reducible refine N.eq ?_ | with_reducible refine N.obl rfl ?_ | with_reducible refine N.obl ⟨by kernel_rfl, by kernel_rfl⟩ ?_ | with_reducible refine N.forkT ?_ | with_reducible refine N.forkF ?_ | refine N.call (cOwn0 _ _) ?_ | refine N.forkNo (by decide) ?_ | refine N.forkYes (by decide) ?_ | refine N.forkNo (by rw [decide_eq_false_iff_not]; omega) ?_ | refine N.obl (by show endB _ _ = Bool.true; kernel_rfl) ?_ | fail_if_success skip)
    refine N.go ?_
    refine N.some none ⟨hr, ?_⟩
    refine N.obl (.plain rfl) ?_
    refine N.obl ⟨airT_post 1 (by rfl) (by rfl) rfl (Nat.le_refl _) rfl, mlT_post (fun _ _ => rfl) (by rfl), trivial⟩ ?_
    refine N.obl trivial ?_
    exact N.true
  · repeat' (refine N.go ?_; first | with_reducible refine N.obl (by decide) ?_ | with_reducible refine N.obl (flat_wi _ _ _) ?_ | with_reducible refine N.obl (flat_lim _ _) ?_ | with_reducible refine N.eq ?_ | with_reducible refine N.obl rfl ?_ | with_reducible refine N.obl ⟨by kernel_rfl, by kernel_rfl⟩ ?_ | with_reducible refine N.forkT ?_ | with_reducible refine N.forkF ?_ | refine N.call (cOwn0 _ _) ?_ | refine N.forkNo (by decide) ?_ | refine N.forkYes (by decide) ?_ | refine N.forkNo (by rw [decide_eq_false_iff_not]; omega) ?_ | refine N.obl (by show endB _ _ = Bool.true; kernel_rfl) ?_ | fail_if_success skip)
    refine N.go ?_
    refine N.some (some cap) ⟨⟨hcap, by omega⟩, ?_⟩
    refine N.obl (.plain rfl) ?_
    refine N.obl ⟨airT_post 8 (by rfl) (by rfl) rfl (Nat.le_refl _) rfl, mlT_post (fun _ _ => rfl) (by rfl), trivial⟩ ?_
    refine N.obl ⟨⟨by show 2 ≤ 8; decide, grownT_post (ci := mlT true c T) hcap (fun j hj => seg_cell (by omega)) (by rfl)⟩, trivial⟩ ?_
    exact N.true
set_option maxRecDepth 100000 in
set_option maxHeartbeats 2000000 in
theorem cPutN (x : Int) (o1 o2 : Bool) (i L n c : Nat) (T : Nat → Int) (h : List (Option Chunk)) (hi : h[i]? = some (some (airC o1 (.slice (some ⟨L, 0, some 0⟩) n c)))) (hL : h[L]? = some (some (mlT o2 c T))) (hiL : i ≠ L) (hn : 1 ≤ n) (hc : n ≤ c) (hm : 512 ≤ n) :
    CallOK Try.prog 9 [.pointer (some ⟨i, 0, some 0⟩), mlV x] h (.bool false) [] [i, L] := by
  refine call_sub (G := tys) [⟨i, _, airC false (.slice (some ⟨1, 0, some 0⟩) n c), ⟨false, 0, []⟩⟩, ⟨L, _, mlT false c T, ⟨false, 0, []⟩⟩] [] [.pointer (some ⟨0, 0, some 0⟩), mlV x] tysOK mixed Try.func9 (by rfl) (Try.call9) ⟨hi, hL, trivial⟩ ⟨⟨fun h => (by cases h), Nat.le_refl _, air_re (by rfl)⟩, ⟨fun h => (by cases h), Nat.le_refl _, mlT_re (fun _ _ => rfl)⟩, trivial⟩ (by simp [Apart]) trivial ⟨.ptr rfl, .plain rfl, trivial⟩ ?_
  repeat' (refine N.go ?_; first | with_reducible refine N.obl (by decide) ?_ | with_reducible refine N.obl (flat_wi _ _ _) ?_ | with_reducible refine N.obl (flat_lim _ _) ?_ | with_reducible refine N.eq ?_ | with_reducible refine N.obl rfl ?_ | with_reducible refine N.obl ⟨by kernel_rfl, by kernel_rfl⟩ ?_ | with_reducible refine N.forkT ?_ | with_reducible refine N.forkF ?_ | refine N.forkNo (by decide) ?_ | refine N.forkYes (by decide) ?_ | refine N.forkYes (by rw [decide_eq_true_eq]; omega) ?_ | refine N.obl (.plain rfl) ?_ | refine N.obl (.tuple ⟨.plain rfl, .plain rfl, trivial⟩) ?_ | refine N.obl trivial ?_ | exact N.true | fail_if_success skip)
set_option maxRecDepth 100000 in
set_option maxHeartbeats 2000000 in
theorem cGetA (k : Nat) (o1 o2 : Bool) (i L n c : Nat) (T : Nat → Int) (h : List (Option Chunk)) (hi : h[i]? = some (some (airC o1 (.slice (some ⟨L, 0, some 0⟩) n c)))) (hL : h[L]? = some (some (mlT o2 c T))) (hiL : i ≠ L) (hn : 1 ≤ n) (hc : n ≤ c) (hk : k < n) (hm : n < 4611686018427387904) :
    CallOK Try.prog 13 [.pointer (some ⟨i, 0, some 0⟩), .int .i64 (k : Int)] h (.tuple #[mlV (T k), .bool true]) [] [i, L] := by
  refine call_sub (G := tys) [⟨i, _, airC false (.slice (some ⟨1, 0, some 0⟩) n c), ⟨false, 0, []⟩⟩, ⟨L, _, mlT false c T, ⟨false, 0, []⟩⟩] [] [.pointer (some ⟨0, 0, some 0⟩), .int .i64 (k : Int)] tysOK mixed Try.func13 (by rfl) (Try.call13) ⟨hi, hL, trivial⟩ ⟨⟨fun h => (by cases h), Nat.le_refl _, air_re (by rfl)⟩, ⟨fun h => (by cases h), Nat.le_refl _, mlT_re (fun _ _ => rfl)⟩, trivial⟩ (by simp [Apart]) trivial ⟨.ptr rfl, .plain rfl, trivial⟩ ?_
  repeat' (refine N.go ?_; first | with_reducible refine N.obl (by decide) ?_ | with_reducible refine N.obl (flat_wi _ _ _) ?_ | with_reducible refine N.obl (flat_lim _ _) ?_ | with_reducible refine N.eq ?_ | with_reducible refine N.obl rfl ?_ | with_reducible refine N.obl ⟨by kernel_rfl, by kernel_rfl⟩ ?_ | with_reducible refine N.forkT ?_ | with_reducible refine N.forkF ?_ | refine N.call (cOwn0 _ _) ?_ | refine N.call (cLen1 _ n c 1 _ _ (by rfl) (by rfl)) ?_ | refine N.idx k 1 rfl hk ?_ | refine N.load _ (rd_mlT k rfl (by omega) (by first | rfl | omega)) ?_ | refine N.forkNo (by decide) ?_ | refine N.forkYes (by decide) ?_ | refine N.forkNo (by rw [decide_eq_false_iff_not]; omega) ?_ | refine N.obl (.plain rfl) ?_ | refine N.obl (.tuple ⟨.plain rfl, .plain rfl, trivial⟩) ?_ | refine N.obl trivial ?_ | exact N.true | fail_if_success skip)
end Go.Proofs.Ytgikbmohmomgbaa
