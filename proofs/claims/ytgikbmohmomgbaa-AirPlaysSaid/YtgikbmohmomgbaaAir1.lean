
/-
  The walks of air at one mail of one byte.
-/
import Derived.Test.YtgikbmohmomgbaaRen
import Derived.Test.YtgikbmohmomgbaaArg
import Derived.Test.YtgikbmohmomgbaaMore
set_option linter.unusedVariables false
set_option linter.unusedSimpArgs false
namespace Go.Proofs.Ytgikbmohmomgbaa
open Go Go.RowKit Sx

theorem App0N.mk1 {cj : Chunk} {g m size bytes : Nat} {z : Value} {slot : Nat} {K : Value → List (Nat × Chunk) → Prop} (v : Value) (hr : Reads cj g true (m * size) v) (h0 : 0 < m) (h1 : m ≤ 9223372036854775807) (h2 : m * bytes ≤ 140737488355328)
    (k : ∀ cap, m ≤ cap → K (.slice (some ⟨slot, 0, some 0⟩) m cap) [(slot, grown ⟨true, 0, []⟩ 0 m size v z cap)]) : N (App0N cj g m size bytes z slot K) := N.mk (.inl ⟨v, hr, h0, h1, h2, k⟩)
theorem AppN.mk1 {ci : Chunk} {k s l c : Nat} {cj : Chunk} {g m size bytes : Nat} {z : Value} {slot : Nat} {K : Value → List (Nat × Chunk) → Prop} (v : Value) (hr : Reads cj g true (m * size) v) (hf : flatB v (m * size) = true) (hl : l * size ≤ ci.n) (h1 : l + m ≤ 9223372036854775807) (h2 : (l + m) * bytes ≤ 140737488355328)
    (d : Chunk) (hw : l + m ≤ c → Writes ci (l * size) (m * size) v d) (k1 : l + m ≤ c → K (.slice (some ⟨k, 0, some s⟩) (l + m) c) [(k, d)]) (k2 : c < l + m → ∀ cap, l + m ≤ cap → K (.slice (some ⟨slot, 0, some 0⟩) (l + m) cap) [(slot, grown ci l m size v z cap)]) : N (AppN ci k s l c cj g m size bytes z slot K) :=
  N.mk ⟨v, hr, hf, hl, h1, h2, fun h => ⟨d, hw h, k1 h⟩, k2⟩
theorem N.callM {P : Program} {g : FuncId} {vs : List Value} {h : List (Option Chunk)} {slot : Nat} {C : List Nat → Prop} {K : List Nat → Value → List (Nat × Chunk) → Prop} (hs : List Nat) (R : Value → List (Nat × Chunk) → Prop) (hC : C hs) (hc : ∀ h₂ : List (Option Chunk), (∀ q ∈ hs, h₂[q]? = h[q]?) → CallAll P g vs h₂ R) (k : ∀ v ms, R v ms → (∀ q ∈ ms.map (·.1), q ∈ hs) ∧ K hs v ms) : N (CallM P g vs h slot C K) := N.mk ⟨hs, R, hC, hc, k⟩
/-- One byte, with room. -/
abbrev byC (o : Bool) (c : Nat) (x : Int) : Chunk := ⟨o, c, [(0, c, .agg ⟨segL c (fun j => .int .u8 (if j = 0 then x else 0))⟩)]⟩
theorem by_re {ix : List (Nat × Nat)} {o : Bool} {c : Nat} {x : Int} (h : 1 ≤ c) : ChunkRe ix (byC o c x) ⟨false, 1, [(0, 1, .agg ⟨[.int .u8 x]⟩)]⟩ := fun j hj => by
  match j, hj with
  | 0, _ => rw [seg_cell (by omega)]; exact .plain rfl
theorem by_grown {ix : List (Nat × Nat)} {ci : Chunk} {c : Nat} {x : Int} (h : 1 ≤ c) {hp : List (Option Chunk)} {k : Nat} (hh : hp[k]? = some (some (grown ci 0 1 1 (.agg ⟨[.int .u8 x]⟩) (.int .u8 0) c))) : PostC ix hp k (byC true c x) :=
  ⟨_, hh, fun _ => rfl, by show c ≤ c * 1; omega, fun j hj => by
    have hj : j < c := hj
    rw [seg_cell hj]
    by_cases e : j = 0
    · subst e
      have := grown_new (ci := ci) (l := 0) (m := 1) (size := 1) (cap := c) (v := .agg ⟨[.int .u8 x]⟩) (z := .int .u8 0) (j := 0) (by omega)
      rw [show 0 * 1 + 0 = 0 from rfl] at this
      rw [this]; exact .plain rfl
    · rw [grown_zero (by omega) (by omega), if_neg e]
      unfold repZ
      rw [Nat.mod_one]; exact .plain rfl⟩
set_option maxRecDepth 100000 in
set_option maxHeartbeats 2000000 in
theorem cClone1 (x : Int) (i q K : Nat) (o : Chunk) (h : List (Option Chunk)) (hi : h[i]? = some (some o)) (hn : 1 ≤ o.n) (ho : o.f 0 = .int .u8 x) (h0 : h[K]? = some none) :
    CallAll Try.prog 23 [.slice (some ⟨i, 0, some 0⟩) 1 q] h (fun v ms => ∃ c, 1 ≤ c ∧ v = .slice (some ⟨K, 0, some 0⟩) 1 c ∧ ms = [(K, byC true c x)]) := by
  refine call_suball (G := tys) (α := Nat) (fun c => 1 ≤ c) (fun c => .slice (some ⟨K, 0, some 0⟩) 1 c) [⟨i, o, ⟨false, 1, [(0, 1, .agg ⟨[.int .u8 x]⟩)]⟩, ⟨false, 0, []⟩⟩] (fun _ => []) (fun c => [⟨K, 2, byC true c x⟩]) [.slice (some ⟨0, 0, some 0⟩) 1 q] tysOK mixed Try.func23 (by rfl) (Try.call23) ⟨hi, trivial⟩ ⟨⟨fun h => (by cases h), hn, fun j hj => by
    match j, hj with
    | 0, _ => rw [ho]; exact .plain rfl⟩, trivial⟩ (fun _ _ => ⟨⟨fun h => (by cases h), hn, fun j hj => by
    match j, hj with
    | 0, _ => rw [ho]; exact .plain rfl⟩, trivial⟩) (by simp [Apart]) (fun c hc => ⟨⟨h0, rfl, hc, by simp⟩, trivial⟩) ⟨.slice rfl, trivial⟩ ?_
  repeat' (refine N.go ?_; first | with_reducible refine N.obl (by decide) ?_ | with_reducible refine N.obl (flat_wi _ _ _) ?_ | with_reducible refine N.obl (flat_lim _ _) ?_ | with_reducible refine N.eq ?_ | with_reducible refine N.obl rfl ?_ | with_reducible refine N.obl ⟨by kernel_rfl, by kernel_rfl⟩ ?_ | with_reducible refine N.alt ?_ | with_reducible refine N.forkT ?_ | with_reducible refine N.forkF ?_ | refine N.forkNo (by decide) ?_ | refine N.forkYes (by decide) ?_ | fail_if_success skip)
  refine N.go ?_
  refine AppN.mk1 (.agg ⟨[.int .u8 x]⟩) ⟨Nat.le_refl _, _, rfl, rfl, fun j hj => by
    match j, hj with
    | 0, _ => rfl⟩ (by rfl) (by decide) (by decide) (by decide) ⟨true, 0, []⟩ (fun h => absurd h (by decide)) (fun h => absurd h (by decide)) (fun hlt c hc => ?_)
  repeat' (refine N.go ?_; first | with_reducible refine N.obl (by decide) ?_ | with_reducible refine N.obl (flat_wi _ _ _) ?_ | with_reducible refine N.obl (flat_lim _ _) ?_ | with_reducible refine N.eq ?_ | with_reducible refine N.obl rfl ?_ | with_reducible refine N.obl ⟨by kernel_rfl, by kernel_rfl⟩ ?_ | with_reducible refine N.alt ?_ | with_reducible refine N.forkT ?_ | with_reducible refine N.forkF ?_ | refine N.forkNo (by decide) ?_ | refine N.forkYes (by decide) ?_ | fail_if_success skip)
  refine N.go ?_
  refine N.some c ⟨hc, ?_⟩
  refine N.obl (.one (.slice (by rfl))) ?_
  refine N.obl trivial ?_
  refine N.obl ⟨⟨by show 1 ≤ 2; decide, by_grown hc (by rfl)⟩, trivial⟩ ?_
  exact N.true
theorem by_post {ix : List (Nat × Nat)} {c : Nat} {x : Int} {hp : List (Option Chunk)} {k : Nat} (hh : hp[k]? = some (some (byC true c x))) : PostC ix hp k (byC true c x) :=
  ⟨_, hh, id, Nat.le_refl _, fun j hj => by
    have hj : j < c := hj
    rw [seg_cell hj]; exact .plain rfl⟩
set_option maxRecDepth 100000 in
set_option maxHeartbeats 2000000 in
theorem cOwn1 (to_ at_ tr x : Int) (be : Bool) (i q K : Nat) (o : Chunk) (h : List (Option Chunk)) (hi : h[i]? = some (some o)) (hn : 1 ≤ o.n) (ho : o.f 0 = .int .u8 x) (h0 : h[K]? = some none) :
    CallAll Try.prog 21 [.agg #[.int .i64 to_, .slice (some ⟨i, 0, some 0⟩) 1 q, .int .i64 at_, .int .i64 tr, .bool be]] h (fun v ms => ∃ c, 1 ≤ c ∧ v = .agg #[.int .i64 to_, .slice (some ⟨K, 0, some 0⟩) 1 c, .int .i64 at_, .int .i64 tr, .bool be] ∧ ms = [(K, byC true c x)]) := by
  refine call_suball (G := tys) (α := Nat) (fun c => 1 ≤ c) (fun c => .agg #[.int .i64 to_, .slice (some ⟨K, 0, some 0⟩) 1 c, .int .i64 at_, .int .i64 tr, .bool be]) [⟨i, o, ⟨false, 1, [(0, 1, .agg ⟨[.int .u8 x]⟩)]⟩, ⟨false, 0, []⟩⟩] (fun _ => []) (fun c => [⟨K, 3, byC true c x⟩]) [.agg #[.int .i64 to_, .slice (some ⟨0, 0, some 0⟩) 1 q, .int .i64 at_, .int .i64 tr, .bool be]] tysOK mixed Try.func21 (by rfl) (Try.call21) ⟨hi, trivial⟩ ⟨⟨fun h => (by cases h), hn, fun j hj => by
    match j, hj with
    | 0, _ => rw [ho]; exact .plain rfl⟩, trivial⟩ (fun _ _ => ⟨⟨fun h => (by cases h), hn, fun j hj => by
    match j, hj with
    | 0, _ => rw [ho]; exact .plain rfl⟩, trivial⟩) (by simp [Apart]) (fun c hc => ⟨⟨h0, rfl, hc, by simp⟩, trivial⟩) ⟨.agg ⟨.plain rfl, .slice (by rfl), .plain rfl, .plain rfl, .plain rfl, trivial⟩, trivial⟩ ?_
  repeat' (refine N.go ?_; first | with_reducible refine N.obl (by decide) ?_ | with_reducible refine N.obl (flat_wi _ _ _) ?_ | with_reducible refine N.obl (flat_lim _ _) ?_ | with_reducible refine N.eq ?_ | with_reducible refine N.obl rfl ?_ | with_reducible refine N.obl ⟨by kernel_rfl, by kernel_rfl⟩ ?_ | with_reducible refine N.alt ?_ | with_reducible refine N.forkT ?_ | with_reducible refine N.forkF ?_ | refine N.forkNo (by decide) ?_ | refine N.forkYes (by decide) ?_ | fail_if_success skip)
  refine N.go ?_
  refine N.callAll (cClone1 x 0 q 3 _ _ (by rfl) (Nat.le_refl _) rfl (by rfl)) fun v ms hR => ?_
  obtain ⟨c, hc, rfl, rfl⟩ := hR
  repeat' (refine N.go ?_; first | with_reducible refine N.obl (by decide) ?_ | with_reducible refine N.obl (flat_wi _ _ _) ?_ | with_reducible refine N.obl (flat_lim _ _) ?_ | with_reducible refine N.eq ?_ | with_reducible refine N.obl rfl ?_ | with_reducible refine N.obl ⟨by kernel_rfl, by kernel_rfl⟩ ?_ | with_reducible refine N.alt ?_ | with_reducible refine N.forkT ?_ | with_reducible refine N.forkF ?_ | refine N.forkNo (by decide) ?_ | refine N.forkYes (by decide) ?_ | fail_if_success skip)
  refine N.go ?_
  refine N.some c ⟨hc, ?_⟩
  refine N.obl (.one (.agg ⟨.plain rfl, .slice (by rfl), .plain rfl, .plain rfl, .plain rfl, trivial⟩)) ?_
  refine N.obl trivial ?_
  refine N.obl ⟨⟨by show 1 ≤ 3; decide, by_post (by rfl)⟩, trivial⟩ ?_
  exact N.true
abbrev airC (o : Bool) (v : Value) : Chunk := ⟨o, 1, [(0, 1, .agg #[v])]⟩
/-- One mail, with room. -/
abbrev mlC (o : Bool) (c k l q : Nat) (to_ at_ tr : Int) (be : Bool) : Chunk := ⟨o, c * 5, [(0, c * 5, .agg ⟨segL (c * 5) (fun j => if j < 5 then [.int .i64 to_, .slice (some ⟨k, 0, some 0⟩) l q, .int .i64 at_, .int .i64 tr, .bool be].getD j undef else repZ 5 (.agg #[.int .i64 0, .slice none 0 0, .int .i64 0, .int .i64 0, .bool false]) j)⟩)]⟩
theorem ml_grown {ix : List (Nat × Nat)} {c k k' q : Nat} {to_ at_ tr : Int} {be : Bool} (h : 1 ≤ c) (hk : ixK ix k' = some k) {hp : List (Option Chunk)} {n : Nat} (hh : hp[n]? = some (some (grown ⟨true, 0, []⟩ 0 1 5 (.agg ⟨[.int .i64 to_, .slice (some ⟨k', 0, some 0⟩) 1 q, .int .i64 at_, .int .i64 tr, .bool be]⟩) (.agg #[.int .i64 0, .slice none 0 0, .int .i64 0, .int .i64 0, .bool false]) c))) : PostC ix hp n (mlC true c k 1 q to_ at_ tr be) :=
  ⟨_, hh, fun _ => rfl, Nat.le_refl _, fun j hj => by
    have hj : j < c * 5 := hj
    rw [seg_cell hj]
    by_cases e : j < 5
    · rw [if_pos e]
      have := grown_new (ci := ⟨true, 0, []⟩) (l := 0) (m := 1) (size := 5) (cap := c) (v := .agg ⟨[.int .i64 to_, .slice (some ⟨k', 0, some 0⟩) 1 q, .int .i64 at_, .int .i64 tr, .bool be]⟩) (z := (.agg #[.int .i64 0, .slice none 0 0, .int .i64 0, .int .i64 0, .bool false])) (j := j) (by omega)
      rw [show 0 * 5 + j = j from by omega] at this
      rw [this]
      match j, e with
      | 0, _ => exact .plain rfl
      | 1, _ => exact .slice hk
      | 2, _ => exact .plain rfl
      | 3, _ => exact .plain rfl
      | 4, _ => exact .plain rfl
    · rw [grown_zero (by omega) hj, if_neg e]
      have : j % 5 < 5 := Nat.mod_lt _ (by decide)
      refine .plain ?_
      unfold repZ
      rcases (by omega : j % 5 = 0 ∨ j % 5 = 1 ∨ j % 5 = 2 ∨ j % 5 = 3 ∨ j % 5 = 4) with e | e | e | e | e <;> rw [e] <;> rfl⟩
set_option maxRecDepth 100000 in
set_option maxHeartbeats 2000000 in
theorem cPut1 (to_ at_ tr x : Int) (be : Bool) (i j q K L : Nat) (o2 : Chunk) (h : List (Option Chunk)) (hi : h[i]? = some (some (airC true (.slice none 0 0)))) (hj : h[j]? = some (some o2)) (hn : 1 ≤ o2.n) (ho : o2.f 0 = .int .u8 x) (hij : i ≠ j) (h0 : h[K]? = some none) (h1 : h[L]? = some none) (hKL : K ≠ L) :
    CallAll Try.prog 9 [.pointer (some ⟨i, 0, some 0⟩), .agg #[.int .i64 to_, .slice (some ⟨j, 0, some 0⟩) 1 q, .int .i64 at_, .int .i64 tr, .bool be]] h (fun v ms => ∃ κ : Nat × Nat, (1 ≤ κ.1 ∧ 1 ≤ κ.2) ∧ v = .bool true ∧ ms = [(i, airC true (.slice (some ⟨L, 0, some 0⟩) 1 κ.2)), (K, byC true κ.1 x), (L, mlC true κ.2 K 1 κ.1 to_ at_ tr be)]) := by
  refine call_suball (G := tys) (α := Nat × Nat) (fun κ => 1 ≤ κ.1 ∧ 1 ≤ κ.2) (fun κ => .bool true) [⟨i, _, airC true (.slice none 0 0), airC true (.slice none 0 0)⟩, ⟨j, o2, ⟨false, 1, [(0, 1, .agg ⟨[.int .u8 x]⟩)]⟩, ⟨false, 0, []⟩⟩] (fun κ => [airC true (.slice (some ⟨L, 0, some 0⟩) 1 κ.2)]) (fun κ => [⟨K, 3, byC true κ.1 x⟩, ⟨L, 8, mlC true κ.2 K 1 κ.1 to_ at_ tr be⟩]) [.pointer (some ⟨0, 0, some 0⟩), .agg #[.int .i64 to_, .slice (some ⟨1, 0, some 0⟩) 1 q, .int .i64 at_, .int .i64 tr, .bool be]] tysOK mixed Try.func9 (by rfl) (Try.call9) ⟨hi, hj, trivial⟩ ⟨⟨fun h => ⟨rfl, Nat.le_refl _⟩, Nat.le_refl _, fun j hj => by
    match j, hj with
    | 0, _ => exact .plain rfl⟩, ⟨fun h => (by cases h), hn, fun j hj => by
    match j, hj with
    | 0, _ => rw [ho]; exact .plain rfl⟩, trivial⟩ (fun _ _ => ⟨⟨fun h => ⟨rfl, Nat.le_refl _⟩, Nat.le_refl _, fun j hj => by
    match j, hj with
    | 0, _ => exact .plain rfl⟩, ⟨fun h => (by cases h), hn, fun j hj => by
    match j, hj with
    | 0, _ => rw [ho]; exact .plain rfl⟩, trivial⟩) (by simp [Apart, hij]) (fun κ hκ => ⟨⟨h0, rfl, hκ.1, by simp [hKL]⟩, ⟨h1, rfl, by show 0 < κ.2 * 5; omega, by simp⟩, trivial⟩) ⟨.ptr rfl, .agg ⟨.plain rfl, .slice (by rfl), .plain rfl, .plain rfl, .plain rfl, trivial⟩, trivial⟩ ?_
  repeat' (refine N.go ?_; first | with_reducible refine N.obl (by decide) ?_ | with_reducible refine N.obl (flat_wi _ _ _) ?_ | with_reducible refine N.obl (flat_lim _ _) ?_ | with_reducible refine N.eq ?_ | with_reducible refine N.obl rfl ?_ | with_reducible refine N.obl ⟨by kernel_rfl, by kernel_rfl⟩ ?_ | with_reducible refine N.alt ?_ | with_reducible refine N.forkT ?_ | with_reducible refine N.forkF ?_ | refine N.forkNo (by decide) ?_ | refine N.forkYes (by decide) ?_ | refine N.obl (by show endB _ _ = Bool.true; kernel_rfl) ?_ | fail_if_success skip)
  refine N.go ?_
  refine N.plan [0, 1, 2, 3, 4, 5, 9, 10] [(6, [7]), (8, [11])] (by kernel_rfl) ?_
  repeat' (refine N.go ?_; first | with_reducible refine N.obl (by decide) ?_ | with_reducible refine N.obl (flat_wi _ _ _) ?_ | with_reducible refine N.obl (flat_lim _ _) ?_ | with_reducible refine N.eq ?_ | with_reducible refine N.obl rfl ?_ | with_reducible refine N.obl ⟨by kernel_rfl, by kernel_rfl⟩ ?_ | with_reducible refine N.alt ?_ | with_reducible refine N.forkT ?_ | with_reducible refine N.forkF ?_ | refine N.forkNo (by decide) ?_ | refine N.forkYes (by decide) ?_ | refine N.obl (by show endB _ _ = Bool.true; kernel_rfl) ?_ | fail_if_success skip)
  refine N.go ?_
  refine N.callM [1, 3] _ (by kernel_rfl) (fun h₂ hh => cOwn1 to_ at_ tr x be 1 q 3 _ h₂ ((hh 1 (by simp)).trans rfl) (Nat.le_refl _) rfl ((hh 3 (by simp)).trans rfl)) fun v ms hR => ?_
  obtain ⟨c1, hc1, rfl, rfl⟩ := hR
  refine ⟨by simp, ?_⟩
  repeat' (refine N.go ?_; first | with_reducible refine N.obl (by decide) ?_ | with_reducible refine N.obl (flat_wi _ _ _) ?_ | with_reducible refine N.obl (flat_lim _ _) ?_ | with_reducible refine N.eq ?_ | with_reducible refine N.obl rfl ?_ | with_reducible refine N.obl ⟨by kernel_rfl, by kernel_rfl⟩ ?_ | with_reducible refine N.alt ?_ | with_reducible refine N.forkT ?_ | with_reducible refine N.forkF ?_ | refine N.forkNo (by decide) ?_ | refine N.forkYes (by decide) ?_ | refine N.obl (by show endB _ _ = Bool.true; kernel_rfl) ?_ | fail_if_success skip)
  refine N.go ?_
  refine N.obl (by show midB _ _ _ _ = Bool.true; kernel_rfl) ?_
  refine N.go ?_
  refine App0N.mk1 (.agg ⟨[.int .i64 to_, .slice (some ⟨3, 0, some 0⟩) 1 c1, .int .i64 at_, .int .i64 tr, .bool be]⟩) ⟨Nat.le_refl _, _, rfl, rfl, fun j hj => by
    match j, hj with
    | 0, _ => rfl
    | 1, _ => rfl
    | 2, _ => rfl
    | 3, _ => rfl
    | 4, _ => rfl⟩ (by decide) (by decide) (by decide) fun c2 hc2 => ?_
  repeat' (refine N.go ?_; first | with_reducible refine N.obl (by decide) ?_ | with_reducible refine N.obl (flat_wi _ _ _) ?_ | with_reducible refine N.obl (flat_lim _ _) ?_ | with_reducible refine N.eq ?_ | with_reducible refine N.obl rfl ?_ | with_reducible refine N.obl ⟨by kernel_rfl, by kernel_rfl⟩ ?_ | with_reducible refine N.alt ?_ | with_reducible refine N.forkT ?_ | with_reducible refine N.forkF ?_ | refine N.forkNo (by decide) ?_ | refine N.forkYes (by decide) ?_ | refine N.obl (by show endB _ _ = Bool.true; kernel_rfl) ?_ | fail_if_success skip)
  refine N.go ?_
  refine N.some (c1, c2) ⟨⟨hc1, hc2⟩, ?_⟩
  refine N.obl (.plain rfl) ?_
  refine N.obl ⟨⟨_, rfl, id, Nat.le_refl _, fun j hj => by
    match j, hj with
    | 0, _ => exact .slice (by rfl)⟩, trivial⟩ ?_
  refine N.obl ⟨⟨by show 2 ≤ 3; decide, by_post (by rfl)⟩, ⟨by show 2 ≤ 8; decide, ml_grown (k' := 3) hc2 (by rfl) (by rfl)⟩, trivial⟩ ?_
  exact N.true
def mlL (k l q : Nat) (to_ at_ tr : Int) (be : Bool) : List Value := [.int .i64 to_, .slice (some ⟨k, 0, some 0⟩) l q, .int .i64 at_, .int .i64 tr, .bool be]
theorem ml_re {ix : List (Nat × Nat)} {o o' : Bool} {c k k' l q : Nat} {to_ at_ tr : Int} {be : Bool} (hk : ixK ix k' = some k) : ChunkRe ix (mlC o c k l q to_ at_ tr be) (mlC o' c k' l q to_ at_ tr be) := fun j hj => by
  have hj : j < c * 5 := hj
  rw [seg_cell hj, seg_cell hj]
  by_cases e : j < 5
  · rw [if_pos e, if_pos e]
    match j, e with
    | 0, _ => exact .plain rfl
    | 1, _ => exact .slice hk
    | 2, _ => exact .plain rfl
    | 3, _ => exact .plain rfl
    | 4, _ => exact .plain rfl
  · rw [if_neg e, if_neg e]
    refine .plain ?_
    unfold repZ
    rcases (by omega : j % 5 = 0 ∨ j % 5 = 1 ∨ j % 5 = 2 ∨ j % 5 = 3 ∨ j % 5 = 4) with e | e | e | e | e <;> rw [e] <;> rfl
theorem ml_post {ix : List (Nat × Nat)} {c k l q : Nat} (k' : Nat) {to_ at_ tr : Int} {be : Bool} {hp : List (Option Chunk)} {n : Nat} (hk : ixK ix k' = some k) (hh : hp[n]? = some (some (mlC true c k' l q to_ at_ tr be))) : PostC ix hp n (mlC true c k l q to_ at_ tr be) := ⟨_, hh, id, Nat.le_refl _, ml_re hk⟩
theorem rd_bent {o : Bool} {c k l q p : Nat} {to_ at_ tr : Int} {be : Bool} (h : 1 ≤ c) (e : p = 4) : Reads (mlC o c k l q to_ at_ tr be) p false 1 (.bool be) := by
  subst e; exact ⟨by show 4 + 1 ≤ c * 5; omega, rfl, by rw [seg_cell (by omega)]; rfl⟩
theorem rd_data {o : Bool} {c k l q p : Nat} {to_ at_ tr : Int} {be : Bool} (h : 1 ≤ c) (e : p = 1) : Reads (mlC o c k l q to_ at_ tr be) p false 1 (.slice (some ⟨k, 0, some 0⟩) l q) := by
  subst e; exact ⟨by show 1 + 1 ≤ c * 5; omega, rfl, by rw [seg_cell (by omega)]; rfl⟩
theorem rd_mail {o : Bool} {c k l q p : Nat} {to_ at_ tr : Int} {be : Bool} (h : 1 ≤ c) (e : p = 0) : Reads (mlC o c k l q to_ at_ tr be) p true 5 (.agg ⟨[.int .i64 to_, .slice (some ⟨k, 0, some 0⟩) l q, .int .i64 at_, .int .i64 tr, .bool be]⟩) := by
  subst e
  refine ⟨by show 0 + 5 ≤ c * 5; omega, _, rfl, rfl, fun j hj => ?_⟩
  rw [seg_cell (by omega), if_pos (by omega), Nat.zero_add]
theorem rd_byte {o : Bool} {c p : Nat} {x : Int} (h : 1 ≤ c) (e : p = 0) : Reads (byC o c x) p false 1 (.int .u8 x) := by
  subst e; exact ⟨by show 0 + 1 ≤ c; omega, rfl, by rw [seg_cell (by omega)]; rfl⟩
theorem wr_byte {c p : Nat} {x y : Int} (h : 1 ≤ c) (e : p = 0) : Writes (byC true c x) p 1 (.int .u8 y) (byC true c y) := by
  subst e
  refine ⟨rfl, by show 0 + 1 ≤ c; omega, rfl, fun j hj => ?_⟩
  have hj : j < c := hj
  rw [seg_cell hj, seg_cell hj]
  by_cases e : j = 0
  · subst e; rw [if_pos (by omega)]; rfl
  · rw [if_neg (by omega), if_neg (by omega), if_neg (by omega)]
theorem wr_bent {c k l q p : Nat} {to_ at_ tr : Int} {be b : Bool} (h : 1 ≤ c) (e : p = 4) : Writes (mlC true c k l q to_ at_ tr be) p 1 (.bool b) (mlC true c k l q to_ at_ tr b) := by
  subst e
  refine ⟨rfl, by show 4 + 1 ≤ c * 5; omega, rfl, fun j hj => ?_⟩
  have hj : j < c * 5 := hj
  rw [seg_cell hj, seg_cell hj]
  by_cases e : j < 5
  · rw [if_pos e, if_pos e]
    match j, e with
    | 0, _ => rfl
    | 1, _ => rfl
    | 2, _ => rfl
    | 3, _ => rfl
    | 4, _ => rfl
  · rw [if_neg (by omega), if_neg (by omega), if_neg (by omega)]
set_option maxRecDepth 100000 in
set_option maxHeartbeats 2000000 in
theorem cBend1 (to_ at_ tr x : Int) (be : Bool) (i K L c1 c2 : Nat) (o1 : Bool) (h : List (Option Chunk)) (hi : h[i]? = some (some (airC o1 (.slice (some ⟨L, 0, some 0⟩) 1 c2)))) (hk : h[K]? = some (some (byC true c1 x))) (hl : h[L]? = some (some (mlC true c2 K 1 c1 to_ at_ tr be))) (h1 : 1 ≤ c1) (h2 : 1 ≤ c2) (hbe : be = false) (hx : 0 ≤ x ∧ x < 256) (hiK : i ≠ K) (hiL : i ≠ L) (hKL : K ≠ L) :
    CallOK Try.prog 11 [.pointer (some ⟨i, 0, some 0⟩), .int .i64 0, .int .i64 0, .int .u8 1] h (.int .i64 0) [(K, byC true c1 (IntKind.u8.wrap ((BitVec.ofInt IntKind.u8.bits x ^^^ BitVec.ofInt IntKind.u8.bits 1).toNat : Nat))), (L, mlC true c2 K 1 c1 to_ at_ tr true)] [i] := by
  subst hbe
  refine call_sub (G := tys) [⟨i, _, airC false (.slice (some ⟨2, 0, some 0⟩) 1 c2), ⟨false, 0, []⟩⟩, ⟨K, _, byC true c1 x, byC true c1 (IntKind.u8.wrap ((BitVec.ofInt IntKind.u8.bits x ^^^ BitVec.ofInt IntKind.u8.bits 1).toNat : Nat))⟩, ⟨L, _, mlC true c2 1 1 c1 to_ at_ tr false, mlC true c2 K 1 c1 to_ at_ tr true⟩] [] [.pointer (some ⟨0, 0, some 0⟩), .int .i64 0, .int .i64 0, .int .u8 1] tysOK mixed Try.func11 (by rfl) (Try.call11) ⟨hi, hk, hl, trivial⟩ ⟨⟨fun h => (by cases h), Nat.le_refl _, fun j hj => by
    match j, hj with
    | 0, _ => exact .slice (by rfl)⟩, ⟨fun h => ⟨rfl, Nat.le_refl _⟩, Nat.le_refl _, fun j hj => by
    have hj : j < c1 := hj
    rw [seg_cell hj]; (try rw [seg_cell hj]); exact .plain rfl⟩, ⟨fun h => ⟨rfl, Nat.le_refl _⟩, Nat.le_refl _, ml_re (by rfl)⟩, trivial⟩ (by simp [Apart, hiK, hiL, hKL]) trivial ⟨.ptr rfl, .plain rfl, .plain rfl, .plain rfl, trivial⟩ ?_
  repeat' (refine N.go ?_; first | with_reducible refine N.obl (by decide) ?_ | with_reducible refine N.obl (flat_wi _ _ _) ?_ | with_reducible refine N.obl (flat_lim _ _) ?_ | with_reducible refine N.eq ?_ | with_reducible refine N.obl rfl ?_ | with_reducible refine N.obl ⟨by kernel_rfl, by kernel_rfl⟩ ?_ | with_reducible refine N.alt ?_ | with_reducible refine N.forkT ?_ | with_reducible refine N.forkF ?_ | refine N.idx 0 1 rfl (by decide) ?_ | refine N.load _ (rd_bent h2 (by first | rfl | decide)) ?_ | refine N.load _ (rd_data h2 (by first | rfl | decide)) ?_ | refine N.load _ (rd_byte h1 (by first | rfl | decide)) ?_ | refine N.load _ (rd_mail h2 (by first | rfl | decide)) ?_ | refine N.store _ (wr_byte h1 (by first | rfl | decide)) ?_ | refine N.store _ (wr_bent h2 (by first | rfl | decide)) ?_ | refine N.forkNo (by decide) ?_ | refine N.forkYes (by decide) ?_ | refine N.obl (.plain rfl) ?_ | refine N.obl ⟨by_post (by rfl), ml_post 1 (by rfl) (by rfl), trivial⟩ ?_ | refine N.obl trivial ?_ | exact N.true | fail_if_success skip)
set_option maxRecDepth 100000 in
set_option maxHeartbeats 2000000 in
theorem cBend1S (to_ at_ tr x : Int) (be : Bool) (i K L c1 c2 : Nat) (o1 o2 o3 : Bool) (h : List (Option Chunk)) (hi : h[i]? = some (some (airC o1 (.slice (some ⟨L, 0, some 0⟩) 1 c2)))) (hk : h[K]? = some (some (byC o2 c1 x))) (hl : h[L]? = some (some (mlC o3 c2 K 1 c1 to_ at_ tr be))) (h1 : 1 ≤ c1) (h2 : 1 ≤ c2) (hbe : be = true) :
    CallOK Try.prog 11 [.pointer (some ⟨i, 0, some 0⟩), .int .i64 0, .int .i64 0, .int .u8 1] h (.int .i64 10) [] [i, K, L] := by
  subst hbe
  refine call_sub (G := tys) [⟨i, _, airC false (.slice (some ⟨2, 0, some 0⟩) 1 c2), ⟨false, 0, []⟩⟩, ⟨K, _, byC false c1 x, ⟨false, 0, []⟩⟩, ⟨L, _, mlC false c2 1 1 c1 to_ at_ tr true, ⟨false, 0, []⟩⟩] [] [.pointer (some ⟨0, 0, some 0⟩), .int .i64 0, .int .i64 0, .int .u8 1] tysOK mixed Try.func11 (by rfl) (Try.call11) ⟨hi, hk, hl, trivial⟩ ⟨⟨fun h => (by cases h), Nat.le_refl _, fun j hj => by
    match j, hj with
    | 0, _ => exact .slice (by rfl)⟩, ⟨fun h => (by cases h), Nat.le_refl _, fun j hj => by
    have hj : j < c1 := hj
    rw [seg_cell hj]; (try rw [seg_cell hj]); exact .plain rfl⟩, ⟨fun h => (by cases h), Nat.le_refl _, ml_re (by rfl)⟩, trivial⟩ (by simp [Apart]) trivial ⟨.ptr rfl, .plain rfl, .plain rfl, .plain rfl, trivial⟩ ?_
  repeat' (refine N.go ?_; first | with_reducible refine N.obl (by decide) ?_ | with_reducible refine N.obl (flat_wi _ _ _) ?_ | with_reducible refine N.obl (flat_lim _ _) ?_ | with_reducible refine N.eq ?_ | with_reducible refine N.obl rfl ?_ | with_reducible refine N.obl ⟨by kernel_rfl, by kernel_rfl⟩ ?_ | with_reducible refine N.alt ?_ | with_reducible refine N.forkT ?_ | with_reducible refine N.forkF ?_ | refine N.idx 0 1 rfl (by decide) ?_ | refine N.load _ (rd_bent h2 (by first | rfl | decide)) ?_ | refine N.load _ (rd_data h2 (by first | rfl | decide)) ?_ | refine N.load _ (rd_byte h1 (by first | rfl | decide)) ?_ | refine N.load _ (rd_mail h2 (by first | rfl | decide)) ?_ | refine N.store _ (wr_byte h1 (by first | rfl | decide)) ?_ | refine N.store _ (wr_bent h2 (by first | rfl | decide)) ?_ | refine N.forkNo (by decide) ?_ | refine N.forkYes (by decide) ?_ | refine N.obl (.plain rfl) ?_ | refine N.obl ⟨by_post (by rfl), ml_post 1 (by rfl) (by rfl), trivial⟩ ?_ | refine N.obl trivial ?_ | exact N.true | fail_if_success skip)
set_option maxRecDepth 100000 in
set_option maxHeartbeats 2000000 in
theorem cLen1 (i n c L : Nat) (o1 : Bool) (h : List (Option Chunk)) (hi : h[i]? = some (some (airC o1 (.slice (some ⟨L, 0, some 0⟩) n c)))) {o : Chunk} (hl : h[L]? = some (some o)) :
    CallOK Try.prog 12 [.pointer (some ⟨i, 0, some 0⟩)] h (.int .i64 (n : Int)) [] [i, L] := by
  refine call_sub (G := tys) [⟨i, _, airC false (.slice (some ⟨1, 0, some 0⟩) n c), ⟨false, 0, []⟩⟩, ⟨L, o, ⟨false, 0, []⟩, ⟨false, 0, []⟩⟩] [] [.pointer (some ⟨0, 0, some 0⟩)] tysOK mixed Try.func12 (by rfl) (Try.call12) ⟨hi, hl, trivial⟩ ⟨⟨fun h => (by cases h), Nat.le_refl _, fun j hj => by
    match j, hj with
    | 0, _ => exact .slice (by rfl)⟩, ⟨fun h => (by cases h), Nat.zero_le _, fun j hj => absurd hj (Nat.not_lt_zero _)⟩, trivial⟩ (by simp [Apart]) trivial ⟨.ptr rfl, trivial⟩ ?_
  repeat' (refine N.go ?_; first | with_reducible refine N.obl (by decide) ?_ | with_reducible refine N.obl (flat_wi _ _ _) ?_ | with_reducible refine N.obl (flat_lim _ _) ?_ | with_reducible refine N.eq ?_ | with_reducible refine N.obl rfl ?_ | with_reducible refine N.obl ⟨by kernel_rfl, by kernel_rfl⟩ ?_ | with_reducible refine N.alt ?_ | with_reducible refine N.forkT ?_ | with_reducible refine N.forkF ?_ | refine N.forkNo (by decide) ?_ | refine N.forkYes (by decide) ?_ | refine N.obl (.plain rfl) ?_ | refine N.obl trivial ?_ | exact N.true | fail_if_success skip)
set_option maxRecDepth 100000 in
set_option maxHeartbeats 2000000 in
theorem cGet1 (to_ at_ tr x : Int) (be : Bool) (i K L c1 c2 : Nat) (o1 o2 o3 : Bool) (M : Nat) (h : List (Option Chunk)) (hi : h[i]? = some (some (airC o1 (.slice (some ⟨L, 0, some 0⟩) 1 c2)))) (hk : h[K]? = some (some (byC o2 c1 x))) (hl : h[L]? = some (some (mlC o3 c2 K 1 c1 to_ at_ tr be))) (h1 : 1 ≤ c1) (h2 : 1 ≤ c2) (h0 : h[M]? = some none) :
    CallAll Try.prog 13 [.pointer (some ⟨i, 0, some 0⟩), .int .i64 0] h (fun v ms => ∃ c, 1 ≤ c ∧ v = .tuple #[.agg #[.int .i64 to_, .slice (some ⟨M, 0, some 0⟩) 1 c, .int .i64 at_, .int .i64 tr, .bool be], .bool true] ∧ ms = [(M, byC true c x)]) := by
  refine call_suball (G := tys) (α := Nat) (fun c => 1 ≤ c) (fun c => .tuple #[.agg #[.int .i64 to_, .slice (some ⟨M, 0, some 0⟩) 1 c, .int .i64 at_, .int .i64 tr, .bool be], .bool true]) [⟨i, _, airC false (.slice (some ⟨2, 0, some 0⟩) 1 c2), ⟨false, 0, []⟩⟩, ⟨K, _, byC false c1 x, ⟨false, 0, []⟩⟩, ⟨L, _, mlC false c2 1 1 c1 to_ at_ tr be, ⟨false, 0, []⟩⟩] (fun _ => []) (fun c => [⟨M, 4, byC true c x⟩]) [.pointer (some ⟨0, 0, some 0⟩), .int .i64 0] tysOK mixed Try.func13 (by rfl) (Try.call13) ⟨hi, hk, hl, trivial⟩ ⟨⟨fun h => (by cases h), Nat.le_refl _, fun j hj => by
    match j, hj with
    | 0, _ => exact .slice (by rfl)⟩, ⟨fun h => (by cases h), Nat.le_refl _, fun j hj => by
    have hj : j < c1 := hj
    rw [seg_cell hj]; (try rw [seg_cell hj]); exact .plain rfl⟩, ⟨fun h => (by cases h), Nat.le_refl _, ml_re (by rfl)⟩, trivial⟩ (fun _ _ => ⟨⟨fun h => (by cases h), Nat.le_refl _, fun j hj => by
    match j, hj with
    | 0, _ => exact .slice (by rfl)⟩, ⟨fun h => (by cases h), Nat.le_refl _, fun j hj => by
    have hj : j < c1 := hj
    rw [seg_cell hj]; (try rw [seg_cell hj]); exact .plain rfl⟩, ⟨fun h => (by cases h), Nat.le_refl _, ml_re (by rfl)⟩, trivial⟩) (by simp [Apart]) (fun c hc => ⟨⟨h0, rfl, hc, by simp⟩, trivial⟩) ⟨.ptr rfl, .plain rfl, trivial⟩ ?_
  repeat' (refine N.go ?_; first | with_reducible refine N.obl (by decide) ?_ | with_reducible refine N.obl (flat_wi _ _ _) ?_ | with_reducible refine N.obl (flat_lim _ _) ?_ | with_reducible refine N.eq ?_ | with_reducible refine N.obl rfl ?_ | with_reducible refine N.obl ⟨by kernel_rfl, by kernel_rfl⟩ ?_ | with_reducible refine N.alt ?_ | with_reducible refine N.forkT ?_ | with_reducible refine N.forkF ?_ | refine N.call (cLen1 _ 1 c2 2 _ _ (by rfl) (by rfl)) ?_ | refine N.idx 0 1 rfl (by decide) ?_ | refine N.load _ (rd_bent h2 (by first | rfl | decide)) ?_ | refine N.load _ (rd_data h2 (by first | rfl | decide)) ?_ | refine N.load _ (rd_byte h1 (by first | rfl | decide)) ?_ | refine N.load _ (rd_mail h2 (by first | rfl | decide)) ?_ | refine N.forkNo (by decide) ?_ | refine N.forkYes (by decide) ?_ | fail_if_success skip)
  refine N.go ?_
  refine N.callAll (cOwn1 to_ at_ tr x be 1 c1 4 _ _ (by rfl) h1 (by rw [seg_cell (by omega)]; rfl) (by rfl)) fun v ms hR => ?_
  obtain ⟨c, hc, rfl, rfl⟩ := hR
  repeat' (refine N.go ?_; first | with_reducible refine N.obl (by decide) ?_ | with_reducible refine N.obl (flat_wi _ _ _) ?_ | with_reducible refine N.obl (flat_lim _ _) ?_ | with_reducible refine N.eq ?_ | with_reducible refine N.obl rfl ?_ | with_reducible refine N.obl ⟨by kernel_rfl, by kernel_rfl⟩ ?_ | with_reducible refine N.alt ?_ | with_reducible refine N.forkT ?_ | with_reducible refine N.forkF ?_ | refine N.call (cLen1 _ 1 c2 2 _ _ (by rfl) (by rfl)) ?_ | refine N.idx 0 1 rfl (by decide) ?_ | refine N.load _ (rd_bent h2 (by first | rfl | decide)) ?_ | refine N.load _ (rd_data h2 (by first | rfl | decide)) ?_ | refine N.load _ (rd_byte h1 (by first | rfl | decide)) ?_ | refine N.load _ (rd_mail h2 (by first | rfl | decide)) ?_ | refine N.forkNo (by decide) ?_ | refine N.forkYes (by decide) ?_ | fail_if_success skip)
  refine N.go ?_
  refine N.some c ⟨hc, ?_⟩
  refine N.obl (.tuple ⟨.agg ⟨.plain rfl, .slice (by rfl), .plain rfl, .plain rfl, .plain rfl, trivial⟩, .plain rfl, trivial⟩) ?_
  refine N.obl trivial ?_
  refine N.obl ⟨⟨by show 3 ≤ 4; decide, by_post (by rfl)⟩, trivial⟩ ?_
  exact N.true
theorem air_post {ix : List (Nat × Nat)} {hp : List (Option Chunk)} {k : Nat} (hh : hp[k]? = some (some (airC true (.slice none 0 0)))) : PostC ix hp k (airC true (.slice none 0 0)) := ⟨_, hh, id, Nat.le_refl _, fun j hj => by
  match j, hj with
  | 0, _ => exact .plain rfl⟩
set_option maxRecDepth 100000 in
set_option maxHeartbeats 2000000 in
theorem cNewAir (K : Nat) (h : List (Option Chunk)) (h0 : h[K]? = some none) : CallOK Try.prog 8 [] h (.pointer (some ⟨K, 0, some 0⟩)) [(K, airC true (.slice none 0 0))] [] := by
  refine call_sub (G := tys) [] [⟨K, 0, airC true (.slice none 0 0)⟩] [] tysOK mixed Try.func8 (by rfl) (Try.call8) trivial trivial (by simp [Apart]) ⟨⟨h0, rfl, by show 0 < 1; decide, by simp⟩, trivial⟩ trivial ?_
  repeat' (refine N.go ?_; first | with_reducible refine N.obl (by decide) ?_ | with_reducible refine N.obl (flat_wi _ _ _) ?_ | with_reducible refine N.obl (flat_lim _ _) ?_ | with_reducible refine N.eq ?_ | with_reducible refine N.obl rfl ?_ | with_reducible refine N.obl ⟨by kernel_rfl, by kernel_rfl⟩ ?_ | with_reducible refine N.alt ?_ | with_reducible refine N.forkT ?_ | with_reducible refine N.forkF ?_ | refine N.obl (.one (.ptr (by rfl))) ?_ | refine N.obl ⟨⟨Nat.zero_le _, air_post (by rfl)⟩, trivial⟩ ?_ | refine N.obl trivial ?_ | exact N.true | fail_if_success skip)
set_option maxRecDepth 100000 in
set_option maxHeartbeats 2000000 in
theorem awake23_x (w : World) : Calls Try.prog 7 #[] w fun e w' => e = .returned (.bool true) ∧ Below w.heap.size w w' := by
  refine calls_pure (G := tys) w tysOK mixed Try.func7 (by rfl) (by rfl) (by rfl) ?_
  repeat' (refine N.go ?_; first | with_reducible refine N.obl (by decide) ?_ | with_reducible refine N.obl (flat_wi _ _ _) ?_ | with_reducible refine N.obl (flat_lim _ _) ?_ | with_reducible refine N.eq ?_ | with_reducible refine N.obl rfl ?_ | with_reducible refine N.obl ⟨by kernel_rfl, by kernel_rfl⟩ ?_ | with_reducible refine N.alt ?_ | with_reducible refine N.forkT ?_ | with_reducible refine N.forkF ?_ | refine N.call (cNewAir 0 _ (by rfl)) ?_ | refine N.forkNo (by decide) ?_ | refine N.forkYes (by decide) ?_ | fail_if_success skip)
  refine N.go ?_
  refine N.callAll (cPut1 2 0 0 5 false 0 1 1 2 3 _ _ (by rfl) (by rfl) (Nat.le_refl _) rfl (by decide) (by rfl) (by rfl) (by decide)) fun v ms hR => ?_
  obtain ⟨⟨c1, c2⟩, ⟨h1, h2⟩, rfl, rfl⟩ := hR
  repeat' (refine N.go ?_; first | with_reducible refine N.obl (by decide) ?_ | with_reducible refine N.obl (flat_wi _ _ _) ?_ | with_reducible refine N.obl (flat_lim _ _) ?_ | with_reducible refine N.eq ?_ | with_reducible refine N.obl rfl ?_ | with_reducible refine N.obl ⟨by kernel_rfl, by kernel_rfl⟩ ?_ | with_reducible refine N.alt ?_ | with_reducible refine N.forkT ?_ | with_reducible refine N.forkF ?_ | refine N.call (cBend1 2 0 0 5 false 0 2 3 c1 c2 true _ (by rfl) (by rfl) (by rfl) h1 h2 rfl (by decide) (by decide) (by decide) (by decide)) ?_ | refine N.call (cBend1S 2 0 0 _ true 0 2 3 c1 c2 true true true _ (by rfl) (by rfl) (by rfl) h1 h2 rfl) ?_ | refine N.forkNo (by decide) ?_ | refine N.forkYes (by decide) ?_ | fail_if_success skip)
  refine N.go ?_
  refine N.callAll (cGet1 2 0 0 (IntKind.u8.wrap ((BitVec.ofInt IntKind.u8.bits 5 ^^^ BitVec.ofInt IntKind.u8.bits 1).toNat : Nat)) true 0 2 3 c1 c2 true true true 4 _ (by rfl) (by rfl) (by rfl) h1 h2 (by rfl)) fun v ms hR => ?_
  obtain ⟨c3, h3, rfl, rfl⟩ := hR
  repeat' (refine N.go ?_; first | with_reducible refine N.obl (by decide) ?_ | with_reducible refine N.obl (flat_wi _ _ _) ?_ | with_reducible refine N.obl (flat_lim _ _) ?_ | with_reducible refine N.eq ?_ | with_reducible refine N.obl rfl ?_ | with_reducible refine N.obl ⟨by kernel_rfl, by kernel_rfl⟩ ?_ | with_reducible refine N.alt ?_ | with_reducible refine N.forkT ?_ | with_reducible refine N.forkF ?_ | refine N.idx 0 1 rfl (by decide) ?_ | refine N.load _ (rd_byte h3 (by first | rfl | decide)) ?_ | refine N.forkNo (by decide) ?_ | refine N.forkYes (by decide) ?_ | fail_if_success skip)
  all_goals rfl
theorem cAwake23 (h : List (Option Chunk)) : CallOK Try.prog 7 [] h (.bool true) [] [] := call_pure rfl rfl (Try.call7 _) awake23_x
end Go.Proofs.Ytgikbmohmomgbaa
