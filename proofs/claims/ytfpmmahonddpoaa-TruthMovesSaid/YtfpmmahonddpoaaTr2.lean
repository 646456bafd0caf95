/-
  The walk of truth.New.
-/
import Derived.Test.YtfpmmahonddpoaaTr1
set_option linter.unusedVariables false
set_option linter.unusedSimpArgs false
namespace Go.Proofs.Ytfpmmahonddpoaa
open Go Go.RowKit Sx

/-- The points of a world: room for cap of them. -/
abbrev ptC (cap : Nat) (F : Nat → Value) : Chunk := ⟨true, cap * 2, [(0, cap * 2, .agg ⟨segL (cap * 2) F⟩)]⟩
/-- Who has moved. -/
abbrev mvC (n : Nat) (F : Nat → Value) : Chunk := ⟨true, n, [(0, n, .agg ⟨segL n F⟩)]⟩
structure PS where
  i : Nat
  cap : Nat
  F : Nat → Value
def psOK (n : Nat) (s : PS) : Prop := 1 ≤ s.i ∧ s.i ≤ n ∧ s.i ≤ s.cap ∧ (∀ j, j < s.i → s.F (j * 2) = .int .i64 (1000 * ((j % 8 : Nat) : Int)) ∧ s.F (j * 2 + 1) = .int .i64 (1000 * ((j / 8 : Nat) : Int))) ∧ ∀ j, j < s.cap * 2 → lit1 (s.F j) = true
theorem App0N.mk {cj : Chunk} {g m size bytes : Nat} {z : Value} {slot : Nat} {K : Value → List (Nat × Chunk) → Prop} (v : Value) (hr : Reads cj g true (m * size) v) (h0 : 0 < m) (h1 : m ≤ 9223372036854775807) (h2 : m * bytes ≤ 140737488355328)
    (k : ∀ cap, m ≤ cap → K (.slice (some ⟨slot, 0, some 0⟩) m cap) [(slot, grown ⟨true, 0, []⟩ 0 m size v z cap)]) : N (App0N cj g m size bytes z slot K) := N.mk ⟨v, hr, h0, h1, h2, k⟩
theorem AppN.mk {ci : Chunk} {k s l c : Nat} {cj : Chunk} {g m size bytes : Nat} {z : Value} {slot : Nat} {K : Value → List (Nat × Chunk) → Prop} (v : Value) (hr : Reads cj g true (m * size) v) (hf : flatB v (m * size) = true) (hl : l * size ≤ ci.n) (h1 : l + m ≤ 9223372036854775807) (h2 : (l + m) * bytes ≤ 140737488355328)
    (d : Chunk) (hw : l + m ≤ c → Writes ci (l * size) (m * size) v d) (k1 : l + m ≤ c → K (.slice (some ⟨k, 0, some s⟩) (l + m) c) [(k, d)]) (k2 : c < l + m → ∀ cap, l + m ≤ cap → K (.slice (some ⟨slot, 0, some 0⟩) (l + m) cap) [(slot, grown ci l m size v z cap)]) : N (AppN ci k s l c cj g m size bytes z slot K) :=
  N.mk ⟨v, hr, hf, hl, h1, h2, fun h => ⟨d, hw h, k1 h⟩, k2⟩
theorem MakeN.mk {a b : Int} {bytes size : Nat} {K : Nat → Nat → Prop} (n m : Nat) (ha : a = (n : Nat)) (hb : b = (n : Nat)) (h1 : bytes * n ≤ 281474976710656) (h2 : n ≤ 9223372036854775807) (hm : m = n * size) (k : K n m) : N (MakeN a b bytes size K) := N.mk ⟨n, m, ha, hb, h1, h2, hm, k⟩
theorem seg_ren {ix : List (Nat × Nat)} {n : Nat} {f g : Nat → Value} (hf : ∀ j, j < n → lit1 (f j) = true) (h : ∀ j, j < n → f j = g j) : ChunkReLe ix ⟨true, n, [(0, n, .agg ⟨segL n f⟩)]⟩ ⟨true, n, [(0, n, .agg ⟨segL n g⟩)]⟩ :=
  ⟨id, Nat.le_refl _, fun j hj => by
    have hj : j < n := hj
    rw [seg_at hj, seg_at hj, ← h j hj]
    exact .plain (lit1_plain (hf j hj))⟩
theorem repZ_bool (j : Nat) : Value.bool false = repZ 1 (.bool false) j := by unfold repZ; rw [Nat.mod_one]; rfl
theorem re_eq {ix : List (Nat × Nat)} {v u : Value} (h : v = u) (hp : plain3 v = true) : Re ix v u := by subst h; exact .plain hp
theorem int_eq {k : IntKind} {a b : Int} (h : a = b) : Value.int k a = .int k b := by rw [h]
theorem reads_two {x y : Value} : Reads ⟨true, 2, [(0, 2, .agg ⟨[x, y]⟩)]⟩ 0 true (1 * 2) (.agg ⟨[x, y]⟩) :=
  ⟨Nat.le_refl _, _, rfl, rfl, fun j hj => by
    match j, hj with
    | 0, _ => rfl
    | 1, _ => rfl⟩
/-- The points when one more stands behind. -/
def addF (F : Nat → Value) (l : Nat) (x y : Value) (j : Nat) : Value := if j = l * 2 then x else if j = l * 2 + 1 then y else F j
theorem writes_two {cap l : Nat} {F : Nat → Value} {x y : Value} (h : l + 1 ≤ cap) : Writes (ptC cap F) (l * 2) (1 * 2) (.agg ⟨[x, y]⟩) (ptC cap (addF F l x y)) := by
  refine ⟨rfl, by show l * 2 + 1 * 2 ≤ cap * 2; omega, rfl, fun j hj => ?_⟩
  have hj : j < cap * 2 := hj
  rw [seg_at hj, seg_at hj]
  unfold addF
  by_cases h1 : j = l * 2
  · subst h1; rw [if_pos rfl, if_pos (by omega), Nat.sub_self]; rfl
  · by_cases h2 : j = l * 2 + 1
    · subst h2; rw [if_neg h1, if_pos rfl, if_pos (by omega), show l * 2 + 1 - l * 2 = 1 from by omega]; rfl
    · rw [if_neg h1, if_neg h2, if_neg (by omega)]
theorem zero_two (j : Nat) : lit1 (repZ 2 (.agg #[.int .i64 0, .int .i64 0]) j) = true := by
  unfold repZ
  have : j % 2 = 0 ∨ j % 2 = 1 := by omega
  rcases this with h | h <;> rw [h] <;> rfl
/-- The points of a slice that has grown. -/
theorem grown_ren {ix : List (Nat × Nat)} {n l cap : Nat} {F : Nat → Value} {x y : Value} (hl : l ≤ n) (h : l + 1 ≤ cap) (hF : ∀ j, j < l * 2 → lit1 (F j) = true) (hx : lit1 x = true) (hy : lit1 y = true) (c : Chunk) (hc : ∀ j, j < l * 2 → c.f j = F j) :
    ChunkReLe ix (ptC cap (fun j => if j < (l + 1) * 2 then addF F l x y j else .int .i64 0)) (grown c l 1 2 (.agg ⟨[x, y]⟩) (.agg #[.int .i64 0, .int .i64 0]) cap) := by
  refine ⟨fun _ => rfl, Nat.le_refl _, fun j hj => ?_⟩
  have hj : j < cap * 2 := hj
  rw [seg_at hj]
  by_cases h1 : j < l * 2
  · rw [grown_old h1, if_pos (by omega), hc j h1]
    unfold addF
    rw [if_neg (by omega), if_neg (by omega)]
    exact .plain (lit1_plain (hF j h1))
  · by_cases h2 : j < (l + 1) * 2
    · rw [if_pos h2]
      have e : j = l * 2 + (j - l * 2) := by omega
      have hg := grown_new (ci := c) (l := l) (m := 1) (size := 2) (cap := cap) (v := .agg ⟨[x, y]⟩) (z := .agg #[.int .i64 0, .int .i64 0]) (j := j - l * 2) (by omega)
      rw [← e] at hg
      rw [hg]
      unfold addF
      by_cases h3 : j = l * 2
      · rw [if_pos h3, show j - l * 2 = 0 from by omega]; exact .plain (lit1_plain hx)
      · rw [if_neg h3, if_pos (by omega), show j - l * 2 = 1 from by omega]; exact .plain (lit1_plain hy)
    · rw [if_neg h2, grown_zero (by omega) hj]
      have : repZ 2 (.agg #[.int .i64 0, .int .i64 0]) j = .int .i64 0 := by
        unfold repZ
        have : j % 2 = 0 ∨ j % 2 = 1 := by omega
        rcases this with h | h <;> rw [h] <;> rfl
      rw [this]; exact .plain rfl
theorem add_at2 {F : Nat → Value} {l : Nat} {x y : Int} (h : ∀ j, j < l → F (j * 2) = .int .i64 (1000 * ((j % 8 : Nat) : Int)) ∧ F (j * 2 + 1) = .int .i64 (1000 * ((j / 8 : Nat) : Int))) (hx : x = 1000 * ((l % 8 : Nat) : Int)) (hy : y = 1000 * ((l / 8 : Nat) : Int)) (j : Nat) (hj : j < l + 1) :
    addF F l (.int .i64 x) (.int .i64 y) (j * 2) = .int .i64 (1000 * ((j % 8 : Nat) : Int)) ∧ addF F l (.int .i64 x) (.int .i64 y) (j * 2 + 1) = .int .i64 (1000 * ((j / 8 : Nat) : Int)) := by
  subst hx hy
  unfold addF
  by_cases e : j = l
  · subst e; rw [if_pos rfl, if_neg (by omega), if_pos rfl]; exact ⟨rfl, rfl⟩
  · rw [if_neg (by omega), if_neg (by omega), if_neg (by omega), if_neg (by omega)]; exact h j (by omega)
theorem add_lit {F : Nat → Value} {l n : Nat} {x y : Int} (h : ∀ j, j < n → lit1 (F j) = true ∨ (l * 2 ≤ j ∧ j < l * 2 + 2)) (j : Nat) (hj : j < n) : lit1 (addF F l (.int .i64 x) (.int .i64 y) j) = true := by
  unfold addF
  split
  · rfl
  · split
    · rfl
    · rcases h j hj with h | h
      · exact h
      · omega
theorem coord {i : Nat} (h : i < 64) : IntKind.i64.wrap (1000 * ((i : Int).tmod 8)) = 1000 * ((i % 8 : Nat) : Int) ∧ IntKind.i64.wrap (1000 * IntKind.i64.wrap ((i : Int).tdiv 8)) = 1000 * ((i / 8 : Nat) : Int) := by
  rw [Int.tmod_eq_emod_of_nonneg (by omega), Int.tdiv_eq_ediv_of_nonneg (by omega), i64s ((i : Int) / 8) (by omega) (by omega)]
  constructor
  · rw [i64s _ (by omega) (by omega)]; omega
  · rw [i64s _ (by omega) (by omega)]; omega
/-- The points, told by whole numbers: those of node k lie at 2k and 2k + 1. -/
abbrev ptP (o : Bool) (n : Nat) (P : Nat → Int) : Chunk := ⟨o, n * 2, [(0, n * 2, .agg ⟨segL (n * 2) (fun j => .int .i64 (P j))⟩)]⟩
abbrev mvP (o : Bool) (n : Nat) (M : Nat → Bool) : Chunk := ⟨o, n, [(0, n, .agg ⟨segL n (fun j => .bool (M j))⟩)]⟩
/-- Where nodes stand at first. -/
def pos0 (j : Nat) : Int := if j % 2 = 0 then 1000 * ((j / 2 % 8 : Nat) : Int) else 1000 * ((j / 2 / 8 : Nat) : Int)
theorem pos0_eq {n : Nat} {s : PS} (h : psOK n s) (hi : s.i = n) (j : Nat) (hj : j < n * 2) : s.F j = .int .i64 (pos0 j) := by
  obtain ⟨_, _, _, h4, _⟩ := h
  rw [hi] at h4
  have := h4 (j / 2) (by omega)
  unfold pos0
  by_cases e : j % 2 = 0
  · rw [if_pos e, ← this.1, show j / 2 * 2 = j from by omega]
  · rw [if_neg e, ← this.2, show j / 2 * 2 + 1 = j from by omega]
/-- What a new world may be. -/
def newR (i n : Nat) (c : Nat → Int) (v : Value) (ms : List (Nat × Chunk)) : Prop :=
  ∃ s : PS, (psOK n s ∧ s.i = n) ∧ v = .pointer (some ⟨i, 0, some 0⟩) ∧ ms = [(i, wch c (.slice (some ⟨i + 1, 0, some 0⟩) n s.cap) (.slice (some ⟨i + 2, 0, some 0⟩) n n) 0 0), (i + 1, ptP true n pos0), (i + 2, mvP true n (fun _ => false))]
set_option maxRecDepth 100000 in
set_option maxHeartbeats 4000000 in
theorem cNewW (c : Nat → Int) (i n : Nat) (h : List (Option Chunk)) (hc : mayC c) (hn : c 0 = (n : Int)) (h0 : h[i]? = some none) (h1 : h[i + 1]? = some none) (h2 : h[i + 2]? = some none) : CallAll Try.prog 9 [cfgV c] h (newR i n c) := by
  have hn0 : 1 ≤ n ∧ n ≤ 64 := by have := hc.1; omega
  refine call_suball (G := tys) (α := PS) (fun s => psOK n s ∧ s.i = n) (fun _ => .pointer (some ⟨i, 0, some 0⟩)) [] (fun _ => []) (fun s => [⟨i, 2, wch c (.slice (some ⟨i + 1, 0, some 0⟩) n s.cap) (.slice (some ⟨i + 2, 0, some 0⟩) n n) 0 0⟩, ⟨i + 1, 3, ptP true n pos0⟩, ⟨i + 2, 1, mvP true n (fun _ => false)⟩]) [cfgV c] tysOK mixed Try.func9 (by rfl) (Try.call9) trivial trivial (fun _ _ => trivial) trivial
    (fun s hs => ⟨⟨h0, rfl, by show 0 < 15; decide, by simp⟩, ⟨h1, rfl, by show 0 < n * 2; omega, by simp⟩, ⟨h2, rfl, by show 0 < n; omega, by simp⟩, trivial⟩) ⟨.plain rfl, trivial⟩ ?_
  repeat' (refine N.go ?_; first | with_reducible refine N.obl (by decide) ?_ | with_reducible refine N.obl (flat_wi _ _ _) ?_ | with_reducible refine N.obl (flat_lim _ _) ?_ | with_reducible refine N.eq ?_ | with_reducible refine N.obl rfl ?_ | with_reducible refine N.obl ⟨by kernel_rfl, by kernel_rfl⟩ ?_ | with_reducible refine N.forkT ?_ | with_reducible refine N.forkF ?_ | with_reducible refine N.call (cTmay _ _) ?_ | refine MakeN.mk n n hn hn (by show 1 * n ≤ _; omega) (by omega) (Nat.mul_one n).symm ?_ | refine N.forkNo (by rw [decide_eq_true (by assumption)]; rfl) ?_ | refine N.forkYes (by rw [decide_eq_false (by assumption)]; rfl) ?_ | refine N.forkYes (decide_eq_true (by assumption)) ?_ | refine N.forkNo (decide_eq_false (by assumption)) ?_ | refine N.forkNo (by decide) ?_ | refine N.forkYes (by decide) ?_)
  refine N.go ?_
  refine N.loopR (α := Option PS) (fun x => match x with
    | none => True
    | some s => psOK n s) (fun x => match x with
    | none => n
    | some s => n - s.i) (fun x => match x with
    | none => [(16, .int .i64 0)]
    | some s => [(16, .int .i64 (s.i : Int))]) (fun x => match x with
    | none => [(2, wch c (.slice none 0 0) (.slice (some ⟨1, 0, some 0⟩) n n) 0 0), (1, mvC n (fun _ => .bool false))]
    | some s => [(2, wch c (.slice (some ⟨3, 0, some 0⟩) s.i s.cap) (.slice (some ⟨1, 0, some 0⟩) n n) 0 0), (3, ptC s.cap s.F), (1, mvC n (fun _ => .bool false))]) none [(0, 0), (1, 1), (2, 2)] trivial ?_ ?_
  · repeat' (refine N.go ?_; first | exact N.true | refine N.obl (ChunkReLe.same (agg_plain (by rfl) (by rfl))) ?_ | refine N.obl (seg_ren (fun _ _ => rfl) (fun j _ => repZ_bool j)) ?_ | refine N.obl (seg_ren (fun _ _ => rfl) (fun _ _ => rfl)) ?_ | refine N.obl (.plain (by rfl)) ?_ | refine N.obl (.one (.ptr rfl)) ?_ | refine N.obl (.one (.slice rfl)) ?_ | refine N.obl (.one (.agg (by repeat' (first | exact trivial | refine ⟨.plain rfl, ?_⟩ | refine ⟨.slice rfl, ?_⟩ | refine ⟨.ptr rfl, ?_⟩)))) ?_ | refine N.obl ⟨id, Nat.le_refl _, lt15 (by first | exact Re1.plain rfl | exact Re1.slice rfl) (by first | exact Re1.plain rfl | exact Re1.slice rfl) (by first | exact Re1.plain rfl | exact Re1.slice rfl) (by first | exact Re1.plain rfl | exact Re1.slice rfl) (by first | exact Re1.plain rfl | exact Re1.slice rfl) (by first | exact Re1.plain rfl | exact Re1.slice rfl) (by first | exact Re1.plain rfl | exact Re1.slice rfl) (by first | exact Re1.plain rfl | exact Re1.slice rfl) (by first | exact Re1.plain rfl | exact Re1.slice rfl) (by first | exact Re1.plain rfl | exact Re1.slice rfl) (by first | exact Re1.plain rfl | exact Re1.slice rfl) (by first | exact Re1.plain rfl | exact Re1.slice rfl) (by first | exact Re1.plain rfl | exact Re1.slice rfl) (by first | exact Re1.plain rfl | exact Re1.slice rfl) (by first | exact Re1.plain rfl | exact Re1.slice rfl)⟩ ?_)
  · intro x hx
    cases x with
    | none =>
      repeat' (refine N.go ?_; first | with_reducible refine N.obl (by decide) ?_ | with_reducible refine N.obl (flat_wi _ _ _) ?_ | with_reducible refine N.obl (flat_lim _ _) ?_ | with_reducible refine N.eq ?_ | with_reducible refine N.obl rfl ?_ | with_reducible refine N.obl ⟨by kernel_rfl, by kernel_rfl⟩ ?_ | with_reducible refine N.forkT ?_ | with_reducible refine N.forkF ?_ | refine N.forkYes (by rw [decide_eq_true_eq, hn]; omega) ?_ | refine N.obl (by decide) ?_)
      refine N.go ?_
      refine App0N.mk (.agg ⟨[.int .i64 (IntKind.i64.wrap (1000 * (0 : Int).tmod 8)), .int .i64 (IntKind.i64.wrap (1000 * IntKind.i64.wrap ((0 : Int).tdiv 8)))]⟩) reads_two (by decide) (by decide) (by decide) fun cap hcap => ?_
      repeat' (refine N.go ?_; first | with_reducible refine N.obl (by decide) ?_ | with_reducible refine N.obl (flat_wi _ _ _) ?_ | with_reducible refine N.obl (flat_lim _ _) ?_ | with_reducible refine N.eq ?_ | with_reducible refine N.obl rfl ?_ | with_reducible refine N.obl ⟨by kernel_rfl, by kernel_rfl⟩ ?_ | with_reducible refine N.forkT ?_ | with_reducible refine N.forkF ?_ | fail_if_success skip)
      refine N.go ?_
      refine N.nextR (some ⟨1, cap, fun j => if j < (0 + 1) * 2 then addF (fun _ => .int .i64 0) 0 (.int .i64 (IntKind.i64.wrap (1000 * (0 : Int).tmod 8))) (.int .i64 (IntKind.i64.wrap (1000 * IntKind.i64.wrap ((0 : Int).tdiv 8)))) j else .int .i64 0⟩) [(0, 0), (1, 1), (2, 2), (4, 3)] ⟨?_, by show n - 1 < n; omega⟩ ?_
      · refine ⟨Nat.le_refl _, by show 1 ≤ n; omega, hcap, fun j hj => ?_, fun j hj => ?_⟩
        · have hj : j < 1 := hj
          obtain rfl : j = 0 := by omega
          exact ⟨rfl, rfl⟩
        · show lit1 (if j < (0 + 1) * 2 then addF _ 0 _ _ j else _) = true
          unfold addF
          split
          · split
            · rfl
            · split <;> rfl
          · rfl
      repeat' (refine N.go ?_; first | exact N.true | refine N.obl (grown_ren (n := 0) (l := 0) (F := fun _ => .int .i64 0) (Nat.le_refl _) (by omega) (fun _ _ => rfl) rfl rfl _ (fun j hj => absurd hj (by omega))) ?_ | refine N.obl (ChunkReLe.same (agg_plain (by rfl) (by rfl))) ?_ | refine N.obl (seg_ren (fun _ _ => rfl) (fun j _ => repZ_bool j)) ?_ | refine N.obl (seg_ren (fun _ _ => rfl) (fun _ _ => rfl)) ?_ | refine N.obl (.plain (by rfl)) ?_ | refine N.obl (.one (.ptr rfl)) ?_ | refine N.obl (.one (.slice rfl)) ?_ | refine N.obl (.one (.agg (by repeat' (first | exact trivial | refine ⟨.plain rfl, ?_⟩ | refine ⟨.slice rfl, ?_⟩ | refine ⟨.ptr rfl, ?_⟩)))) ?_ | refine N.obl (re_eq (int_eq (by decide)) rfl) ?_ | refine N.obl ⟨id, Nat.le_refl _, lt15 (by first | exact Re1.plain rfl | exact Re1.slice rfl) (by first | exact Re1.plain rfl | exact Re1.slice rfl) (by first | exact Re1.plain rfl | exact Re1.slice rfl) (by first | exact Re1.plain rfl | exact Re1.slice rfl) (by first | exact Re1.plain rfl | exact Re1.slice rfl) (by first | exact Re1.plain rfl | exact Re1.slice rfl) (by first | exact Re1.plain rfl | exact Re1.slice rfl) (by first | exact Re1.plain rfl | exact Re1.slice rfl) (by first | exact Re1.plain rfl | exact Re1.slice rfl) (by first | exact Re1.plain rfl | exact Re1.slice rfl) (by first | exact Re1.plain rfl | exact Re1.slice rfl) (by first | exact Re1.plain rfl | exact Re1.slice rfl) (by first | exact Re1.plain rfl | exact Re1.slice rfl) (by first | exact Re1.plain rfl | exact Re1.slice rfl) (by first | exact Re1.plain rfl | exact Re1.slice rfl)⟩ ?_)
    | some s =>
      obtain ⟨i1, i2, i3, i4, i5⟩ := hx
      by_cases hlt : s.i < n
      · obtain ⟨x1, y1⟩ := coord (i := s.i) (by omega)
        repeat' (refine N.go ?_; first | with_reducible refine N.obl (by decide) ?_ | with_reducible refine N.obl (flat_wi _ _ _) ?_ | with_reducible refine N.obl (flat_lim _ _) ?_ | with_reducible refine N.eq ?_ | with_reducible refine N.obl rfl ?_ | with_reducible refine N.obl ⟨by kernel_rfl, by kernel_rfl⟩ ?_ | with_reducible refine N.forkT ?_ | with_reducible refine N.forkF ?_ | refine N.forkYes (by rw [decide_eq_true_eq, hn]; omega) ?_ | refine N.obl (by decide) ?_)
        refine N.go ?_
        refine AppN.mk (.agg ⟨[.int .i64 (IntKind.i64.wrap (1000 * (s.i : Int).tmod 8)), .int .i64 (IntKind.i64.wrap (1000 * IntKind.i64.wrap ((s.i : Int).tdiv 8)))]⟩) reads_two (by rfl) (by show s.i * 2 ≤ s.cap * 2; omega) (by omega) (by show (s.i + 1) * 16 ≤ _; omega)
          (ptC s.cap (addF s.F s.i (.int .i64 (IntKind.i64.wrap (1000 * (s.i : Int).tmod 8))) (.int .i64 (IntKind.i64.wrap (1000 * IntKind.i64.wrap ((s.i : Int).tdiv 8)))))) (fun h => writes_two h) (fun hr => ?_) (fun hg cap hcap => ?_)
        · have hnew : psOK n ⟨s.i + 1, s.cap, addF s.F s.i (.int .i64 (IntKind.i64.wrap (1000 * (s.i : Int).tmod 8))) (.int .i64 (IntKind.i64.wrap (1000 * IntKind.i64.wrap ((s.i : Int).tdiv 8))))⟩ := by
            refine ⟨by show 1 ≤ s.i + 1; omega, by show s.i + 1 ≤ n; omega, hr, fun j hj => ?_, fun j hj => ?_⟩
            · exact add_at2 i4 x1 y1 j hj
            · exact add_lit (fun j hj => .inl (i5 j hj)) j hj
          repeat' (refine N.go ?_; first | with_reducible refine N.obl (by decide) ?_ | with_reducible refine N.obl (flat_wi _ _ _) ?_ | with_reducible refine N.obl (flat_lim _ _) ?_ | with_reducible refine N.eq ?_ | with_reducible refine N.obl rfl ?_ | with_reducible refine N.obl ⟨by kernel_rfl, by kernel_rfl⟩ ?_ | with_reducible refine N.forkT ?_ | with_reducible refine N.forkF ?_ | fail_if_success skip)
          refine N.go ?_
          refine N.nextR (some ⟨s.i + 1, s.cap, addF s.F s.i (.int .i64 (IntKind.i64.wrap (1000 * (s.i : Int).tmod 8))) (.int .i64 (IntKind.i64.wrap (1000 * IntKind.i64.wrap ((s.i : Int).tdiv 8))))⟩) [(0, 0), (1, 1), (2, 2), (3, 3)] ⟨hnew, by show n - (s.i + 1) < n - s.i; omega⟩ ?_
          have hl2 := hnew.2.2.2.2
          repeat' (refine N.go ?_; first | exact N.true | refine N.obl (seg_ren hl2 (fun _ _ => rfl)) ?_ | refine N.obl (ChunkReLe.same (agg_plain (by rfl) (by rfl))) ?_ | refine N.obl (seg_ren (fun _ _ => rfl) (fun j _ => repZ_bool j)) ?_ | refine N.obl (seg_ren (fun _ _ => rfl) (fun _ _ => rfl)) ?_ | refine N.obl (.plain (by rfl)) ?_ | refine N.obl (.one (.ptr rfl)) ?_ | refine N.obl (.one (.slice rfl)) ?_ | refine N.obl (.one (.agg (by repeat' (first | exact trivial | refine ⟨.plain rfl, ?_⟩ | refine ⟨.slice rfl, ?_⟩ | refine ⟨.ptr rfl, ?_⟩)))) ?_ | refine N.obl (re_eq (int_eq (by rw [i64s ((s.i : Int) + 1) (by omega) (by omega)]; rfl)) rfl) ?_ | refine N.obl ⟨id, Nat.le_refl _, lt15 (by first | exact Re1.plain rfl | exact Re1.slice rfl) (by first | exact Re1.plain rfl | exact Re1.slice rfl) (by first | exact Re1.plain rfl | exact Re1.slice rfl) (by first | exact Re1.plain rfl | exact Re1.slice rfl) (by first | exact Re1.plain rfl | exact Re1.slice rfl) (by first | exact Re1.plain rfl | exact Re1.slice rfl) (by first | exact Re1.plain rfl | exact Re1.slice rfl) (by first | exact Re1.plain rfl | exact Re1.slice rfl) (by first | exact Re1.plain rfl | exact Re1.slice rfl) (by first | exact Re1.plain rfl | exact Re1.slice rfl) (by first | exact Re1.plain rfl | exact Re1.slice rfl) (by first | exact Re1.plain rfl | exact Re1.slice rfl) (by first | exact Re1.plain rfl | exact Re1.slice rfl) (by first | exact Re1.plain rfl | exact Re1.slice rfl) (by first | exact Re1.plain rfl | exact Re1.slice rfl)⟩ ?_)
        · have hnew : psOK n ⟨s.i + 1, cap, fun j => if j < (s.i + 1) * 2 then addF s.F s.i (.int .i64 (IntKind.i64.wrap (1000 * (s.i : Int).tmod 8))) (.int .i64 (IntKind.i64.wrap (1000 * IntKind.i64.wrap ((s.i : Int).tdiv 8)))) j else .int .i64 0⟩ := by
            refine ⟨by show 1 ≤ s.i + 1; omega, by show s.i + 1 ≤ n; omega, hcap, fun j hj => ?_, fun j hj => ?_⟩
            · have hj : j < s.i + 1 := hj
              have := add_at2 i4 x1 y1 j hj
              refine ⟨?_, ?_⟩
              · show (if j * 2 < (s.i + 1) * 2 then _ else _) = _
                rw [if_pos (by omega)]; exact this.1
              · show (if j * 2 + 1 < (s.i + 1) * 2 then _ else _) = _
                rw [if_pos (by omega)]; exact this.2
            · show lit1 (if j < (s.i + 1) * 2 then _ else _) = true
              split
              · exact add_lit (n := (s.i + 1) * 2) (fun k hk => by
                  by_cases h1 : k < s.cap * 2
                  · exact .inl (i5 k h1)
                  · exact .inr (by omega)) j (by omega)
              · rfl
          repeat' (refine N.go ?_; first | with_reducible refine N.obl (by decide) ?_ | with_reducible refine N.obl (flat_wi _ _ _) ?_ | with_reducible refine N.obl (flat_lim _ _) ?_ | with_reducible refine N.eq ?_ | with_reducible refine N.obl rfl ?_ | with_reducible refine N.obl ⟨by kernel_rfl, by kernel_rfl⟩ ?_ | with_reducible refine N.forkT ?_ | with_reducible refine N.forkF ?_ | fail_if_success skip)
          refine N.go ?_
          refine N.nextR (some ⟨s.i + 1, cap, fun j => if j < (s.i + 1) * 2 then addF s.F s.i (.int .i64 (IntKind.i64.wrap (1000 * (s.i : Int).tmod 8))) (.int .i64 (IntKind.i64.wrap (1000 * IntKind.i64.wrap ((s.i : Int).tdiv 8)))) j else .int .i64 0⟩) [(0, 0), (1, 1), (2, 2), (5, 3)] ⟨hnew, by show n - (s.i + 1) < n - s.i; omega⟩ ?_
          repeat' (refine N.go ?_; first | exact N.true | refine N.obl (grown_ren (n := s.i) (l := s.i) (F := s.F) (Nat.le_refl _) hcap (fun j hj => i5 j (by omega)) rfl rfl _ (fun j hj => seg_at (by omega))) ?_ | refine N.obl (ChunkReLe.same (agg_plain (by rfl) (by rfl))) ?_ | refine N.obl (seg_ren (fun _ _ => rfl) (fun j _ => repZ_bool j)) ?_ | refine N.obl (seg_ren (fun _ _ => rfl) (fun _ _ => rfl)) ?_ | refine N.obl (.plain (by rfl)) ?_ | refine N.obl (.one (.ptr rfl)) ?_ | refine N.obl (.one (.slice rfl)) ?_ | refine N.obl (.one (.agg (by repeat' (first | exact trivial | refine ⟨.plain rfl, ?_⟩ | refine ⟨.slice rfl, ?_⟩ | refine ⟨.ptr rfl, ?_⟩)))) ?_ | refine N.obl (re_eq (int_eq (by rw [i64s ((s.i : Int) + 1) (by omega) (by omega)]; rfl)) rfl) ?_ | refine N.obl ⟨id, Nat.le_refl _, lt15 (by first | exact Re1.plain rfl | exact Re1.slice rfl) (by first | exact Re1.plain rfl | exact Re1.slice rfl) (by first | exact Re1.plain rfl | exact Re1.slice rfl) (by first | exact Re1.plain rfl | exact Re1.slice rfl) (by first | exact Re1.plain rfl | exact Re1.slice rfl) (by first | exact Re1.plain rfl | exact Re1.slice rfl) (by first | exact Re1.plain rfl | exact Re1.slice rfl) (by first | exact Re1.plain rfl | exact Re1.slice rfl) (by first | exact Re1.plain rfl | exact Re1.slice rfl) (by first | exact Re1.plain rfl | exact Re1.slice rfl) (by first | exact Re1.plain rfl | exact Re1.slice rfl) (by first | exact Re1.plain rfl | exact Re1.slice rfl) (by first | exact Re1.plain rfl | exact Re1.slice rfl) (by first | exact Re1.plain rfl | exact Re1.slice rfl) (by first | exact Re1.plain rfl | exact Re1.slice rfl)⟩ ?_)
      · obtain rfl : n = s.i := by omega
        repeat' (refine N.go ?_; first | with_reducible refine N.obl (by decide) ?_ | with_reducible refine N.obl (flat_wi _ _ _) ?_ | with_reducible refine N.obl (flat_lim _ _) ?_ | with_reducible refine N.eq ?_ | with_reducible refine N.obl rfl ?_ | with_reducible refine N.obl ⟨by kernel_rfl, by kernel_rfl⟩ ?_ | with_reducible refine N.forkT ?_ | with_reducible refine N.forkF ?_ | refine N.forkNo (by rw [decide_eq_false_iff_not, hn]; omega) ?_)
        refine N.go ?_
        refine N.some s ⟨⟨⟨i1, i2, i3, i4, i5⟩, rfl⟩, ?_⟩
        refine N.obl (.one (.ptr rfl)) ?_
        refine N.obl trivial ?_
        refine N.obl ⟨⟨Nat.zero_le _, _, rfl, id, Nat.le_refl _, lt15 (by first | exact Re1.plain rfl | exact Re1.slice rfl) (by first | exact Re1.plain rfl | exact Re1.slice rfl) (by first | exact Re1.plain rfl | exact Re1.slice rfl) (by first | exact Re1.plain rfl | exact Re1.slice rfl) (by first | exact Re1.plain rfl | exact Re1.slice rfl) (by first | exact Re1.plain rfl | exact Re1.slice rfl) (by first | exact Re1.plain rfl | exact Re1.slice rfl) (by first | exact Re1.plain rfl | exact Re1.slice rfl) (by first | exact Re1.plain rfl | exact Re1.slice rfl) (by first | exact Re1.plain rfl | exact Re1.slice rfl) (by first | exact Re1.plain rfl | exact Re1.slice rfl) (by first | exact Re1.plain rfl | exact Re1.slice rfl) (by first | exact Re1.plain rfl | exact Re1.slice rfl) (by first | exact Re1.plain rfl | exact Re1.slice rfl) (by first | exact Re1.plain rfl | exact Re1.slice rfl)⟩, ⟨Nat.zero_le _, _, rfl, id, by show s.i * 2 ≤ s.cap * 2; omega, fun j hj => ?_⟩, ⟨Nat.zero_le _, _, rfl, id, Nat.le_refl _, fun j hj => ?_⟩, trivial⟩ ?_
        · have hj : j < s.i * 2 := hj
          rw [seg_at hj, seg_at (by omega), pos0_eq ⟨i1, i2, i3, i4, i5⟩ rfl j hj]; exact .plain rfl
        · rw [seg_at hj]; exact .plain rfl
        · exact N.true
end Go.Proofs.Ytfpmmahonddpoaa
