import Derived.Test.YtijiggkhnpmaiaaGreatRows
import Derived.Laws.Rows
import Derived.StillTailTactics
import Derived.Laws.CopyOwn
import Derived.Shelf.Small.Bits
import Derived.Shelf.Strconv.Itoa0
import Derived.Shelf.Bits.Mul64
import Derived.Laws.Externs
import Derived.Shelf.Spec.BitsCarry
import Derived.WalkKit
import Derived.Test.YtijiggkhnpmaiaaGreatProg
import Derived.BigQuiet
import Derived.Deep.QuietTactic
import Derived.Deep.RegionHeld3
import Derived.Test.YtijiggkhnpmaiaaGreatM3

/-
  The walk of All: all entries, by their nodes.
-/
set_option linter.unusedVariables false
set_option linter.unusedSimpArgs false
namespace Go.Proofs.YtijiggkhnpmaiaaGreat
open Go Go.RowKit Sx

def encell (x : Ent) : Nat → Value
  | 0 => .int .i64 x.node
  | 1 => .int .i64 x.boot
  | 2 => .int .i64 x.heard
  | 3 => .bool x.has
  | 4 => .int .i64 x.x
  | 5 => .int .i64 x.y
  | 6 => .int .i64 x.a
  | 7 => .int .i64 x.b
  | 8 => .int .i64 x.d
  | _ => .int .i64 x.when_
theorem encell_plain (x : Ent) (k : Nat) : plain1 (encell x k) = true := by unfold encell; split <;> rfl
theorem encell_in (x : Ent) {k : Nat} (h : k < 10) : cellIn (entV x) k = encell x k := by
  match k, h with
  | 0, _ => rfl
  | 1, _ => rfl
  | 2, _ => rfl
  | 3, _ => rfl
  | 4, _ => rfl
  | 5, _ => rfl
  | 6, _ => rfl
  | 7, _ => rfl
  | 8, _ => rfl
  | 9, _ => rfl
theorem encell_zero (j : Nat) : repZ 10 (entV Ent.zero) j = encell (Ent.zero) (j % 10) := by
  unfold repZ
  have h : j % 10 < 10 := Nat.mod_lt _ (by decide)
  generalize j % 10 = k at h
  match k, h with
  | 0, _ => rfl
  | 1, _ => rfl
  | 2, _ => rfl
  | 3, _ => rfl
  | 4, _ => rfl
  | 5, _ => rfl
  | 6, _ => rfl
  | 7, _ => rfl
  | 8, _ => rfl
  | 9, _ => rfl

/-- Elements, with room. -/
abbrev enC (o : Bool) (c : Nat) (T : Nat → Ent) : Chunk := ⟨o, c * 10, [(0, c * 10, .agg ⟨segL (c * 10) (fun j => encell (T (j / 10)) (j % 10))⟩)]⟩
theorem enC_f {o : Bool} {c j : Nat} {T : Nat → Ent} (h : j < c * 10) : (enC o c T).f j = encell (T (j / 10)) (j % 10) := seg_cell h
theorem enC_re {ix : List (Nat × Nat)} {o o' : Bool} {c : Nat} {T T' : Nat → Ent} (h : ∀ i, i < c → T i = T' i) : ChunkRe ix (enC o c T) (enC o' c T') := fun j hj => by
  have hj : j < c * 10 := hj
  rw [seg_cell hj, seg_cell hj, h (j / 10) (by omega)]; exact .plain (encell_plain _ _)
theorem enC_post {ix : List (Nat × Nat)} {c : Nat} {T T' : Nat → Ent} {hp : List (Option Chunk)} {n : Nat} (h : ∀ i, i < c → T i = T' i) (hh : hp[n]? = some (some (enC true c T'))) : PostC ix hp n (enC true c T) := ⟨_, hh, id, Nat.le_refl _, enC_re h⟩
theorem enC_ren {ix : List (Nat × Nat)} {c : Nat} {T T' : Nat → Ent} (h : ∀ i, i < c → T i = T' i) : ChunkReLe ix (enC true c T) (enC true c T') := ⟨id, Nat.le_refl _, enC_re h⟩
theorem rd_en {o : Bool} {c p n : Nat} {T : Nat → Ent} (i : Nat) (hn : n = 10) (h : i < c) (e : p = i * 10) : Reads (enC o c T) p true n (entV (T i)) := by
  subst e hn
  refine ⟨by show i * 10 + 10 ≤ c * 10; omega, _, rfl, rfl, fun j hj => ?_⟩
  rw [seg_cell (by omega), show (i * 10 + j) / 10 = i from by omega, show (i * 10 + j) % 10 = j from by omega]
  exact (encell_in _ hj).symm
def seten (T : Nat → Ent) (l : Nat) (x : Ent) (i : Nat) : Ent := if i = l then x else T i
theorem wr_en {c l p : Nat} {T : Nat → Ent} {x : Ent} (h : l < c) (e : p = l * 10) : Writes (enC true c T) p (1 * 10) (entV x) (enC true c (seten T l x)) := by
  subst e
  refine ⟨rfl, by show l * 10 + 1 * 10 ≤ c * 10; omega, rfl, fun j hj => ?_⟩
  have hj : j < c * 10 := hj
  rw [seg_cell hj, seg_cell hj]
  unfold seten
  by_cases e : l * 10 ≤ j ∧ j < l * 10 + 1 * 10
  · rw [if_pos e, if_pos (by omega), encell_in _ (by omega)]
    congr 1; omega
  · rw [if_neg e, if_neg (by omega)]
def growen (T : Nat → Ent) (l : Nat) (x : Ent) (i : Nat) : Ent := if i < l then T i else if i = l then x else Ent.zero
theorem grown_en {ci : Chunk} {l cap : Nat} {T : Nat → Ent} {x : Ent} (h : l < cap) (hc : ∀ j, j < l * 10 → ci.f j = encell (T (j / 10)) (j % 10)) {j : Nat} (hj : j < cap * 10) : (grown ci l 1 10 (entV x) (entV Ent.zero) cap).f j = encell (growen T l x (j / 10)) (j % 10) := by
  unfold growen
  by_cases h1 : j < l * 10
  · rw [grown_old h1, if_pos (by omega)]; exact hc j h1
  · rw [if_neg (by omega)]
    by_cases h2 : j < (l + 1) * 10
    · have := grown_new (ci := ci) (l := l) (m := 1) (size := 10) (cap := cap) (v := entV x) (z := entV Ent.zero) (j := j - l * 10) (by omega)
      rw [show l * 10 + (j - l * 10) = j from by omega] at this
      rw [this, if_pos (by omega), encell_in _ (by omega)]
      congr 1; omega
    · rw [grown_zero (by omega) hj, if_neg (by omega)]; exact encell_zero j
theorem grownen_post {ix : List (Nat × Nat)} {ci : Chunk} {l cap : Nat} {T : Nat → Ent} {x : Ent} {hp : List (Option Chunk)} {n : Nat} (h : l < cap) (hc : ∀ j, j < l * 10 → ci.f j = encell (T (j / 10)) (j % 10)) (hh : hp[n]? = some (some (grown ci l 1 10 (entV x) (entV Ent.zero) cap))) : PostC ix hp n (enC true cap (growen T l x)) :=
  ⟨_, hh, fun _ => rfl, by show cap * 10 ≤ cap * 10; omega, fun j hj => by
    have hj : j < cap * 10 := hj
    rw [seg_cell hj, grown_en h hc hj]; exact .plain (encell_plain _ _)⟩
theorem grownen_ren {ix : List (Nat × Nat)} {ci : Chunk} {l cap : Nat} {T T' : Nat → Ent} {x : Ent} (h : l < cap) (hc : ∀ j, j < l * 10 → ci.f j = encell (T (j / 10)) (j % 10)) (he : ∀ i, i < cap → T' i = growen T l x i) : ChunkReLe ix (enC true cap T') (grown ci l 1 10 (entV x) (entV Ent.zero) cap) :=
  ⟨fun _ => rfl, by show cap * 10 ≤ cap * 10; omega, fun j hj => by
    have hj : j < cap * 10 := hj
    rw [seg_cell hj, grown_en h hc hj, he _ (by omega)]; exact .plain (encell_plain _ _)⟩
/-- The entries of a table, by their nodes. -/
def entT (E : List (Int × Ent)) (i : Nat) : Ent := match (sortK E)[i]? with
  | some k => (dGet E k).getD Ent.zero
  | none => Ent.zero
theorem entT_in {E : List (Int × Ent)} {i : Nat} {k : Int} {e : Ent} (h : (sortK E)[i]? = some k) (he : dGet E k = some e) : entT E i = e := by
  unfold entT; rw [h]; simp only [he]; rfl
theorem sortK_get {E : List (Int × Ent)} {i : Nat} (h : i < E.length) : ∃ k, (sortK E)[i]? = some k ∧ ∃ e, (k, e) ∈ E := by
  have hl : i < (sortK E).length := by rw [sortK_len]; exact h
  refine ⟨(sortK E)[i], by simp [hl], ?_⟩
  have : (sortK E)[i] ∈ E.map (·.1) := (sortK_perm E).mem_iff.1 (List.getElem_mem hl)
  obtain ⟨q, hq, e⟩ := List.mem_map.1 this
  exact ⟨q.2, by rw [← e]; exact hq⟩
theorem dGet_has {α : Type} {E : List (Int × α)} {k : Int} {e : α} (h : (k, e) ∈ E) : ∃ e', dGet E k = some e' := by
  cases hg : dGet E k with
  | some e' => exact ⟨e', rfl⟩
  | none => exact absurd rfl (dGet_none.1 hg _ h)
abbrev mainG (x : Ext) (o : Bool) (most : Int) (i j : Nat) : Chunk := @Chunk.mk x o 3 [(0, 3, .agg ⟨[.int .i64 most, .map (some i), .map (some j)]⟩)]
abbrev main2 (most : Int) : Chunk := ⟨false, 2, [(0, 2, .agg ⟨[.int .i64 most, .map (some 1)]⟩)]⟩
theorem main2_re {ix : List (Nat × Nat)} {x : Ext} {o : Bool} {most : Int} {i j : Nat} (hi : ixK ix 1 = some i) : ChunkRe ix (mainG x o most i j) (main2 most) := fun l hl => by
  match l, hl with
  | 0, _ => exact .plain rfl
  | 1, _ => exact .map hi
theorem map_re {ix : List (Nat × Nat)} {α : Type} {enc : α → Value} {D D' : List (Int × α)} : ChunkRe ix (mapC enc D) (mapC enc D') := fun j hj => absurd hj (Nat.not_lt_zero j)
theorem map_post {ix : List (Nat × Nat)} {α : Type} {enc : α → Value} {D : List (Int × α)} {h : List (Option Chunk)} {k : Nat} (hh : h[k]? = some (some (mapC enc D))) : PostC ix h k (mapC enc D) := ⟨_, hh, id, Nat.le_refl _, fun j hj => absurd hj (Nat.not_lt_zero j)⟩
/-- What All answers: nothing, or all entries. -/
def allR (E : List (Int × Ent)) (k : Nat) (pre : List (Nat × Chunk)) (v : Value) (ms : List (Nat × Chunk)) : Prop :=
  (E = [] ∧ v = .slice none 0 0 ∧ ms = pre) ∨ ∃ cap, 0 < E.length ∧ E.length ≤ cap ∧ v = .slice (some ⟨k, 0, some 0⟩) E.length cap ∧ ms = pre ++ [(k, enC true cap (fun i => if i < E.length then entT E i else Ent.zero))]
theorem enC_safe {c : Nat} {T : Nat → Ent} {h : List (Option Chunk)} {j : Nat} (hj : j < c * 10) : Safe1 h ((enC true c T).f j) := by
  rw [enC_f hj]
  generalize T (j / 10) = x
  generalize j % 10 = k
  unfold encell
  split <;> trivial
theorem re_eq {ix : List (Nat × Nat)} {v u : Value} (h : v = u) (hp : plain3 v = true) : Re ix v u := by subst h; exact .plain hp
theorem int_eq {k : IntKind} {a b : Int} (h : a = b) : Value.int k a = .int k b := by rw [h]
/-- The entries that are told of by r rounds. -/
def allF (E : List (Int × Ent)) (r i : Nat) : Ent := if i < r then entT E i else Ent.zero
theorem N_loopD {P : Program} {G : Tys} {n0 : Nat} {c : Code} {A : (Exit → St → Prop) → St → Prop} {Q : Exit → St → Prop} {t : List (Option Value)} {h : List (Option Chunk)} (mk : Nat) (hw : updK mk [] t 0 fun t' => wkK n0 ⟨t, h⟩ ⟨t', h⟩ (N True)) (k : updK mk [] t 0 fun t' => N (LoopN P G n0 c A Q ⟨t', h⟩)) : N (LoopN P G n0 c A Q ⟨t, h⟩) := by
  have h1 := (wk_out (updK_iff.1 hw)).1
  obtain ⟨α, mk', inv, μ, nx, p1, ⟨x, p2, p3⟩, p4⟩ := (updK_iff.1 k).out
  exact N.mk ⟨α, mk', inv, μ, nx, p1, ⟨x, p2, fun X ρ a w hn R => p3 X ρ a w hn (by subst hn; exact h1.rel R)⟩, p4⟩
theorem rd_ints {l : List Int} {p n : Nat} {x : Int} (i : Nat) (hn : n = 1) (h : l[i]? = some x) (e : p = i * 1) : Reads (intsC l) p false n (.int .i64 x) := by
  subst e hn
  have hl := (List.getElem?_eq_some_iff.1 h).1
  exact ⟨by show i * 1 < l.length; omega, rfl, by rw [Nat.mul_one]; exact intsC_f h⟩
theorem rd_all {o : Bool} {n m : Nat} {l : List Value} (hl : l.length = n) (hm : m = n) : Reads ⟨o, n, [(0, n, .agg ⟨l⟩)]⟩ 0 true m (.agg ⟨l⟩) := by
  subst hm
  refine ⟨by show 0 + m ≤ m; omega, _, rfl, hl, fun j hj => ?_⟩
  show cellOf [(0, m, .agg ⟨l⟩)] (0 + j) = _
  rw [cellOf_cons, if_pos (by omega)]
  simp [cellIn]
theorem App0_mk {cj : Chunk} {g m size bytes : Nat} {z : Value} {slot : Nat} {K : Value → List (Nat × Chunk) → Prop} (v : Value) (hr : Reads cj g true (m * size) v) (h0 : 0 < m) (h1 : m ≤ 9223372036854775807) (h2 : m * bytes ≤ 140737488355328)
    (k : ∀ cap, m ≤ cap → K (.slice (some ⟨slot, 0, some 0⟩) m cap) [(slot, grown ⟨true, 0, []⟩ 0 m size v z cap)]) : N (App0N cj g m size bytes z slot K) := N.mk (.inl ⟨v, hr, h0, h1, h2, k⟩)
theorem App_mk {ci : Chunk} {k s l c : Nat} {cj : Chunk} {g m size bytes : Nat} {z : Value} {slot : Nat} {K : Value → List (Nat × Chunk) → Prop} (v : Value) (hr : Reads cj g true (m * size) v) (hf : flatB v (m * size) = true) (hl : l * size ≤ ci.n) (h1 : l + m ≤ 9223372036854775807) (h2 : (l + m) * bytes ≤ 140737488355328)
    (d : Chunk) (hw : l + m ≤ c → Writes ci (l * size) (m * size) v d) (k1 : l + m ≤ c → K (.slice (some ⟨k, 0, some s⟩) (l + m) c) [(k, d)]) (k2 : c < l + m → ∀ cap, l + m ≤ cap → K (.slice (some ⟨slot, 0, some 0⟩) (l + m) cap) [(slot, grown ci l m size v z cap)]) : N (AppN ci k s l c cj g m size bytes z slot K) :=
  N.mk ⟨v, hr, hf, hl, h1, h2, fun h => ⟨d, hw h, k1 h⟩, k2⟩
theorem main_ren {ix : List (Nat × Nat)} {F : List ((Nat × Nat) × Win)} {most : Int} (h1 : ixK ix 1 = some 1) (h2 : ixK ix 2 = some 2) : ChunkReLe ix (mainC F most) (mainC F most) := ⟨id, Nat.le_refl _, fun j hj => by
  match j, hj with
  | 0, _ => exact .plain rfl
  | 1, _ => exact .map h1
  | 2, _ => exact .map h2⟩
theorem main2_ren {ix : List (Nat × Nat)} {most : Int} (h1 : ixK ix 1 = some 1) : ChunkReLe ix (main2 most) (main2 most) := ⟨id, Nat.le_refl _, fun j hj => by
  match j, hj with
  | 0, _ => exact .plain rfl
  | 1, _ => exact .map h1⟩
theorem map_ren {ix : List (Nat × Nat)} {α : Type} {enc : α → Value} {D : List (Int × α)} : ChunkReLe ix (mapC enc D) (mapC enc D) := ⟨id, Nat.le_refl _, fun j hj => absurd hj (Nat.not_lt_zero j)⟩
theorem key_ren {ix : List (Nat × Nat)} (h1 : ixK ix 1 = some 1) : ChunkReLe ix (keyC 1) (keyC 1) := ⟨id, Nat.le_refl _, fun j hj => by
  match j, hj with
  | 0, _ => exact .map h1⟩
theorem ints_ren {ix : List (Nat × Nat)} {l : List Int} : ChunkReLe ix (intsC l) (intsC l) := ⟨id, Nat.le_refl _, fun j hj => by
  have hj : j < l.length := hj
  have e : l[j]? = some l[j] := by simp [hj]
  rw [intsC_f e]; exact .plain rfl⟩
theorem callAll_mono {P : Program} {g : FuncId} {vs : List Value} {h : List (Option Chunk)} {R R' : Value → List (Nat × Chunk) → Prop} (hc : CallAll P g vs h R) (hr : ∀ v ms, R v ms → R' v ms) : CallAll P g vs h R' := fun X ρ w xs H hx => by
  rcases hc X ρ w xs H hx with ⟨x, w', h1, v, ms, ρ', h2, h3⟩ | ⟨h1, h2⟩
  · exact .inl ⟨x, w', h1, v, ms, ρ', hr _ _ h2, h3⟩
  · refine .inr ⟨h1, h2.mono ?_⟩
    rintro e w' ⟨x, he, v, ms, ρ', h3, h4⟩
    exact ⟨x, he, v, ms, ρ', hr _ _ h3, h4⟩
set_option maxRecDepth 100000 in
set_option maxHeartbeats 2000000 in
theorem cAllT (T : Tbl) (hE : T.E.length ≤ 64) (i K : Nat) (h : List (Option Chunk)) (hi : h[i]? = some (some (tblC T))) (hK : h[K]? = some none) :
    CallAll Tryz.prog 22 [.pointer (some ⟨i, 0, some 0⟩)] h (allR T.E K [(i, tblC T)]) := by
  have key := call_resall (G := tys) (h := h) (vs := [.pointer (some ⟨i, 0, some 0⟩)]) (livesOK T.lives) (tblH T) (α := Option Nat) (fun κ => match κ with | none => T.E = [] | some cap => 0 < T.E.length ∧ T.E.length ≤ cap) (fun κ => match κ with | none => .slice none 0 0 | some cap => .slice (some ⟨K, 0, some 0⟩) T.E.length cap) [⟨i, tblC T, tblC T, tblC T⟩] (fun _ => [tblC T])
    (fun κ => match κ with | none => [] | some cap => [⟨K, 8, enC true cap (fun i => if i < T.E.length then entT T.E i else Ent.zero)⟩]) [.pointer (some ⟨0, 0, some 0⟩)] tysOK mixed Tryz.func22 (by rfl) (Tryz.call22) ⟨hi, trivial⟩ ⟨⟨fun h => ⟨rfl, Nat.le_refl _⟩, Nat.le_refl _, fun j hj => absurd hj (Nat.not_lt_zero j)⟩, trivial⟩ (fun κ _ => ⟨⟨fun h => ⟨rfl, Nat.le_refl _⟩, Nat.le_refl _, fun j hj => absurd hj (Nat.not_lt_zero j)⟩, trivial⟩) (by simp [Apart]) ⟨.inr ⟨rfl, rfl⟩, trivial⟩ (fun κ hκ => by
      cases κ with
      | none => exact trivial
      | some cap => exact ⟨⟨hK, rfl, .inl (by show 0 < cap * 10; have := hκ.1; have := hκ.2; omega), by simp⟩, trivial⟩) ⟨.ptr rfl, trivial⟩ pack_opens ?_
  · refine callAll_mono key fun v ms hR => ?_
    obtain ⟨κ, hκ, rfl, rfl⟩ := hR
    cases κ with
    | none => exact .inl ⟨hκ, rfl, rfl⟩
    | some cap => exact .inr ⟨cap, hκ.1, hκ.2, rfl, rfl⟩
  intro β hβ
  repeat' (refine N.go ?_; first | with_reducible refine N.obl (by decide) ?_ | with_reducible refine N.obl (flat_wi _ _ _) ?_ | with_reducible refine N.obl (flat_lim _ _) ?_ | with_reducible refine N.eq ?_ | with_reducible refine N.obl rfl ?_ | with_reducible refine N.obl ⟨by kernel_rfl, by kernel_rfl⟩ ?_ | with_reducible refine N.alt ?_ | with_reducible refine N.forkT ?_ | with_reducible refine N.forkF ?_ | refine N.call (cKeysT 1 3 _ _ (by rfl) (by rfl)) ?_ | fail_if_success skip)
  refine N.go ?_
  refine N.callAll (cSortedT T.E 1 3 7 _ _ (by rfl) rfl (by rfl) (by rfl) (by omega)) fun v ms hR => ?_
  rcases hR with ⟨hE0, rfl, rfl⟩ | ⟨kc, hpos, hkc, rfl, rfl⟩
  · repeat' (refine N.go ?_; first | with_reducible refine N.obl (by decide) ?_ | with_reducible refine N.obl (flat_wi _ _ _) ?_ | with_reducible refine N.obl (flat_lim _ _) ?_ | with_reducible refine N.eq ?_ | with_reducible refine N.obl rfl ?_ | with_reducible refine N.obl ⟨by kernel_rfl, by kernel_rfl⟩ ?_ | with_reducible refine N.alt ?_ | with_reducible refine N.forkT ?_ | with_reducible refine N.forkF ?_ | refine N.forkYes (by rw [decide_eq_true_eq]; omega) ?_ | refine N.forkNo (by rw [decide_eq_false_iff_not]; omega) ?_ | fail_if_success skip)
    refine N.go ?_
    refine N.roll 1 ?_
    repeat' (refine N.go ?_; first | with_reducible refine N.obl (by decide) ?_ | with_reducible refine N.obl (flat_wi _ _ _) ?_ | with_reducible refine N.obl (flat_lim _ _) ?_ | with_reducible refine N.eq ?_ | with_reducible refine N.obl rfl ?_ | with_reducible refine N.obl ⟨by kernel_rfl, by kernel_rfl⟩ ?_ | with_reducible refine N.alt ?_ | with_reducible refine N.forkT ?_ | with_reducible refine N.forkF ?_ | refine N.forkYes (by rw [decide_eq_true_eq]; omega) ?_ | refine N.forkNo (by rw [decide_eq_false_iff_not]; omega) ?_ | fail_if_success skip)
    refine N.go ?_
    refine tblClose T β 0 1 2 [] tbl_piece (fun i hi => .inl (by simpa using hi)) hβ (by rfl) (by rfl) (by rfl) (by rfl) (by rfl) (by rfl) (by rfl) (by rfl) (by rfl) (by decide) (fun k hk => by cases hk) safe0 (plain_sc rfl) ?_
    refine N.some none ⟨hE0, ?_⟩
    refine N.obl (.plain rfl) ?_
    refine N.obl ⟨⟨_, rfl, id, Nat.le_refl _, fun j hj => absurd hj (Nat.not_lt_zero j)⟩, trivial⟩ ?_
    refine N.obl trivial ?_
    refine N.obl ⟨⟨.inr ⟨_, rfl, rfl⟩, trivial⟩, trivial⟩ ?_
    exact N.true
  · repeat' (refine N.go ?_; first | with_reducible refine N.obl (by decide) ?_ | with_reducible refine N.obl (flat_wi _ _ _) ?_ | with_reducible refine N.obl (flat_lim _ _) ?_ | with_reducible refine N.eq ?_ | with_reducible refine N.obl rfl ?_ | with_reducible refine N.obl ⟨by kernel_rfl, by kernel_rfl⟩ ?_ | with_reducible refine N.alt ?_ | with_reducible refine N.forkT ?_ | with_reducible refine N.forkF ?_ | refine N.forkYes (by rw [decide_eq_true_eq]; omega) ?_ | refine N.forkNo (by rw [decide_eq_false_iff_not]; omega) ?_ | fail_if_success skip)
    refine N.go ?_
    refine N_loopD 4096 ?_ ?_
    · repeat' (refine N.go ?_; first | with_reducible refine N.obl (by decide) ?_ | with_reducible refine N.obl (flat_wi _ _ _) ?_ | with_reducible refine N.obl (flat_lim _ _) ?_ | with_reducible refine N.eq ?_ | with_reducible refine N.obl rfl ?_ | with_reducible refine N.obl ⟨by kernel_rfl, by kernel_rfl⟩ ?_ | with_reducible refine N.alt ?_ | with_reducible refine N.forkT ?_ | with_reducible refine N.forkF ?_ | exact N.true | with_reducible refine N.obl (ChunkLe.refl _) ?_ | fail_if_success skip)
    refine N.go ?_
    refine N.loopR (α := Option (Nat × Nat)) (fun x => match x with | none => True | some q => 1 ≤ q.1 ∧ q.1 ≤ T.E.length ∧ q.1 ≤ q.2) (fun x => match x with | none => T.E.length | some q => T.E.length - q.1) (fun x => match x with | none => [(15, .int .i64 0), (3, .slice none 0 0)] | some q => [(15, .int .i64 (q.1 : Int)), (3, .slice (some ⟨8, 0, some 0⟩) q.1 q.2)]) (fun x => match x with | none => [] | some q => [(8, enC true q.2 (allF T.E q.1))]) none [(0, 0), (1, 1), (2, 2), (3, 3), (7, 7)] trivial ?_ ?_
    · repeat' (refine N.go ?_; first | with_reducible refine N.obl (by decide) ?_ | with_reducible refine N.obl (flat_wi _ _ _) ?_ | with_reducible refine N.obl (flat_lim _ _) ?_ | with_reducible refine N.eq ?_ | with_reducible refine N.obl rfl ?_ | with_reducible refine N.obl ⟨by kernel_rfl, by kernel_rfl⟩ ?_ | with_reducible refine N.alt ?_ | with_reducible refine N.forkT ?_ | with_reducible refine N.forkF ?_ | exact N.true | refine N.obl (main2_ren (by rfl)) ?_ | refine N.obl (main_ren (by rfl) (by rfl)) ?_ | refine N.obl map_ren ?_ | refine N.obl (key_ren (by rfl)) ?_ | refine N.obl ints_ren ?_ | refine N.obl (.plain (by rfl)) ?_ | refine N.obl (.one (.ptr rfl)) ?_ | refine N.obl (.one (.map rfl)) ?_ | refine N.obl (.one (.slice rfl)) ?_ | fail_if_success skip)
    · intro x hx
      cases x with
      | none =>
        obtain ⟨k0, hk0, e0, he0⟩ := sortK_get (E := T.E) (i := 0) hpos
        obtain ⟨e1, hg⟩ := dGet_has he0
        repeat' (refine N.go ?_; first | with_reducible refine N.obl (by decide) ?_ | with_reducible refine N.obl (flat_wi _ _ _) ?_ | with_reducible refine N.obl (flat_lim _ _) ?_ | with_reducible refine N.eq ?_ | with_reducible refine N.obl rfl ?_ | with_reducible refine N.obl ⟨by kernel_rfl, by kernel_rfl⟩ ?_ | with_reducible refine N.alt ?_ | with_reducible refine N.forkT ?_ | with_reducible refine N.forkF ?_ | refine N.forkYes (by rw [decide_eq_true_eq]; omega) ?_ | refine N.forkNo (by rw [decide_eq_false_iff_not]; omega) ?_ | fail_if_success skip)
        refine N.go ?_
        refine N.idx 0 1 rfl hpos ?_
        repeat' (refine N.go ?_; first | with_reducible refine N.obl (by decide) ?_ | with_reducible refine N.obl (flat_wi _ _ _) ?_ | with_reducible refine N.obl (flat_lim _ _) ?_ | with_reducible refine N.eq ?_ | with_reducible refine N.obl rfl ?_ | with_reducible refine N.obl ⟨by kernel_rfl, by kernel_rfl⟩ ?_ | with_reducible refine N.alt ?_ | with_reducible refine N.forkT ?_ | with_reducible refine N.forkF ?_ | refine N.load _ (rd_ints 0 rfl hk0 rfl) ?_ | refine N_look entV T.E rfl Tryz.underlying108 Tryz.underlying3 Tryz.type74 rfl (entV e1) (by rw [hg]; rfl) rfl ?_ | refine N.forkYes (by rw [decide_eq_true_eq]; omega) ?_ | refine N.forkNo (by rw [decide_eq_false_iff_not]; omega) ?_ | fail_if_success skip)
        refine N.go ?_
        refine App0_mk (entV e1) (rd_all (by rfl) (by rfl)) (by decide) (by decide) (by decide) fun cap hcap => ?_
        repeat' (refine N.go ?_; first | with_reducible refine N.obl (by decide) ?_ | with_reducible refine N.obl (flat_wi _ _ _) ?_ | with_reducible refine N.obl (flat_lim _ _) ?_ | with_reducible refine N.eq ?_ | with_reducible refine N.obl rfl ?_ | with_reducible refine N.obl ⟨by kernel_rfl, by kernel_rfl⟩ ?_ | with_reducible refine N.alt ?_ | with_reducible refine N.forkT ?_ | with_reducible refine N.forkF ?_ | refine N.forkYes (by rw [decide_eq_true_eq]; omega) ?_ | refine N.forkNo (by rw [decide_eq_false_iff_not]; omega) ?_ | fail_if_success skip)
        refine N.go ?_
        refine N.nextR (some (1, cap)) [(0, 0), (1, 1), (2, 2), (3, 3), (7, 7), (9, 8)] ⟨⟨Nat.le_refl _, hpos, hcap⟩, by show T.E.length - 1 < T.E.length; omega⟩ ?_
        have hgr : ∀ i, i < cap → allF T.E 1 i = growen (fun _ => Ent.zero) 0 e1 i := fun i _ => by
          unfold allF growen
          by_cases h0 : i = 0
          · subst h0; rw [if_pos (by omega), if_neg (by omega), if_pos rfl]; exact entT_in hk0 hg
          · rw [if_neg (by omega), if_neg (by omega), if_neg h0]
        repeat' (refine N.go ?_; first | with_reducible refine N.obl (by decide) ?_ | with_reducible refine N.obl (flat_wi _ _ _) ?_ | with_reducible refine N.obl (flat_lim _ _) ?_ | with_reducible refine N.eq ?_ | with_reducible refine N.obl rfl ?_ | with_reducible refine N.obl ⟨by kernel_rfl, by kernel_rfl⟩ ?_ | with_reducible refine N.alt ?_ | with_reducible refine N.forkT ?_ | with_reducible refine N.forkF ?_ | exact N.true | refine N.obl (main2_ren (by rfl)) ?_ | refine N.obl (main_ren (by rfl) (by rfl)) ?_ | refine N.obl map_ren ?_ | refine N.obl (key_ren (by rfl)) ?_ | refine N.obl ints_ren ?_ | refine N.obl (.plain (by rfl)) ?_ | refine N.obl (.one (.ptr rfl)) ?_ | refine N.obl (.one (.map rfl)) ?_ | refine N.obl (.one (.slice rfl)) ?_ | refine N.obl (re_eq (int_eq (by rw [i64s _ (by omega) (by omega)]; omega)) rfl) ?_ | refine N.obl (grownen_ren (l := 0) hcap (fun j hj => absurd hj (by omega)) hgr) ?_ | fail_if_success skip)
      | some q =>
        obtain ⟨r, c⟩ := q
        obtain ⟨q1, q2, q3⟩ := hx
        have q1 : 1 ≤ r := q1
        have q2 : r ≤ T.E.length := q2
        have q3 : r ≤ c := q3
        by_cases hlt : r < T.E.length
        · obtain ⟨k0, hk0, e0, he0⟩ := sortK_get (E := T.E) (i := r) hlt
          obtain ⟨e1, hg⟩ := dGet_has he0
          have hset : allF T.E (r + 1) = seten (allF T.E r) r e1 := by
            funext i
            unfold allF seten
            by_cases h0 : i = r
            · subst h0; rw [if_pos (by omega), if_pos rfl]; exact entT_in hk0 hg
            · rw [if_neg h0]
              by_cases h1 : i < r
              · rw [if_pos (by omega)]; exact (if_pos h1).symm
              · rw [if_neg (by omega)]; exact (if_neg h1).symm
          have hgr : ∀ cap i, i < cap → allF T.E (r + 1) i = growen (allF T.E r) r e1 i := fun cap i _ => by
            rw [hset]
            unfold seten growen
            by_cases h0 : i < r
            · rw [if_neg (by omega), if_pos h0]
            · rw [if_neg h0]
              by_cases h1 : i = r
              · rw [if_pos h1, if_pos h1]
              · rw [if_neg h1, if_neg h1]; unfold allF; rw [if_neg h0]
          repeat' (refine N.go ?_; first | with_reducible refine N.obl (by decide) ?_ | with_reducible refine N.obl (flat_wi _ _ _) ?_ | with_reducible refine N.obl (flat_lim _ _) ?_ | with_reducible refine N.eq ?_ | with_reducible refine N.obl rfl ?_ | with_reducible refine N.obl ⟨by kernel_rfl, by kernel_rfl⟩ ?_ | with_reducible refine N.alt ?_ | with_reducible refine N.forkT ?_ | with_reducible refine N.forkF ?_ | refine N.forkYes (by rw [decide_eq_true_eq]; omega) ?_ | refine N.forkNo (by rw [decide_eq_false_iff_not]; omega) ?_ | fail_if_success skip)
          refine N.go ?_
          refine N.idx r 1 rfl hlt ?_
          repeat' (refine N.go ?_; first | with_reducible refine N.obl (by decide) ?_ | with_reducible refine N.obl (flat_wi _ _ _) ?_ | with_reducible refine N.obl (flat_lim _ _) ?_ | with_reducible refine N.eq ?_ | with_reducible refine N.obl rfl ?_ | with_reducible refine N.obl ⟨by kernel_rfl, by kernel_rfl⟩ ?_ | with_reducible refine N.alt ?_ | with_reducible refine N.forkT ?_ | with_reducible refine N.forkF ?_ | refine N.load _ (rd_ints r rfl hk0 (by first | rfl | omega)) ?_ | refine N_look entV T.E rfl Tryz.underlying108 Tryz.underlying3 Tryz.type74 rfl (entV e1) (by rw [hg]; rfl) rfl ?_ | refine N.forkYes (by rw [decide_eq_true_eq]; omega) ?_ | refine N.forkNo (by rw [decide_eq_false_iff_not]; omega) ?_ | fail_if_success skip)
          refine N.go ?_
          refine App_mk (entV e1) (rd_all (by rfl) (by rfl)) (by rfl) (by show r * 10 ≤ c * 10; omega) (by omega) (by show (r + 1) * 80 ≤ _; omega) (enC true c (seten (allF T.E r) r e1)) (fun h => wr_en (by omega) rfl) (fun hr => ?_) (fun hg2 cap hcap => ?_)
          · repeat' (refine N.go ?_; first | with_reducible refine N.obl (by decide) ?_ | with_reducible refine N.obl (flat_wi _ _ _) ?_ | with_reducible refine N.obl (flat_lim _ _) ?_ | with_reducible refine N.eq ?_ | with_reducible refine N.obl rfl ?_ | with_reducible refine N.obl ⟨by kernel_rfl, by kernel_rfl⟩ ?_ | with_reducible refine N.alt ?_ | with_reducible refine N.forkT ?_ | with_reducible refine N.forkF ?_ | refine N.forkYes (by rw [decide_eq_true_eq]; omega) ?_ | refine N.forkNo (by rw [decide_eq_false_iff_not]; omega) ?_ | fail_if_success skip)
            refine N.go ?_
            refine N.nextR (some (r + 1, c)) [(0, 0), (1, 1), (2, 2), (3, 3), (7, 7), (8, 8)] ⟨⟨by show 1 ≤ r + 1; omega, hlt, hr⟩, by show T.E.length - (r + 1) < T.E.length - r; omega⟩ ?_
            repeat' (refine N.go ?_; first | with_reducible refine N.obl (by decide) ?_ | with_reducible refine N.obl (flat_wi _ _ _) ?_ | with_reducible refine N.obl (flat_lim _ _) ?_ | with_reducible refine N.eq ?_ | with_reducible refine N.obl rfl ?_ | with_reducible refine N.obl ⟨by kernel_rfl, by kernel_rfl⟩ ?_ | with_reducible refine N.alt ?_ | with_reducible refine N.forkT ?_ | with_reducible refine N.forkF ?_ | exact N.true | refine N.obl (main2_ren (by rfl)) ?_ | refine N.obl (main_ren (by rfl) (by rfl)) ?_ | refine N.obl map_ren ?_ | refine N.obl (key_ren (by rfl)) ?_ | refine N.obl ints_ren ?_ | refine N.obl (.plain (by rfl)) ?_ | refine N.obl (.one (.ptr rfl)) ?_ | refine N.obl (.one (.map rfl)) ?_ | refine N.obl (.one (.slice rfl)) ?_ | refine N.obl (re_eq (int_eq (by rw [i64s _ (by omega) (by omega)]; omega)) rfl) ?_ | refine N.obl (enC_ren (fun i _ => by rw [hset])) ?_ | fail_if_success skip)
          · repeat' (refine N.go ?_; first | with_reducible refine N.obl (by decide) ?_ | with_reducible refine N.obl (flat_wi _ _ _) ?_ | with_reducible refine N.obl (flat_lim _ _) ?_ | with_reducible refine N.eq ?_ | with_reducible refine N.obl rfl ?_ | with_reducible refine N.obl ⟨by kernel_rfl, by kernel_rfl⟩ ?_ | with_reducible refine N.alt ?_ | with_reducible refine N.forkT ?_ | with_reducible refine N.forkF ?_ | refine N.forkYes (by rw [decide_eq_true_eq]; omega) ?_ | refine N.forkNo (by rw [decide_eq_false_iff_not]; omega) ?_ | fail_if_success skip)
            refine N.go ?_
            refine N.nextR (some (r + 1, cap)) [(0, 0), (1, 1), (2, 2), (3, 3), (7, 7), (10, 8)] ⟨⟨by show 1 ≤ r + 1; omega, hlt, hcap⟩, by show T.E.length - (r + 1) < T.E.length - r; omega⟩ ?_
            repeat' (refine N.go ?_; first | with_reducible refine N.obl (by decide) ?_ | with_reducible refine N.obl (flat_wi _ _ _) ?_ | with_reducible refine N.obl (flat_lim _ _) ?_ | with_reducible refine N.eq ?_ | with_reducible refine N.obl rfl ?_ | with_reducible refine N.obl ⟨by kernel_rfl, by kernel_rfl⟩ ?_ | with_reducible refine N.alt ?_ | with_reducible refine N.forkT ?_ | with_reducible refine N.forkF ?_ | exact N.true | refine N.obl (main2_ren (by rfl)) ?_ | refine N.obl (main_ren (by rfl) (by rfl)) ?_ | refine N.obl map_ren ?_ | refine N.obl (key_ren (by rfl)) ?_ | refine N.obl ints_ren ?_ | refine N.obl (.plain (by rfl)) ?_ | refine N.obl (.one (.ptr rfl)) ?_ | refine N.obl (.one (.map rfl)) ?_ | refine N.obl (.one (.slice rfl)) ?_ | refine N.obl (re_eq (int_eq (by rw [i64s _ (by omega) (by omega)]; omega)) rfl) ?_ | refine N.obl (grownen_ren (ci := enC true c (allF T.E r)) hcap (fun j hj => enC_f (by omega)) (hgr cap)) ?_ | fail_if_success skip)
        · obtain rfl : r = T.E.length := by omega
          repeat' (refine N.go ?_; first | with_reducible refine N.obl (by decide) ?_ | with_reducible refine N.obl (flat_wi _ _ _) ?_ | with_reducible refine N.obl (flat_lim _ _) ?_ | with_reducible refine N.eq ?_ | with_reducible refine N.obl rfl ?_ | with_reducible refine N.obl ⟨by kernel_rfl, by kernel_rfl⟩ ?_ | with_reducible refine N.alt ?_ | with_reducible refine N.forkT ?_ | with_reducible refine N.forkF ?_ | refine N.forkYes (by rw [decide_eq_true_eq]; omega) ?_ | refine N.forkNo (by rw [decide_eq_false_iff_not]; omega) ?_ | fail_if_success skip)
          refine N.go ?_
          refine tblClose T β 0 1 2 [8] tbl_piece (fun i hi => .inl (by simpa using hi)) hβ (by rfl) (by rfl) (by rfl) (by rfl) (by rfl) (by rfl) (by rfl) (by rfl) (by rfl) (by decide) (fun k hk => by simp at hk; omega) (fun k hk d hd l hl => ?_) (fun ρ ρ' ha => by have := ha 8 ⟨_, rfl⟩; simp [den, den2, den1, den0, denA, this]) ?_
          · obtain rfl : k = 8 := by simpa using hk
            obtain rfl : enC true c (allF T.E T.E.length) = d := by simpa using hd
            exact enC_safe hl
          refine N.some (some c) ⟨⟨q1, q3⟩, ?_⟩
          refine N.obl (.one (.slice rfl)) ?_
          refine N.obl ⟨⟨_, rfl, id, Nat.le_refl _, fun j hj => absurd hj (Nat.not_lt_zero j)⟩, trivial⟩ ?_
          refine N.obl ⟨⟨Nat.le_of_ble_eq_true rfl, enC_post (T' := allF T.E T.E.length) (fun _ _ => rfl) (by rfl)⟩, trivial⟩ ?_
          refine N.obl ⟨⟨.inr ⟨_, rfl, rfl⟩, trivial⟩, .inl rfl, trivial⟩ ?_
          exact N.true
set_option maxRecDepth 100000 in
set_option maxHeartbeats 2000000 in
theorem cAllI (x : Ext) (o : Bool) (most : Int) (E : List (Int × Ent)) (hE : E.length ≤ 64) (i i1 i2 K : Nat) (h : List (Option Chunk)) (hi : h[i]? = some (some (mainG x o most i1 i2))) (h1 : h[i1]? = some (some (mapC entV E))) (hii : i ≠ i1) (hK : h[K]? = some none) :
    CallAll Tryz.prog 22 [.pointer (some ⟨i, 0, some 0⟩)] h (allR E K [(i1, mapC entV E)]) := by
  have key := call_resall (G := tys) (h := h) (vs := [.pointer (some ⟨i, 0, some 0⟩)]) (fun _ : Unit => True) (fun _ => _) (α := Option Nat) (fun κ => match κ with | none => E = [] | some cap => 0 < E.length ∧ E.length ≤ cap) (fun κ => match κ with | none => .slice none 0 0 | some cap => .slice (some ⟨K, 0, some 0⟩) E.length cap) [⟨i, _, main2 most, noC⟩, ⟨i1, mapC entV E, mapC entV E, mapC entV E⟩] (fun _ => [noC, mapC entV E])
    (fun κ => match κ with | none => [] | some cap => [⟨K, 7, enC true cap (fun i => if i < E.length then entT E i else Ent.zero)⟩]) [.pointer (some ⟨0, 0, some 0⟩)] tysOK mixed Tryz.func22 (by rfl) (Tryz.call22) ⟨hi, h1, trivial⟩ ⟨⟨fun h => (by cases h), by show 2 ≤ 3; decide, main2_re (by rfl)⟩, ⟨fun h => ⟨rfl, Nat.le_refl _⟩, Nat.le_refl _, map_re⟩, trivial⟩ (fun κ _ => ⟨⟨fun h => (by cases h), by show 2 ≤ 3; decide, main2_re (by rfl)⟩, ⟨fun h => ⟨rfl, Nat.le_refl _⟩, Nat.le_refl _, map_re⟩, trivial⟩) (by simp [Apart, hii]) ⟨.inl rfl, .inr ⟨rfl, rfl⟩, trivial⟩ (fun κ hκ => by
      cases κ with
      | none => exact trivial
      | some cap => exact ⟨⟨hK, rfl, .inl (by show 0 < cap * 10; have := hκ.1; have := hκ.2; omega), by simp⟩, trivial⟩) ⟨.ptr rfl, trivial⟩ Opens.same ?_
  · refine callAll_mono key fun v ms hR => ?_
    obtain ⟨κ, hκ, rfl, rfl⟩ := hR
    cases κ with
    | none => exact .inl ⟨hκ, rfl, rfl⟩
    | some cap => exact .inr ⟨cap, hκ.1, hκ.2, rfl, rfl⟩
  rintro ⟨⟩ -
  repeat' (refine N.go ?_; first | with_reducible refine N.obl (by decide) ?_ | with_reducible refine N.obl (flat_wi _ _ _) ?_ | with_reducible refine N.obl (flat_lim _ _) ?_ | with_reducible refine N.eq ?_ | with_reducible refine N.obl rfl ?_ | with_reducible refine N.obl ⟨by kernel_rfl, by kernel_rfl⟩ ?_ | with_reducible refine N.alt ?_ | with_reducible refine N.forkT ?_ | with_reducible refine N.forkF ?_ | refine N.call (cKeysT 1 2 _ _ (by rfl) (by rfl)) ?_ | fail_if_success skip)
  refine N.go ?_
  refine N.callAll (cSortedT E 1 2 6 _ _ (by rfl) rfl (by rfl) (by rfl) (by omega)) fun v ms hR => ?_
  rcases hR with ⟨hE0, rfl, rfl⟩ | ⟨kc, hpos, hkc, rfl, rfl⟩
  · repeat' (refine N.go ?_; first | with_reducible refine N.obl (by decide) ?_ | with_reducible refine N.obl (flat_wi _ _ _) ?_ | with_reducible refine N.obl (flat_lim _ _) ?_ | with_reducible refine N.eq ?_ | with_reducible refine N.obl rfl ?_ | with_reducible refine N.obl ⟨by kernel_rfl, by kernel_rfl⟩ ?_ | with_reducible refine N.alt ?_ | with_reducible refine N.forkT ?_ | with_reducible refine N.forkF ?_ | refine N.forkYes (by rw [decide_eq_true_eq]; omega) ?_ | refine N.forkNo (by rw [decide_eq_false_iff_not]; omega) ?_ | fail_if_success skip)
    refine N.go ?_
    refine N.roll 1 ?_
    repeat' (refine N.go ?_; first | with_reducible refine N.obl (by decide) ?_ | with_reducible refine N.obl (flat_wi _ _ _) ?_ | with_reducible refine N.obl (flat_lim _ _) ?_ | with_reducible refine N.eq ?_ | with_reducible refine N.obl rfl ?_ | with_reducible refine N.obl ⟨by kernel_rfl, by kernel_rfl⟩ ?_ | with_reducible refine N.alt ?_ | with_reducible refine N.forkT ?_ | with_reducible refine N.forkF ?_ | refine N.forkYes (by rw [decide_eq_true_eq]; omega) ?_ | refine N.forkNo (by rw [decide_eq_false_iff_not]; omega) ?_ | fail_if_success skip)
    refine N.go ?_
    refine N.endSame ?_
    refine N.some none ⟨hE0, ?_⟩
    refine N.obl (.plain rfl) ?_
    refine N.obl ⟨map_post (by rfl), trivial⟩ ?_
    refine N.obl trivial ?_
    refine N.obl ⟨⟨.inl rfl, .inr ⟨_, rfl, rfl⟩, trivial⟩, trivial⟩ ?_
    exact N.true
  · repeat' (refine N.go ?_; first | with_reducible refine N.obl (by decide) ?_ | with_reducible refine N.obl (flat_wi _ _ _) ?_ | with_reducible refine N.obl (flat_lim _ _) ?_ | with_reducible refine N.eq ?_ | with_reducible refine N.obl rfl ?_ | with_reducible refine N.obl ⟨by kernel_rfl, by kernel_rfl⟩ ?_ | with_reducible refine N.alt ?_ | with_reducible refine N.forkT ?_ | with_reducible refine N.forkF ?_ | refine N.forkYes (by rw [decide_eq_true_eq]; omega) ?_ | refine N.forkNo (by rw [decide_eq_false_iff_not]; omega) ?_ | fail_if_success skip)
    refine N.go ?_
    refine N_loopD 4096 ?_ ?_
    · repeat' (refine N.go ?_; first | with_reducible refine N.obl (by decide) ?_ | with_reducible refine N.obl (flat_wi _ _ _) ?_ | with_reducible refine N.obl (flat_lim _ _) ?_ | with_reducible refine N.eq ?_ | with_reducible refine N.obl rfl ?_ | with_reducible refine N.obl ⟨by kernel_rfl, by kernel_rfl⟩ ?_ | with_reducible refine N.alt ?_ | with_reducible refine N.forkT ?_ | with_reducible refine N.forkF ?_ | exact N.true | with_reducible refine N.obl (ChunkLe.refl _) ?_ | fail_if_success skip)
    refine N.go ?_
    refine N.loopR (α := Option (Nat × Nat)) (fun x => match x with | none => True | some q => 1 ≤ q.1 ∧ q.1 ≤ E.length ∧ q.1 ≤ q.2) (fun x => match x with | none => E.length | some q => E.length - q.1) (fun x => match x with | none => [(15, .int .i64 0), (3, .slice none 0 0)] | some q => [(15, .int .i64 (q.1 : Int)), (3, .slice (some ⟨7, 0, some 0⟩) q.1 q.2)]) (fun x => match x with | none => [] | some q => [(7, enC true q.2 (allF E q.1))]) none [(0, 0), (1, 1), (2, 2), (6, 6)] trivial ?_ ?_
    · repeat' (refine N.go ?_; first | with_reducible refine N.obl (by decide) ?_ | with_reducible refine N.obl (flat_wi _ _ _) ?_ | with_reducible refine N.obl (flat_lim _ _) ?_ | with_reducible refine N.eq ?_ | with_reducible refine N.obl rfl ?_ | with_reducible refine N.obl ⟨by kernel_rfl, by kernel_rfl⟩ ?_ | with_reducible refine N.alt ?_ | with_reducible refine N.forkT ?_ | with_reducible refine N.forkF ?_ | exact N.true | refine N.obl (main2_ren (by rfl)) ?_ | refine N.obl (main_ren (by rfl) (by rfl)) ?_ | refine N.obl map_ren ?_ | refine N.obl (key_ren (by rfl)) ?_ | refine N.obl ints_ren ?_ | refine N.obl (.plain (by rfl)) ?_ | refine N.obl (.one (.ptr rfl)) ?_ | refine N.obl (.one (.map rfl)) ?_ | refine N.obl (.one (.slice rfl)) ?_ | fail_if_success skip)
    · intro x hx
      cases x with
      | none =>
        obtain ⟨k0, hk0, e0, he0⟩ := sortK_get (E := E) (i := 0) hpos
        obtain ⟨e1, hg⟩ := dGet_has he0
        repeat' (refine N.go ?_; first | with_reducible refine N.obl (by decide) ?_ | with_reducible refine N.obl (flat_wi _ _ _) ?_ | with_reducible refine N.obl (flat_lim _ _) ?_ | with_reducible refine N.eq ?_ | with_reducible refine N.obl rfl ?_ | with_reducible refine N.obl ⟨by kernel_rfl, by kernel_rfl⟩ ?_ | with_reducible refine N.alt ?_ | with_reducible refine N.forkT ?_ | with_reducible refine N.forkF ?_ | refine N.forkYes (by rw [decide_eq_true_eq]; omega) ?_ | refine N.forkNo (by rw [decide_eq_false_iff_not]; omega) ?_ | fail_if_success skip)
        refine N.go ?_
        refine N.idx 0 1 rfl hpos ?_
        repeat' (refine N.go ?_; first | with_reducible refine N.obl (by decide) ?_ | with_reducible refine N.obl (flat_wi _ _ _) ?_ | with_reducible refine N.obl (flat_lim _ _) ?_ | with_reducible refine N.eq ?_ | with_reducible refine N.obl rfl ?_ | with_reducible refine N.obl ⟨by kernel_rfl, by kernel_rfl⟩ ?_ | with_reducible refine N.alt ?_ | with_reducible refine N.forkT ?_ | with_reducible refine N.forkF ?_ | refine N.load _ (rd_ints 0 rfl hk0 rfl) ?_ | refine N_look entV E rfl Tryz.underlying108 Tryz.underlying3 Tryz.type74 rfl (entV e1) (by rw [hg]; rfl) rfl ?_ | refine N.forkYes (by rw [decide_eq_true_eq]; omega) ?_ | refine N.forkNo (by rw [decide_eq_false_iff_not]; omega) ?_ | fail_if_success skip)
        refine N.go ?_
        refine App0_mk (entV e1) (rd_all (by rfl) (by rfl)) (by decide) (by decide) (by decide) fun cap hcap => ?_
        repeat' (refine N.go ?_; first | with_reducible refine N.obl (by decide) ?_ | with_reducible refine N.obl (flat_wi _ _ _) ?_ | with_reducible refine N.obl (flat_lim _ _) ?_ | with_reducible refine N.eq ?_ | with_reducible refine N.obl rfl ?_ | with_reducible refine N.obl ⟨by kernel_rfl, by kernel_rfl⟩ ?_ | with_reducible refine N.alt ?_ | with_reducible refine N.forkT ?_ | with_reducible refine N.forkF ?_ | refine N.forkYes (by rw [decide_eq_true_eq]; omega) ?_ | refine N.forkNo (by rw [decide_eq_false_iff_not]; omega) ?_ | fail_if_success skip)
        refine N.go ?_
        refine N.nextR (some (1, cap)) [(0, 0), (1, 1), (2, 2), (6, 6), (8, 7)] ⟨⟨Nat.le_refl _, hpos, hcap⟩, by show E.length - 1 < E.length; omega⟩ ?_
        have hgr : ∀ i, i < cap → allF E 1 i = growen (fun _ => Ent.zero) 0 e1 i := fun i _ => by
          unfold allF growen
          by_cases h0 : i = 0
          · subst h0; rw [if_pos (by omega), if_neg (by omega), if_pos rfl]; exact entT_in hk0 hg
          · rw [if_neg (by omega), if_neg (by omega), if_neg h0]
        repeat' (refine N.go ?_; first | with_reducible refine N.obl (by decide) ?_ | with_reducible refine N.obl (flat_wi _ _ _) ?_ | with_reducible refine N.obl (flat_lim _ _) ?_ | with_reducible refine N.eq ?_ | with_reducible refine N.obl rfl ?_ | with_reducible refine N.obl ⟨by kernel_rfl, by kernel_rfl⟩ ?_ | with_reducible refine N.alt ?_ | with_reducible refine N.forkT ?_ | with_reducible refine N.forkF ?_ | exact N.true | refine N.obl (main2_ren (by rfl)) ?_ | refine N.obl (main_ren (by rfl) (by rfl)) ?_ | refine N.obl map_ren ?_ | refine N.obl (key_ren (by rfl)) ?_ | refine N.obl ints_ren ?_ | refine N.obl (.plain (by rfl)) ?_ | refine N.obl (.one (.ptr rfl)) ?_ | refine N.obl (.one (.map rfl)) ?_ | refine N.obl (.one (.slice rfl)) ?_ | refine N.obl (re_eq (int_eq (by rw [i64s _ (by omega) (by omega)]; omega)) rfl) ?_ | refine N.obl (grownen_ren (l := 0) hcap (fun j hj => absurd hj (by omega)) hgr) ?_ | fail_if_success skip)
      | some q =>
        obtain ⟨r, c⟩ := q
        obtain ⟨q1, q2, q3⟩ := hx
        have q1 : 1 ≤ r := q1
        have q2 : r ≤ E.length := q2
        have q3 : r ≤ c := q3
        by_cases hlt : r < E.length
        · obtain ⟨k0, hk0, e0, he0⟩ := sortK_get (E := E) (i := r) hlt
          obtain ⟨e1, hg⟩ := dGet_has he0
          have hset : allF E (r + 1) = seten (allF E r) r e1 := by
            funext i
            unfold allF seten
            by_cases h0 : i = r
            · subst h0; rw [if_pos (by omega), if_pos rfl]; exact entT_in hk0 hg
            · rw [if_neg h0]
              by_cases h1 : i < r
              · rw [if_pos (by omega)]; exact (if_pos h1).symm
              · rw [if_neg (by omega)]; exact (if_neg h1).symm
          have hgr : ∀ cap i, i < cap → allF E (r + 1) i = growen (allF E r) r e1 i := fun cap i _ => by
            rw [hset]
            unfold seten growen
            by_cases h0 : i < r
            · rw [if_neg (by omega), if_pos h0]
            · rw [if_neg h0]
              by_cases h1 : i = r
              · rw [if_pos h1, if_pos h1]
              · rw [if_neg h1, if_neg h1]; unfold allF; rw [if_neg h0]
          repeat' (refine N.go ?_; first | with_reducible refine N.obl (by decide) ?_ | with_reducible refine N.obl (flat_wi _ _ _) ?_ | with_reducible refine N.obl (flat_lim _ _) ?_ | with_reducible refine N.eq ?_ | with_reducible refine N.obl rfl ?_ | with_reducible refine N.obl ⟨by kernel_rfl, by kernel_rfl⟩ ?_ | with_reducible refine N.alt ?_ | with_reducible refine N.forkT ?_ | with_reducible refine N.forkF ?_ | refine N.forkYes (by rw [decide_eq_true_eq]; omega) ?_ | refine N.forkNo (by rw [decide_eq_false_iff_not]; omega) ?_ | fail_if_success skip)
          refine N.go ?_
          refine N.idx r 1 rfl hlt ?_
          repeat' (refine N.go ?_; first | with_reducible refine N.obl (by decide) ?_ | with_reducible refine N.obl (flat_wi _ _ _) ?_ | with_reducible refine N.obl (flat_lim _ _) ?_ | with_reducible refine N.eq ?_ | with_reducible refine N.obl rfl ?_ | with_reducible refine N.obl ⟨by kernel_rfl, by kernel_rfl⟩ ?_ | with_reducible refine N.alt ?_ | with_reducible refine N.forkT ?_ | with_reducible refine N.forkF ?_ | refine N.load _ (rd_ints r rfl hk0 (by first | rfl | omega)) ?_ | refine N_look entV E rfl Tryz.underlying108 Tryz.underlying3 Tryz.type74 rfl (entV e1) (by rw [hg]; rfl) rfl ?_ | refine N.forkYes (by rw [decide_eq_true_eq]; omega) ?_ | refine N.forkNo (by rw [decide_eq_false_iff_not]; omega) ?_ | fail_if_success skip)
          refine N.go ?_
          refine App_mk (entV e1) (rd_all (by rfl) (by rfl)) (by rfl) (by show r * 10 ≤ c * 10; omega) (by omega) (by show (r + 1) * 80 ≤ _; omega) (enC true c (seten (allF E r) r e1)) (fun h => wr_en (by omega) rfl) (fun hr => ?_) (fun hg2 cap hcap => ?_)
          · repeat' (refine N.go ?_; first | with_reducible refine N.obl (by decide) ?_ | with_reducible refine N.obl (flat_wi _ _ _) ?_ | with_reducible refine N.obl (flat_lim _ _) ?_ | with_reducible refine N.eq ?_ | with_reducible refine N.obl rfl ?_ | with_reducible refine N.obl ⟨by kernel_rfl, by kernel_rfl⟩ ?_ | with_reducible refine N.alt ?_ | with_reducible refine N.forkT ?_ | with_reducible refine N.forkF ?_ | refine N.forkYes (by rw [decide_eq_true_eq]; omega) ?_ | refine N.forkNo (by rw [decide_eq_false_iff_not]; omega) ?_ | fail_if_success skip)
            refine N.go ?_
            refine N.nextR (some (r + 1, c)) [(0, 0), (1, 1), (2, 2), (6, 6), (7, 7)] ⟨⟨by show 1 ≤ r + 1; omega, hlt, hr⟩, by show E.length - (r + 1) < E.length - r; omega⟩ ?_
            repeat' (refine N.go ?_; first | with_reducible refine N.obl (by decide) ?_ | with_reducible refine N.obl (flat_wi _ _ _) ?_ | with_reducible refine N.obl (flat_lim _ _) ?_ | with_reducible refine N.eq ?_ | with_reducible refine N.obl rfl ?_ | with_reducible refine N.obl ⟨by kernel_rfl, by kernel_rfl⟩ ?_ | with_reducible refine N.alt ?_ | with_reducible refine N.forkT ?_ | with_reducible refine N.forkF ?_ | exact N.true | refine N.obl (main2_ren (by rfl)) ?_ | refine N.obl (main_ren (by rfl) (by rfl)) ?_ | refine N.obl map_ren ?_ | refine N.obl (key_ren (by rfl)) ?_ | refine N.obl ints_ren ?_ | refine N.obl (.plain (by rfl)) ?_ | refine N.obl (.one (.ptr rfl)) ?_ | refine N.obl (.one (.map rfl)) ?_ | refine N.obl (.one (.slice rfl)) ?_ | refine N.obl (re_eq (int_eq (by rw [i64s _ (by omega) (by omega)]; omega)) rfl) ?_ | refine N.obl (enC_ren (fun i _ => by rw [hset])) ?_ | fail_if_success skip)
          · repeat' (refine N.go ?_; first | with_reducible refine N.obl (by decide) ?_ | with_reducible refine N.obl (flat_wi _ _ _) ?_ | with_reducible refine N.obl (flat_lim _ _) ?_ | with_reducible refine N.eq ?_ | with_reducible refine N.obl rfl ?_ | with_reducible refine N.obl ⟨by kernel_rfl, by kernel_rfl⟩ ?_ | with_reducible refine N.alt ?_ | with_reducible refine N.forkT ?_ | with_reducible refine N.forkF ?_ | refine N.forkYes (by rw [decide_eq_true_eq]; omega) ?_ | refine N.forkNo (by rw [decide_eq_false_iff_not]; omega) ?_ | fail_if_success skip)
            refine N.go ?_
            refine N.nextR (some (r + 1, cap)) [(0, 0), (1, 1), (2, 2), (6, 6), (9, 7)] ⟨⟨by show 1 ≤ r + 1; omega, hlt, hcap⟩, by show E.length - (r + 1) < E.length - r; omega⟩ ?_
            repeat' (refine N.go ?_; first | with_reducible refine N.obl (by decide) ?_ | with_reducible refine N.obl (flat_wi _ _ _) ?_ | with_reducible refine N.obl (flat_lim _ _) ?_ | with_reducible refine N.eq ?_ | with_reducible refine N.obl rfl ?_ | with_reducible refine N.obl ⟨by kernel_rfl, by kernel_rfl⟩ ?_ | with_reducible refine N.alt ?_ | with_reducible refine N.forkT ?_ | with_reducible refine N.forkF ?_ | exact N.true | refine N.obl (main2_ren (by rfl)) ?_ | refine N.obl (main_ren (by rfl) (by rfl)) ?_ | refine N.obl map_ren ?_ | refine N.obl (key_ren (by rfl)) ?_ | refine N.obl ints_ren ?_ | refine N.obl (.plain (by rfl)) ?_ | refine N.obl (.one (.ptr rfl)) ?_ | refine N.obl (.one (.map rfl)) ?_ | refine N.obl (.one (.slice rfl)) ?_ | refine N.obl (re_eq (int_eq (by rw [i64s _ (by omega) (by omega)]; omega)) rfl) ?_ | refine N.obl (grownen_ren (ci := enC true c (allF E r)) hcap (fun j hj => enC_f (by omega)) (hgr cap)) ?_ | fail_if_success skip)
        · obtain rfl : r = E.length := by omega
          repeat' (refine N.go ?_; first | with_reducible refine N.obl (by decide) ?_ | with_reducible refine N.obl (flat_wi _ _ _) ?_ | with_reducible refine N.obl (flat_lim _ _) ?_ | with_reducible refine N.eq ?_ | with_reducible refine N.obl rfl ?_ | with_reducible refine N.obl ⟨by kernel_rfl, by kernel_rfl⟩ ?_ | with_reducible refine N.alt ?_ | with_reducible refine N.forkT ?_ | with_reducible refine N.forkF ?_ | refine N.forkYes (by rw [decide_eq_true_eq]; omega) ?_ | refine N.forkNo (by rw [decide_eq_false_iff_not]; omega) ?_ | fail_if_success skip)
          refine N.go ?_
          refine N.endSame ?_
          refine N.some (some c) ⟨⟨q1, q3⟩, ?_⟩
          refine N.obl (.one (.slice rfl)) ?_
          refine N.obl ⟨map_post (by rfl), trivial⟩ ?_
          refine N.obl ⟨⟨Nat.le_of_ble_eq_true rfl, enC_post (T' := allF E E.length) (fun _ _ => rfl) (by rfl)⟩, trivial⟩ ?_
          refine N.obl ⟨⟨.inl rfl, .inr ⟨_, rfl, rfl⟩, trivial⟩, .inl rfl, trivial⟩ ?_
          exact N.true
end Go.Proofs.YtijiggkhnpmaiaaGreat


/-
  The walk of elder: who goes first.
-/
set_option linter.unusedVariables false
set_option linter.unusedSimpArgs false
namespace Go.Proofs.YtijiggkhnpmaiaaGreat
open Go Go.RowKit Sx

def cmpI (x y : Int) : Int := if x < y then -1 else if x > y then 1 else 0
/-- Who goes ahead of whom: by when they were heard, then by their nodes. -/
def cmpE (a b : Ent) : Int := if cmpI a.heard b.heard ≠ 0 then cmpI a.heard b.heard else cmpI a.node b.node
set_option maxRecDepth 100000 in
set_option maxHeartbeats 2000000 in
theorem nanint_x (s : Int)  (w : World) : Calls Tryz.prog 113 #[.int .i64 s] w fun e w' => e = .returned (.bool false) ∧ Below w.heap.size w w' := by
  refine calls_pure (G := tys) w tysOK mixed Tryz.func113 (by rfl) (by first | rfl | (simp only [List.all_cons, List.all_nil, plain_wz, plain_lim, plain_wi]; rfl)) (by first | exact plain3_wz _ | exact plain3_wi _ _ _ | rfl | (simp only [plain3, List.all_cons, List.all_nil, plain_wz, plain_lim, plain_wi]; rfl)) ?_
  repeat' (refine N.go ?_; first | with_reducible refine N.obl (by decide) ?_ | with_reducible refine N.obl (flat_wi _ _ _) ?_ | with_reducible refine N.obl (flat_lim _ _) ?_ | with_reducible refine N.eq ?_ | with_reducible refine N.obl rfl ?_ | with_reducible refine N.obl ⟨by kernel_rfl, by kernel_rfl⟩ ?_ | with_reducible refine N.alt ?_ | with_reducible refine N.forkT ?_ | with_reducible refine N.forkF ?_ | fail_if_success skip)
  all_goals simp
theorem cNanint (s : Int) (h : List (Option Chunk)) : CallOK Tryz.prog 113 [.int .i64 s] h (.bool false) [] [] := call_pure rfl rfl (Tryz.call113 _) (nanint_x s)
set_option maxRecDepth 100000 in
set_option maxHeartbeats 2000000 in
theorem cmpint_x (a b : Int)  (w : World) : Calls Tryz.prog 87 #[.int .i64 a, .int .i64 b] w fun e w' => e = .returned (.int .i64 (cmpI a b)) ∧ Below w.heap.size w w' := by
  refine calls_pure (G := tys) w tysOK mixed Tryz.func87 (by rfl) (by first | rfl | (simp only [List.all_cons, List.all_nil, plain_wz, plain_lim, plain_wi]; rfl)) (by first | exact plain3_wz _ | exact plain3_wi _ _ _ | rfl | (simp only [plain3, List.all_cons, List.all_nil, plain_wz, plain_lim, plain_wi]; rfl)) ?_
  repeat' (refine N.go ?_; first | with_reducible refine N.obl (by decide) ?_ | with_reducible refine N.obl (flat_wi _ _ _) ?_ | with_reducible refine N.obl (flat_lim _ _) ?_ | with_reducible refine N.eq ?_ | with_reducible refine N.obl rfl ?_ | with_reducible refine N.obl ⟨by kernel_rfl, by kernel_rfl⟩ ?_ | with_reducible refine N.alt ?_ | with_reducible refine N.forkT ?_ | with_reducible refine N.forkF ?_ | refine N.call (cNanint _ _) ?_ | with_reducible refine N.fork (fun hb => ?_) (fun hb => ?_) | fail_if_success skip)
  all_goals
    refine congrArg _ ?_
    unfold cmpI
    simp only [decide_eq_true_eq, decide_eq_false_iff_not] at *
    first
      | (rw [if_pos (by omega)]; first | done | fail)
      | (rw [if_neg (by omega), if_pos (by omega)]; first | done | fail)
      | (rw [if_neg (by omega), if_neg (by omega)])
theorem cCmpint (a b : Int) (h : List (Option Chunk)) : CallOK Tryz.prog 87 [.int .i64 a, .int .i64 b] h (.int .i64 (cmpI a b)) [] [] := call_pure rfl rfl (Tryz.call87 _) (cmpint_x a b)
set_option maxRecDepth 100000 in
set_option maxHeartbeats 2000000 in
theorem nanint64_x (s : Int)  (w : World) : Calls Tryz.prog 112 #[.int .i64 s] w fun e w' => e = .returned (.bool false) ∧ Below w.heap.size w w' := by
  refine calls_pure (G := tys) w tysOK mixed Tryz.func112 (by rfl) (by first | rfl | (simp only [List.all_cons, List.all_nil, plain_wz, plain_lim, plain_wi]; rfl)) (by first | exact plain3_wz _ | exact plain3_wi _ _ _ | rfl | (simp only [plain3, List.all_cons, List.all_nil, plain_wz, plain_lim, plain_wi]; rfl)) ?_
  repeat' (refine N.go ?_; first | with_reducible refine N.obl (by decide) ?_ | with_reducible refine N.obl (flat_wi _ _ _) ?_ | with_reducible refine N.obl (flat_lim _ _) ?_ | with_reducible refine N.eq ?_ | with_reducible refine N.obl rfl ?_ | with_reducible refine N.obl ⟨by kernel_rfl, by kernel_rfl⟩ ?_ | with_reducible refine N.alt ?_ | with_reducible refine N.forkT ?_ | with_reducible refine N.forkF ?_ | fail_if_success skip)
  all_goals simp
theorem cNanint64 (s : Int) (h : List (Option Chunk)) : CallOK Tryz.prog 112 [.int .i64 s] h (.bool false) [] [] := call_pure rfl rfl (Tryz.call112 _) (nanint64_x s)
set_option maxRecDepth 100000 in
set_option maxHeartbeats 2000000 in
theorem cmpint64_x (a b : Int)  (w : World) : Calls Tryz.prog 86 #[.int .i64 a, .int .i64 b] w fun e w' => e = .returned (.int .i64 (cmpI a b)) ∧ Below w.heap.size w w' := by
  refine calls_pure (G := tys) w tysOK mixed Tryz.func86 (by rfl) (by first | rfl | (simp only [List.all_cons, List.all_nil, plain_wz, plain_lim, plain_wi]; rfl)) (by first | exact plain3_wz _ | exact plain3_wi _ _ _ | rfl | (simp only [plain3, List.all_cons, List.all_nil, plain_wz, plain_lim, plain_wi]; rfl)) ?_
  repeat' (refine N.go ?_; first | with_reducible refine N.obl (by decide) ?_ | with_reducible refine N.obl (flat_wi _ _ _) ?_ | with_reducible refine N.obl (flat_lim _ _) ?_ | with_reducible refine N.eq ?_ | with_reducible refine N.obl rfl ?_ | with_reducible refine N.obl ⟨by kernel_rfl, by kernel_rfl⟩ ?_ | with_reducible refine N.alt ?_ | with_reducible refine N.forkT ?_ | with_reducible refine N.forkF ?_ | refine N.call (cNanint64 _ _) ?_ | with_reducible refine N.fork (fun hb => ?_) (fun hb => ?_) | fail_if_success skip)
  all_goals
    refine congrArg _ ?_
    unfold cmpI
    simp only [decide_eq_true_eq, decide_eq_false_iff_not] at *
    first
      | (rw [if_pos (by omega)]; first | done | fail)
      | (rw [if_neg (by omega), if_pos (by omega)]; first | done | fail)
      | (rw [if_neg (by omega), if_neg (by omega)])
theorem cCmpint64 (a b : Int) (h : List (Option Chunk)) : CallOK Tryz.prog 86 [.int .i64 a, .int .i64 b] h (.int .i64 (cmpI a b)) [] [] := call_pure rfl rfl (Tryz.call86 _) (cmpint64_x a b)
abbrev twoC (o : Bool) (a b : Int) : Chunk := ⟨o, 2, [(0, 2, .agg ⟨[.int .i64 a, .int .i64 b]⟩)]⟩
theorem two_re {ix : List (Nat × Nat)} {o o' : Bool} {a b : Int} : ChunkRe ix (twoC o a b) (twoC o' a b) := fun j hj => by
  match j, hj with
  | 0, _ => exact .plain rfl
  | 1, _ => exact .plain rfl
set_option maxRecDepth 100000 in
set_option maxHeartbeats 2000000 in
theorem cOr (o : Bool) (a b : Int) (i : Nat) (h : List (Option Chunk)) (hi : h[i]? = some (some (twoC o a b))) :
    CallOK Tryz.prog 85 [.slice (some ⟨i, 0, some 0⟩) 2 2] h (.int .i64 (if a ≠ 0 then a else b)) [] [i] := by
  refine call_sub (G := tys) [⟨i, _, twoC false a b, noC⟩] [] [.slice (some ⟨0, 0, some 0⟩) 2 2] tysOK mixed Tryz.func85 (by rfl) (Tryz.call85) ⟨hi, trivial⟩ ⟨⟨fun h => (by cases h), Nat.le_refl _, two_re⟩, trivial⟩ (by simp [Apart]) trivial ⟨.slice rfl, trivial⟩ ?_
  repeat' (refine N.go ?_; first | with_reducible refine N.obl (by decide) ?_ | with_reducible refine N.obl (flat_wi _ _ _) ?_ | with_reducible refine N.obl (flat_lim _ _) ?_ | with_reducible refine N.eq ?_ | with_reducible refine N.obl rfl ?_ | with_reducible refine N.obl ⟨by kernel_rfl, by kernel_rfl⟩ ?_ | with_reducible refine N.alt ?_ | with_reducible refine N.forkT ?_ | with_reducible refine N.forkF ?_ | refine N.forkNo (by decide) ?_ | refine N.forkYes (by decide) ?_ | refine N.fork (fun hb => ?_) (fun hb => ?_) | fail_if_success skip)
  refine N.go ?_
  refine N.roll 3 ?_
  repeat' (refine N.go ?_; first | with_reducible refine N.obl (by decide) ?_ | with_reducible refine N.obl (flat_wi _ _ _) ?_ | with_reducible refine N.obl (flat_lim _ _) ?_ | with_reducible refine N.eq ?_ | with_reducible refine N.obl rfl ?_ | with_reducible refine N.obl ⟨by kernel_rfl, by kernel_rfl⟩ ?_ | with_reducible refine N.alt ?_ | with_reducible refine N.forkT ?_ | with_reducible refine N.forkF ?_ | refine N.forkNo (by decide) ?_ | refine N.forkYes (by decide) ?_ | refine N.fork (fun hb => ?_) (fun hb => ?_) | fail_if_success skip)
  refine N.go ?_
  refine N.idx 0 0 rfl (by decide) ?_
  repeat' (refine N.go ?_; first | with_reducible refine N.obl (by decide) ?_ | with_reducible refine N.obl (flat_wi _ _ _) ?_ | with_reducible refine N.obl (flat_lim _ _) ?_ | with_reducible refine N.eq ?_ | with_reducible refine N.obl rfl ?_ | with_reducible refine N.obl ⟨by kernel_rfl, by kernel_rfl⟩ ?_ | with_reducible refine N.alt ?_ | with_reducible refine N.forkT ?_ | with_reducible refine N.forkF ?_ | refine N.forkNo (by decide) ?_ | refine N.forkYes (by decide) ?_ | refine N.fork (fun hb => ?_) (fun hb => ?_) | fail_if_success skip)
  · simp only [bne_iff_ne, ne_eq] at hb
    rw [if_pos hb]
    repeat' (refine N.go ?_; first | with_reducible refine N.obl (by decide) ?_ | with_reducible refine N.obl (flat_wi _ _ _) ?_ | with_reducible refine N.obl (flat_lim _ _) ?_ | with_reducible refine N.eq ?_ | with_reducible refine N.obl rfl ?_ | with_reducible refine N.obl ⟨by kernel_rfl, by kernel_rfl⟩ ?_ | with_reducible refine N.alt ?_ | with_reducible refine N.forkT ?_ | with_reducible refine N.forkF ?_ | refine N.obl (.plain rfl) ?_ | refine N.obl trivial ?_ | exact N.true | fail_if_success skip)
  · refine N.go ?_
    refine N.idx 1 0 rfl (by decide) ?_
    repeat' (refine N.go ?_; first | with_reducible refine N.obl (by decide) ?_ | with_reducible refine N.obl (flat_wi _ _ _) ?_ | with_reducible refine N.obl (flat_lim _ _) ?_ | with_reducible refine N.eq ?_ | with_reducible refine N.obl rfl ?_ | with_reducible refine N.obl ⟨by kernel_rfl, by kernel_rfl⟩ ?_ | with_reducible refine N.alt ?_ | with_reducible refine N.forkT ?_ | with_reducible refine N.forkF ?_ | refine N.forkNo (by decide) ?_ | refine N.forkYes (by decide) ?_ | refine N.fork (fun hb => ?_) (fun hb => ?_) | fail_if_success skip)
    · rename_i hb1
      simp only [bne_iff_ne, ne_eq, bne_eq_false_iff_eq] at hb hb1
      rw [if_neg (by omega)]
      repeat' (refine N.go ?_; first | with_reducible refine N.obl (by decide) ?_ | with_reducible refine N.obl (flat_wi _ _ _) ?_ | with_reducible refine N.obl (flat_lim _ _) ?_ | with_reducible refine N.eq ?_ | with_reducible refine N.obl rfl ?_ | with_reducible refine N.obl ⟨by kernel_rfl, by kernel_rfl⟩ ?_ | with_reducible refine N.alt ?_ | with_reducible refine N.forkT ?_ | with_reducible refine N.forkF ?_ | refine N.obl (.plain rfl) ?_ | refine N.obl trivial ?_ | exact N.true | fail_if_success skip)
    · rename_i hb1
      simp only [bne_iff_ne, ne_eq, bne_eq_false_iff_eq] at hb hb1
      rw [if_neg (by omega), hb]
      repeat' (refine N.go ?_; first | with_reducible refine N.obl (by decide) ?_ | with_reducible refine N.obl (flat_wi _ _ _) ?_ | with_reducible refine N.obl (flat_lim _ _) ?_ | with_reducible refine N.eq ?_ | with_reducible refine N.obl rfl ?_ | with_reducible refine N.obl ⟨by kernel_rfl, by kernel_rfl⟩ ?_ | with_reducible refine N.alt ?_ | with_reducible refine N.forkT ?_ | with_reducible refine N.forkF ?_ | refine N.obl (.plain rfl) ?_ | refine N.obl trivial ?_ | exact N.true | fail_if_success skip)
set_option maxRecDepth 100000 in
set_option maxHeartbeats 2000000 in
theorem elder1_x (a b : Ent)  (w : World) : Calls Tryz.prog 84 #[entV a, entV b] w fun e w' => e = .returned (.int .i64 (cmpE a b)) ∧ Below w.heap.size w w' := by
  refine calls_pure (G := tys) w tysOK mixed Tryz.func84 (by rfl) (by first | rfl | (simp only [List.all_cons, List.all_nil, plain_wz, plain_lim, plain_wi]; rfl)) (by first | exact plain3_wz _ | exact plain3_wi _ _ _ | rfl | (simp only [plain3, List.all_cons, List.all_nil, plain_wz, plain_lim, plain_wi]; rfl)) ?_
  repeat' (refine N.go ?_; first | with_reducible refine N.obl (by decide) ?_ | with_reducible refine N.obl (flat_wi _ _ _) ?_ | with_reducible refine N.obl (flat_lim _ _) ?_ | with_reducible refine N.eq ?_ | with_reducible refine N.obl rfl ?_ | with_reducible refine N.obl ⟨by kernel_rfl, by kernel_rfl⟩ ?_ | with_reducible refine N.alt ?_ | with_reducible refine N.forkT ?_ | with_reducible refine N.forkF ?_ | refine N.call (cCmpint64 _ _ _) ?_ | refine N.call (cCmpint _ _ _) ?_ | refine N.call (cOr _ _ _ _ _ (by rfl)) ?_ | fail_if_success skip)
  all_goals rfl
theorem cElder1 (a b : Ent) (h : List (Option Chunk)) : CallOK Tryz.prog 84 [entV a, entV b] h (.int .i64 (cmpE a b)) [] [] := call_pure rfl rfl (Tryz.call84 _) (elder1_x a b)
/-- The first of the first r. -/
def minT (T : Nat → Ent) : Nat → Ent
  | 0 => T 0
  | 1 => T 0
  | r + 2 => if cmpE (T (r + 1)) (minT T (r + 1)) < 0 then T (r + 1) else minT T (r + 1)
theorem minT_step (T : Nat → Ent) (r : Nat) (h : 1 ≤ r) : minT T (r + 1) = if cmpE (T r) (minT T r) < 0 then T r else minT T r := by
  obtain ⟨k, rfl⟩ : ∃ k, r = k + 1 := ⟨r - 1, by omega⟩
  rfl
abbrev elderF : Value := .func (.func 84) ⟨[]⟩ ⟨[]⟩
abbrev oneE (e : Ent) : Chunk := ⟨true, 10, [(0, 10, entV e)]⟩
set_option maxRecDepth 100000 in
set_option maxHeartbeats 2000000 in
theorem cMinT (o : Bool) (cap : Nat) (T : Nat → Ent) (n c i : Nat) (h : List (Option Chunk)) (hi : h[i]? = some (some (enC o cap T))) (hn : 1 ≤ n) (hc : n ≤ cap) (hm : n ≤ 1000) :
    CallOK Tryz.prog 83 [.slice (some ⟨i, 0, some 0⟩) n c, elderF] h (entV (minT T n)) [] [i] := by
  refine call_sub (G := tys) [⟨i, _, enC false cap T, noC⟩] [] [.slice (some ⟨0, 0, some 0⟩) n c, elderF] tysOK mixed Tryz.func83 (by rfl) (Tryz.call83) ⟨hi, trivial⟩ ⟨⟨fun h => (by cases h), Nat.le_refl _, enC_re (fun _ _ => rfl)⟩, trivial⟩ (by simp [Apart]) trivial ⟨.slice rfl, .plain rfl, trivial⟩ ?_
  repeat' (refine N.go ?_; first | with_reducible refine N.obl (by decide) ?_ | with_reducible refine N.obl (flat_wi _ _ _) ?_ | with_reducible refine N.obl (flat_lim _ _) ?_ | with_reducible refine N.eq ?_ | with_reducible refine N.obl rfl ?_ | with_reducible refine N.obl ⟨by kernel_rfl, by kernel_rfl⟩ ?_ | with_reducible refine N.alt ?_ | with_reducible refine N.forkT ?_ | with_reducible refine N.forkF ?_ | refine N.call (cElder1 _ _ _) ?_ | refine N.forkYes (by rw [decide_eq_true_eq]; omega) ?_ | refine N.forkNo (by rw [decide_eq_false_iff_not]; omega) ?_ | fail_if_success skip)
  refine N.go ?_
  refine N.idx 0 1 rfl hn ?_
  refine N.go ?_
  refine N.load _ (rd_en 0 rfl (by omega) rfl) ?_
  repeat' (refine N.go ?_; first | with_reducible refine N.obl (by decide) ?_ | with_reducible refine N.obl (flat_wi _ _ _) ?_ | with_reducible refine N.obl (flat_lim _ _) ?_ | with_reducible refine N.eq ?_ | with_reducible refine N.obl rfl ?_ | with_reducible refine N.obl ⟨by kernel_rfl, by kernel_rfl⟩ ?_ | with_reducible refine N.alt ?_ | with_reducible refine N.forkT ?_ | with_reducible refine N.forkF ?_ | refine N.call (cElder1 _ _ _) ?_ | refine N.forkYes (by rw [decide_eq_true_eq]; omega) ?_ | refine N.forkNo (by rw [decide_eq_false_iff_not]; omega) ?_ | fail_if_success skip)
  refine N.go ?_
  refine N.loop (α := Nat) (fun r => 1 ≤ r ∧ r ≤ n) (fun r => n - r) (fun r => [(6, .int .i64 (r : Int))]) (fun r => [(2, oneE (minT T r))]) 1 ⟨Nat.le_refl _, hn⟩ ?_ ?_
  · repeat' (refine N.go ?_; first | with_reducible refine N.obl (by decide) ?_ | with_reducible refine N.obl (flat_wi _ _ _) ?_ | with_reducible refine N.obl (flat_lim _ _) ?_ | with_reducible refine N.eq ?_ | with_reducible refine N.obl rfl ?_ | with_reducible refine N.obl ⟨by kernel_rfl, by kernel_rfl⟩ ?_ | with_reducible refine N.alt ?_ | with_reducible refine N.forkT ?_ | with_reducible refine N.forkF ?_ | exact N.true | with_reducible refine N.obl (ChunkLe.refl _) ?_ | refine N.obl (ChunkLe.of rfl) ?_ | refine N.obl (int_eq (by rw [i64s _ (by omega) (by omega)]; omega)) ?_ | fail_if_success skip)
  · intro r hr
    obtain ⟨r1, r2⟩ := hr
    by_cases hlt : r < n
    · have hst := minT_step T r r1
      repeat' (refine N.go ?_; first | with_reducible refine N.obl (by decide) ?_ | with_reducible refine N.obl (flat_wi _ _ _) ?_ | with_reducible refine N.obl (flat_lim _ _) ?_ | with_reducible refine N.eq ?_ | with_reducible refine N.obl rfl ?_ | with_reducible refine N.obl ⟨by kernel_rfl, by kernel_rfl⟩ ?_ | with_reducible refine N.alt ?_ | with_reducible refine N.forkT ?_ | with_reducible refine N.forkF ?_ | refine N.call (cElder1 _ _ _) ?_ | refine N.forkYes (by rw [decide_eq_true_eq]; omega) ?_ | refine N.forkNo (by rw [decide_eq_false_iff_not]; omega) ?_ | fail_if_success skip)
      refine N.go ?_
      refine N.idx r 1 rfl hlt ?_
      refine N.go ?_
      refine N.load _ (rd_en r rfl (by omega) (by first | rfl | omega)) ?_
      repeat' (refine N.go ?_; first | with_reducible refine N.obl (by decide) ?_ | with_reducible refine N.obl (flat_wi _ _ _) ?_ | with_reducible refine N.obl (flat_lim _ _) ?_ | with_reducible refine N.eq ?_ | with_reducible refine N.obl rfl ?_ | with_reducible refine N.obl ⟨by kernel_rfl, by kernel_rfl⟩ ?_ | with_reducible refine N.alt ?_ | with_reducible refine N.forkT ?_ | with_reducible refine N.forkF ?_ | refine N.call (cElder1 _ _ _) ?_ | refine N.forkYes (by rw [decide_eq_true_eq]; omega) ?_ | refine N.forkNo (by rw [decide_eq_false_iff_not]; omega) ?_ | fail_if_success skip)
      refine N.go ?_
      refine N.fork (fun hb => ?_) (fun hb => ?_)
      · simp only [decide_eq_true_eq] at hb
        rw [if_pos hb] at hst
        repeat' (refine N.go ?_; first | with_reducible refine N.obl (by decide) ?_ | with_reducible refine N.obl (flat_wi _ _ _) ?_ | with_reducible refine N.obl (flat_lim _ _) ?_ | with_reducible refine N.eq ?_ | with_reducible refine N.obl rfl ?_ | with_reducible refine N.obl ⟨by kernel_rfl, by kernel_rfl⟩ ?_ | with_reducible refine N.alt ?_ | with_reducible refine N.forkT ?_ | with_reducible refine N.forkF ?_ | refine N.call (cElder1 _ _ _) ?_ | refine N.forkYes (by rw [decide_eq_true_eq]; omega) ?_ | refine N.forkNo (by rw [decide_eq_false_iff_not]; omega) ?_ | fail_if_success skip)
        refine N.go ?_
        refine N.idx r 1 rfl hlt ?_
        refine N.go ?_
        refine N.load _ (rd_en r rfl (by omega) (by first | rfl | omega)) ?_
        repeat' (refine N.go ?_; first | with_reducible refine N.obl (by decide) ?_ | with_reducible refine N.obl (flat_wi _ _ _) ?_ | with_reducible refine N.obl (flat_lim _ _) ?_ | with_reducible refine N.eq ?_ | with_reducible refine N.obl rfl ?_ | with_reducible refine N.obl ⟨by kernel_rfl, by kernel_rfl⟩ ?_ | with_reducible refine N.alt ?_ | with_reducible refine N.forkT ?_ | with_reducible refine N.forkF ?_ | refine N.call (cElder1 _ _ _) ?_ | refine N.forkYes (by rw [decide_eq_true_eq]; omega) ?_ | refine N.forkNo (by rw [decide_eq_false_iff_not]; omega) ?_ | fail_if_success skip)
        refine N.go ?_
        refine N.next (r + 1) ⟨⟨by omega, hlt⟩, by omega⟩ ?_
        rw [hst]
        repeat' (refine N.go ?_; first | with_reducible refine N.obl (by decide) ?_ | with_reducible refine N.obl (flat_wi _ _ _) ?_ | with_reducible refine N.obl (flat_lim _ _) ?_ | with_reducible refine N.eq ?_ | with_reducible refine N.obl rfl ?_ | with_reducible refine N.obl ⟨by kernel_rfl, by kernel_rfl⟩ ?_ | with_reducible refine N.alt ?_ | with_reducible refine N.forkT ?_ | with_reducible refine N.forkF ?_ | exact N.true | with_reducible refine N.obl (ChunkLe.refl _) ?_ | refine N.obl (ChunkLe.of rfl) ?_ | refine N.obl (int_eq (by rw [i64s _ (by omega) (by omega)]; omega)) ?_ | fail_if_success skip)
      · simp only [decide_eq_false_iff_not] at hb
        rw [if_neg hb] at hst
        repeat' (refine N.go ?_; first | with_reducible refine N.obl (by decide) ?_ | with_reducible refine N.obl (flat_wi _ _ _) ?_ | with_reducible refine N.obl (flat_lim _ _) ?_ | with_reducible refine N.eq ?_ | with_reducible refine N.obl rfl ?_ | with_reducible refine N.obl ⟨by kernel_rfl, by kernel_rfl⟩ ?_ | with_reducible refine N.alt ?_ | with_reducible refine N.forkT ?_ | with_reducible refine N.forkF ?_ | refine N.call (cElder1 _ _ _) ?_ | refine N.forkYes (by rw [decide_eq_true_eq]; omega) ?_ | refine N.forkNo (by rw [decide_eq_false_iff_not]; omega) ?_ | fail_if_success skip)
        refine N.go ?_
        refine N.next (r + 1) ⟨⟨by omega, hlt⟩, by omega⟩ ?_
        rw [hst]
        repeat' (refine N.go ?_; first | with_reducible refine N.obl (by decide) ?_ | with_reducible refine N.obl (flat_wi _ _ _) ?_ | with_reducible refine N.obl (flat_lim _ _) ?_ | with_reducible refine N.eq ?_ | with_reducible refine N.obl rfl ?_ | with_reducible refine N.obl ⟨by kernel_rfl, by kernel_rfl⟩ ?_ | with_reducible refine N.alt ?_ | with_reducible refine N.forkT ?_ | with_reducible refine N.forkF ?_ | exact N.true | with_reducible refine N.obl (ChunkLe.refl _) ?_ | refine N.obl (ChunkLe.of rfl) ?_ | refine N.obl (int_eq (by rw [i64s _ (by omega) (by omega)]; omega)) ?_ | fail_if_success skip)
    · obtain rfl : r = n := by omega
      repeat' (refine N.go ?_; first | with_reducible refine N.obl (by decide) ?_ | with_reducible refine N.obl (flat_wi _ _ _) ?_ | with_reducible refine N.obl (flat_lim _ _) ?_ | with_reducible refine N.eq ?_ | with_reducible refine N.obl rfl ?_ | with_reducible refine N.obl ⟨by kernel_rfl, by kernel_rfl⟩ ?_ | with_reducible refine N.alt ?_ | with_reducible refine N.forkT ?_ | with_reducible refine N.forkF ?_ | refine N.forkYes (by rw [decide_eq_true_eq]; omega) ?_ | refine N.forkNo (by rw [decide_eq_false_iff_not]; omega) ?_ | refine N.obl (.plain rfl) ?_ | refine N.obl trivial ?_ | exact N.true | fail_if_success skip)
theorem mainG_re {ix : List (Nat × Nat)} {x y : Ext} {o o' : Bool} {most : Int} {i j i' j' : Nat} (hi : ixK ix i' = some i) (hj : ixK ix j' = some j) : ChunkRe ix (mainG x o most i j) (mainG y o' most i' j') := fun l hl => by
  match l, hl with
  | 0, _ => exact .plain rfl
  | 1, _ => exact .map hi
  | 2, _ => exact .map hj
abbrev mainN (most : Int) : Chunk := mainG Ext.none false most 1 2
set_option maxRecDepth 100000 in
set_option maxHeartbeats 2000000 in
theorem cElder (x : Ext) (o : Bool) (most : Int) (E : List (Int × Ent)) (D : List (Int × LifR)) (hE : E.length ≤ 64) (hpos : 0 < E.length) (i i1 i2 : Nat) (h : List (Option Chunk)) (hi : h[i]? = some (some (mainG x o most i1 i2))) (h1 : h[i1]? = some (some (mapC entV E))) (h2 : h[i2]? = some (some (mapC lifV D))) (hii : i ≠ i1 ∧ i ≠ i2 ∧ i1 ≠ i2) :
    CallOK Tryz.prog 48 [.pointer (some ⟨i, 0, some 0⟩)] h (.int .i64 (minT (entT E) E.length).node) [(i1, mapC entV E), (i2, mapC lifV D)] [i] := by
  refine call_res (G := tys) (fun _ : Unit => True) (fun _ => _) [⟨i, _, mainN most, noC⟩, ⟨i1, mapC entV E, mapC entV E, mapC entV E⟩, ⟨i2, mapC lifV D, mapC lifV D, mapC lifV D⟩] [] [.pointer (some ⟨0, 0, some 0⟩)] tysOK mixed Tryz.func48 (by rfl) (Tryz.call48) ⟨hi, h1, h2, trivial⟩
    ⟨⟨fun h => (by cases h), Nat.le_refl _, mainG_re (by rfl) (by rfl)⟩, ⟨fun h => ⟨rfl, Nat.le_refl _⟩, Nat.le_refl _, map_re⟩, ⟨fun h => ⟨rfl, Nat.le_refl _⟩, Nat.le_refl _, map_re⟩, trivial⟩ (by simp [Apart, hii.1, hii.2.1, hii.2.2]) ⟨.inl rfl, .inr ⟨rfl, rfl⟩, .inr ⟨rfl, rfl⟩, trivial⟩ trivial ⟨.ptr rfl, trivial⟩ Opens.same ?_
  rintro ⟨⟩ -
  repeat' (refine N.go ?_; first | with_reducible refine N.obl (by decide) ?_ | with_reducible refine N.obl (flat_wi _ _ _) ?_ | with_reducible refine N.obl (flat_lim _ _) ?_ | with_reducible refine N.eq ?_ | with_reducible refine N.obl rfl ?_ | with_reducible refine N.obl ⟨by kernel_rfl, by kernel_rfl⟩ ?_ | with_reducible refine N.alt ?_ | with_reducible refine N.forkT ?_ | with_reducible refine N.forkF ?_ | fail_if_success skip)
  refine N.go ?_
  refine N.callAll (cAllI Ext.none false most E hE 0 1 2 3 _ (by rfl) (by rfl) (by decide) (by rfl)) fun v ms hR => ?_
  rcases hR with ⟨hE0, _, _⟩ | ⟨cap, _, hcap, rfl, rfl⟩
  · rw [hE0] at hpos; exact absurd hpos (by simp)
  have hmin : ∀ r, r ≤ E.length → 1 ≤ r → minT (fun i => if i < E.length then entT E i else Ent.zero) r = minT (entT E) r := by
    intro r
    induction r with
    | zero => intro _ h0; omega
    | succ r ih =>
      intro hr _
      rcases Nat.eq_zero_or_pos r with rfl | h0
      · show (if 0 < E.length then entT E 0 else Ent.zero) = entT E 0
        rw [if_pos hpos]
      · rw [minT_step _ r h0, minT_step _ r h0, ih (by omega) h0, if_pos (by omega : r < E.length)]
  have hm1 := hmin E.length (Nat.le_refl _) hpos
  repeat' (refine N.go ?_; first | with_reducible refine N.obl (by decide) ?_ | with_reducible refine N.obl (flat_wi _ _ _) ?_ | with_reducible refine N.obl (flat_lim _ _) ?_ | with_reducible refine N.eq ?_ | with_reducible refine N.obl rfl ?_ | with_reducible refine N.obl ⟨by kernel_rfl, by kernel_rfl⟩ ?_ | with_reducible refine N.alt ?_ | with_reducible refine N.forkT ?_ | with_reducible refine N.forkF ?_ | fail_if_success skip)
  refine N.go ?_
  refine N.call (cMinT true cap _ E.length cap 3 _ (by rfl) hpos hcap (by omega)) ?_
  rw [hm1]
  repeat' (refine N.go ?_; first | with_reducible refine N.obl (by decide) ?_ | with_reducible refine N.obl (flat_wi _ _ _) ?_ | with_reducible refine N.obl (flat_lim _ _) ?_ | with_reducible refine N.eq ?_ | with_reducible refine N.obl rfl ?_ | with_reducible refine N.obl ⟨by kernel_rfl, by kernel_rfl⟩ ?_ | with_reducible refine N.alt ?_ | with_reducible refine N.forkT ?_ | with_reducible refine N.forkF ?_ | refine N.endSame ?_ | refine N.obl (.plain rfl) ?_ | refine N.obl ⟨map_post (by rfl), map_post (by rfl), trivial⟩ ?_ | refine N.obl trivial ?_ | refine N.obl ⟨⟨.inl rfl, .inr ⟨_, rfl, rfl⟩, .inr ⟨_, rfl, rfl⟩, trivial⟩, trivial⟩ ?_ | exact N.true | fail_if_success skip)
end Go.Proofs.YtijiggkhnpmaiaaGreat


/-
  The walks of Len, Get, Leave.
-/
set_option linter.unusedVariables false
set_option linter.unusedSimpArgs false
namespace Go.Proofs.YtijiggkhnpmaiaaGreat
open Go Go.RowKit Sx

theorem dGet_put_same {α : Type} (D : List (Int × α)) (k : Int) (a : α) : dGet (dPut D k a) k = some a := by
  unfold dPut
  cases hg : dGet D k with
  | none =>
    simp only
    have : (D ++ [(k, a)]).find? (fun q => decide (q.1 = k)) = some (k, a) := by
      rw [List.find?_append, List.find?_eq_none.2 (by simpa using dGet_none.1 hg)]
      simp
    simp [dGet, this]
  | some b =>
    simp only
    have hm := dGet_some hg
    induction D with
    | nil => cases hm
    | cons q D ih =>
      unfold dGet
      rw [List.map_cons, List.find?_cons]
      by_cases e : q.1 = k
      · simp [e]
      · have h1 : decide ((if q.1 = k then (k, a) else q).1 = k) = false := by rw [if_neg e]; simp [e]
        rw [h1]
        have hg' : dGet D k = some b := by
          unfold dGet at hg
          rw [List.find?_cons] at hg
          simpa [e, dGet] using hg
        exact ih hg' (dGet_some hg')
theorem dGet_put_ne {α : Type} (D : List (Int × α)) {k n : Int} (a : α) (h : n ≠ k) : dGet (dPut D k a) n = dGet D n := by
  unfold dPut
  cases hg : dGet D k with
  | none =>
    simp only
    unfold dGet
    rw [List.find?_append]
    cases D.find? (fun q => decide (q.1 = n)) with
    | none => simp [Ne.symm h]
    | some x => simp
  | some b =>
    simp only
    clear hg
    unfold dGet
    induction D with
    | nil => rfl
    | cons q D ih =>
      rw [List.map_cons, List.find?_cons, List.find?_cons]
      by_cases e : q.1 = k
      · have h1 : decide (q.1 = n) = false := by simp [e, Ne.symm h]
        have h2 : decide ((if q.1 = k then (k, a) else q).1 = n) = false := by rw [if_pos e]; simp [Ne.symm h]
        rw [h1, h2]; exact ih
      · rw [if_neg e]
        cases decide (q.1 = n) with
        | true => rfl
        | false => exact ih
theorem dGet_del_same {α : Type} (D : List (Int × α)) (k : Int) : dGet (dDel D k) k = none := dGet_none.2 fun q hq => by
  have := (List.mem_filter.1 hq).2
  simpa using this
theorem dGet_del_ne {α : Type} (D : List (Int × α)) {k n : Int} (h : n ≠ k) : dGet (dDel D k) n = dGet D n := by
  unfold dGet dDel
  induction D with
  | nil => rfl
  | cons q D ih =>
    by_cases e : q.1 = k
    · rw [List.filter_cons, if_neg (by simp [e]), List.find?_cons]
      have h1 : decide (q.1 = n) = false := by simp [e, Ne.symm h]
      rw [h1]; exact ih
    · rw [List.filter_cons, if_pos (by simp [e]), List.find?_cons, List.find?_cons]
      cases decide (q.1 = n) with
      | true => rfl
      | false => exact ih
/-- A life is put in another's place. -/
def setL (lv : Int → Option Life) (n : Int) (l : Life) (m : Int) : Option Life := if m = n then some l else lv m
/-- What is known of a life is told anew: the same window. -/
theorem livesOK_same {lv : Int → Option Life} {β : LB} (h : livesOK lv β) {n : Int} {r : LifR} {W : Win} (hg : dGet β.D n = some r) (hW : (r.q, W) ∈ β.F) (hl : lv n = some ⟨r.boot, r.left, W⟩) (b : Int) (l : Bool) : livesOK (setL lv n ⟨b, l, W⟩) ⟨dPut β.D n ⟨b, l, r.q⟩, β.F⟩ := by
  obtain ⟨h1, h2, h3⟩ := h
  have key : ∀ m s, dGet (dPut β.D n ⟨b, l, r.q⟩) m = some s → (m = n ∧ s = ⟨b, l, r.q⟩) ∨ (m ≠ n ∧ dGet β.D m = some s) := fun m s hs => by
    by_cases e : m = n
    · subst e; rw [dGet_put_same] at hs; exact .inl ⟨rfl, by simpa using hs.symm⟩
    · rw [dGet_put_ne _ _ e] at hs; exact .inr ⟨e, hs⟩
  refine ⟨fun m hm => ?_, fun m s hs => ?_, fun m m' s s' hs hs' e => ?_⟩
  · by_cases e : m = n
    · subst e; rw [dGet_put_same] at hm; cases hm
    · rw [dGet_put_ne _ _ e] at hm
      unfold setL; rw [if_neg e]; exact h1 m hm
  · rcases key m s hs with ⟨rfl, rfl⟩ | ⟨e, hs⟩
    · exact ⟨W, hW, by unfold setL; rw [if_pos rfl]⟩
    · obtain ⟨W', hW', hl'⟩ := h2 m s hs
      exact ⟨W', hW', by unfold setL; rw [if_neg e]; exact hl'⟩
  · have k1 := key m s hs
    have k2 := key m' s' hs'
    clear hs hs'
    rcases k1 with ⟨rfl, rfl⟩ | ⟨e1, hs⟩ <;> rcases k2 with ⟨rfl, rfl⟩ | ⟨e2, hs'⟩
    · rfl
    · exact h3 _ _ _ _ hg hs' e
    · exact h3 _ _ _ _ hs hg e
    · exact h3 _ _ _ _ hs hs' e
set_option maxRecDepth 100000 in
set_option maxHeartbeats 2000000 in
theorem cGetY (T : Tbl) (n : Int) (e : Ent) (hg : dGet T.E n = some e) (i : Nat) (h : List (Option Chunk)) (hi : h[i]? = some (some (tblC T))) :
    CallOK Tryz.prog 23 [.pointer (some ⟨i, 0, some 0⟩), .int .i64 n] h (.tuple ⟨[entV e, .bool true]⟩) [(i, tblC (T))] [] := by
  refine call_res (G := tys) (livesOK T.lives) (tblH T) [⟨i, tblC T, tblC T, tblC (T)⟩] [] [.pointer (some ⟨0, 0, some 0⟩), .int .i64 n] tysOK mixed Tryz.func23 (by rfl) (Tryz.call23) ⟨hi, trivial⟩ ⟨⟨fun h => ⟨rfl, Nat.le_refl _⟩, Nat.le_refl _, fun j hj => absurd hj (Nat.not_lt_zero j)⟩, trivial⟩ (by simp [Apart]) ⟨.inr ⟨rfl, rfl⟩, trivial⟩ trivial ⟨.ptr rfl, .plain rfl, trivial⟩ pack_opens ?_
  intro β hβ
  repeat' (refine N.go ?_; first | with_reducible refine N.obl (by decide) ?_ | with_reducible refine N.obl (flat_wi _ _ _) ?_ | with_reducible refine N.obl (flat_lim _ _) ?_ | with_reducible refine N.eq ?_ | with_reducible refine N.obl rfl ?_ | with_reducible refine N.obl ⟨by kernel_rfl, by kernel_rfl⟩ ?_ | with_reducible refine N.alt ?_ | with_reducible refine N.forkT ?_ | with_reducible refine N.forkF ?_ | refine N_look entV T.E rfl Tryz.underlying108 Tryz.underlying3 Tryz.type74 rfl (.tuple ⟨[entV e, .bool true]⟩) (by rw [hg]; rfl) rfl ?_ | refine tblClose (T) β 0 1 2 [] tbl_piece (fun i hi => .inl (by simpa using hi)) hβ (by rfl) (by rfl) (by rfl) (by rfl) (by rfl) (by rfl) (by rfl) (by rfl) (by rfl) (by decide) (fun k hk => by cases hk) safe0 (plain_sc rfl) ?_ | refine N.obl (.plain rfl) ?_ | refine N.obl ⟨⟨_, rfl, id, Nat.le_refl _, fun j hj => absurd hj (Nat.not_lt_zero j)⟩, trivial⟩ ?_ | refine N.obl trivial ?_ | refine N.obl ⟨⟨.inr ⟨_, rfl, rfl⟩, trivial⟩, trivial⟩ ?_ | exact N.true | fail_if_success skip)
set_option maxRecDepth 100000 in
set_option maxHeartbeats 2000000 in
theorem cGetN (T : Tbl) (n : Int) (hg : dGet T.E n = none) (i : Nat) (h : List (Option Chunk)) (hi : h[i]? = some (some (tblC T))) :
    CallOK Tryz.prog 23 [.pointer (some ⟨i, 0, some 0⟩), .int .i64 n] h (.tuple ⟨[entV Ent.zero, .bool false]⟩) [(i, tblC (T))] [] := by
  refine call_res (G := tys) (livesOK T.lives) (tblH T) [⟨i, tblC T, tblC T, tblC (T)⟩] [] [.pointer (some ⟨0, 0, some 0⟩), .int .i64 n] tysOK mixed Tryz.func23 (by rfl) (Tryz.call23) ⟨hi, trivial⟩ ⟨⟨fun h => ⟨rfl, Nat.le_refl _⟩, Nat.le_refl _, fun j hj => absurd hj (Nat.not_lt_zero j)⟩, trivial⟩ (by simp [Apart]) ⟨.inr ⟨rfl, rfl⟩, trivial⟩ trivial ⟨.ptr rfl, .plain rfl, trivial⟩ pack_opens ?_
  intro β hβ
  repeat' (refine N.go ?_; first | with_reducible refine N.obl (by decide) ?_ | with_reducible refine N.obl (flat_wi _ _ _) ?_ | with_reducible refine N.obl (flat_lim _ _) ?_ | with_reducible refine N.eq ?_ | with_reducible refine N.obl rfl ?_ | with_reducible refine N.obl ⟨by kernel_rfl, by kernel_rfl⟩ ?_ | with_reducible refine N.alt ?_ | with_reducible refine N.forkT ?_ | with_reducible refine N.forkF ?_ | refine N_look entV T.E rfl Tryz.underlying108 Tryz.underlying3 Tryz.type74 rfl (.tuple ⟨[entV Ent.zero, .bool false]⟩) (by rw [hg]; rfl) rfl ?_ | refine tblClose (T) β 0 1 2 [] tbl_piece (fun i hi => .inl (by simpa using hi)) hβ (by rfl) (by rfl) (by rfl) (by rfl) (by rfl) (by rfl) (by rfl) (by rfl) (by rfl) (by decide) (fun k hk => by cases hk) safe0 (plain_sc rfl) ?_ | refine N.obl (.plain rfl) ?_ | refine N.obl ⟨⟨_, rfl, id, Nat.le_refl _, fun j hj => absurd hj (Nat.not_lt_zero j)⟩, trivial⟩ ?_ | refine N.obl trivial ?_ | refine N.obl ⟨⟨.inr ⟨_, rfl, rfl⟩, trivial⟩, trivial⟩ ?_ | exact N.true | fail_if_success skip)
theorem livesOK_some {lv : Int → Option Life} {β : LB} (h : livesOK lv β) {n : Int} {l : Life} (hl : lv n = some l) : ∃ q, dGet β.D n = some ⟨l.boot, l.left, q⟩ ∧ (q, l.W) ∈ β.F := by
  cases hg : dGet β.D n with
  | none => rw [h.1 n hg] at hl; cases hl
  | some r =>
    obtain ⟨W, h1, h2⟩ := h.2.1 n r hg
    rw [h2] at hl
    obtain rfl : _ = l := by simpa using hl
    exact ⟨r.q, rfl, h1⟩
theorem livesOK_none {lv : Int → Option Life} {β : LB} (h : livesOK lv β) {n : Int} (hl : lv n = none) : dGet β.D n = none := by
  cases hg : dGet β.D n with
  | none => rfl
  | some r =>
    obtain ⟨W, _, h2⟩ := h.2.1 n r hg
    rw [h2] at hl; cases hl
set_option maxRecDepth 100000 in
set_option maxHeartbeats 2000000 in
theorem cLeaveY (T : Tbl) (n : Int) (hn : 0 ≤ n ∧ n < 64) (l : Life) (hl : T.lives n = some l) (i : Nat) (h : List (Option Chunk)) (hi : h[i]? = some (some (tblC T))) :
    CallOK Tryz.prog 52 [.pointer (some ⟨i, 0, some 0⟩), .int .i64 n] h (.bool true) [(i, tblC (⟨T.most, dDel T.E n, setL T.lives n ⟨l.boot, true, l.W⟩⟩))] [] := by
  refine call_res (G := tys) (livesOK T.lives) (tblH T) [⟨i, tblC T, tblC T, tblC (⟨T.most, dDel T.E n, setL T.lives n ⟨l.boot, true, l.W⟩⟩)⟩] [] [.pointer (some ⟨0, 0, some 0⟩), .int .i64 n] tysOK mixed Tryz.func52 (by rfl) (Tryz.call52) ⟨hi, trivial⟩ ⟨⟨fun h => ⟨rfl, Nat.le_refl _⟩, Nat.le_refl _, fun j hj => absurd hj (Nat.not_lt_zero j)⟩, trivial⟩ (by simp [Apart]) ⟨.inr ⟨rfl, rfl⟩, trivial⟩ trivial ⟨.ptr rfl, .plain rfl, trivial⟩ pack_opens ?_
  intro β hβ
  obtain ⟨q, hg, hW⟩ := livesOK_some hβ hl
  have hl2 : livesOK (setL T.lives n ⟨l.boot, true, l.W⟩) ⟨dPut β.D n ⟨l.boot, true, q⟩, β.F⟩ := livesOK_same hβ hg hW hl l.boot true
  repeat' (refine N.go ?_; first | with_reducible refine N.obl (by decide) ?_ | with_reducible refine N.obl (flat_wi _ _ _) ?_ | with_reducible refine N.obl (flat_lim _ _) ?_ | with_reducible refine N.eq ?_ | with_reducible refine N.obl rfl ?_ | with_reducible refine N.obl ⟨by kernel_rfl, by kernel_rfl⟩ ?_ | with_reducible refine N.alt ?_ | with_reducible refine N.forkT ?_ | with_reducible refine N.forkF ?_ | refine N_look lifV β.D rfl Tryz.underlying109 Tryz.underlying3 Tryz.type105 rfl (.tuple ⟨[lifV ⟨l.boot, l.left, q⟩, .bool true]⟩) (by rw [hg]; rfl) rfl ?_ | refine N_put lifV β.D ⟨l.boot, true, q⟩ rfl rfl ⟨by omega, by omega⟩ rfl Tryz.underlying109 Tryz.underlying3 ?_ | refine N_del entV T.E rfl rfl rfl Tryz.underlying108 Tryz.underlying3 ?_ | refine tblClose (⟨T.most, dDel T.E n, setL T.lives n ⟨l.boot, true, l.W⟩⟩) ⟨dPut β.D n ⟨l.boot, true, q⟩, β.F⟩ 0 1 2 [] tbl_piece (fun i hi => .inl (by simpa using hi)) hl2 (by rfl) (by rfl) (by rfl) (by rfl) (by rfl) (by rfl) (by rfl) (by rfl) (by rfl) (by decide) (fun k hk => by cases hk) safe0 (plain_sc rfl) ?_ | refine N.obl (.plain rfl) ?_ | refine N.obl ⟨⟨_, rfl, id, Nat.le_refl _, fun j hj => absurd hj (Nat.not_lt_zero j)⟩, trivial⟩ ?_ | refine N.obl trivial ?_ | refine N.obl ⟨⟨.inr ⟨_, rfl, rfl⟩, trivial⟩, trivial⟩ ?_ | exact N.true | fail_if_success skip)
set_option maxRecDepth 100000 in
set_option maxHeartbeats 2000000 in
theorem cLeaveN (T : Tbl) (n : Int) (hl : T.lives n = none) (i : Nat) (h : List (Option Chunk)) (hi : h[i]? = some (some (tblC T))) :
    CallOK Tryz.prog 52 [.pointer (some ⟨i, 0, some 0⟩), .int .i64 n] h (.bool false) [(i, tblC (T))] [] := by
  refine call_res (G := tys) (livesOK T.lives) (tblH T) [⟨i, tblC T, tblC T, tblC (T)⟩] [] [.pointer (some ⟨0, 0, some 0⟩), .int .i64 n] tysOK mixed Tryz.func52 (by rfl) (Tryz.call52) ⟨hi, trivial⟩ ⟨⟨fun h => ⟨rfl, Nat.le_refl _⟩, Nat.le_refl _, fun j hj => absurd hj (Nat.not_lt_zero j)⟩, trivial⟩ (by simp [Apart]) ⟨.inr ⟨rfl, rfl⟩, trivial⟩ trivial ⟨.ptr rfl, .plain rfl, trivial⟩ pack_opens ?_
  intro β hβ
  have hg := livesOK_none hβ hl
  repeat' (refine N.go ?_; first | with_reducible refine N.obl (by decide) ?_ | with_reducible refine N.obl (flat_wi _ _ _) ?_ | with_reducible refine N.obl (flat_lim _ _) ?_ | with_reducible refine N.eq ?_ | with_reducible refine N.obl rfl ?_ | with_reducible refine N.obl ⟨by kernel_rfl, by kernel_rfl⟩ ?_ | with_reducible refine N.alt ?_ | with_reducible refine N.forkT ?_ | with_reducible refine N.forkF ?_ | refine N_look lifV β.D rfl Tryz.underlying109 Tryz.underlying3 Tryz.type105 rfl (.tuple ⟨[.agg ⟨[.int .i64 0, .bool false, .pointer none]⟩, .bool false]⟩) (by rw [hg]; rfl) rfl ?_ | refine tblClose (T) β 0 1 2 [] tbl_piece (fun i hi => .inl (by simpa using hi)) hβ (by rfl) (by rfl) (by rfl) (by rfl) (by rfl) (by rfl) (by rfl) (by rfl) (by rfl) (by decide) (fun k hk => by cases hk) safe0 (plain_sc rfl) ?_ | refine N.obl (.plain rfl) ?_ | refine N.obl ⟨⟨_, rfl, id, Nat.le_refl _, fun j hj => absurd hj (Nat.not_lt_zero j)⟩, trivial⟩ ?_ | refine N.obl trivial ?_ | refine N.obl ⟨⟨.inr ⟨_, rfl, rfl⟩, trivial⟩, trivial⟩ ?_ | exact N.true | fail_if_success skip)
end Go.Proofs.YtijiggkhnpmaiaaGreat


/-
  The walks of window.New and begin.
-/
set_option linter.unusedVariables false
set_option linter.unusedSimpArgs false
namespace Go.Proofs.YtijiggkhnpmaiaaGreat
open Go Go.RowKit Sx

set_option maxRecDepth 100000 in
set_option maxHeartbeats 2000000 in
theorem cNewWin (K : Nat) (h : List (Option Chunk)) (hK : h[K]? = some none) : CallOK Tryz.prog 80 [] h (.pointer (some ⟨K, 0, some 0⟩)) [(K, winC true Win.zero)] [] := by
  refine call_sub (G := tys) [] [⟨K, 0, winC true Win.zero⟩] [] tysOK mixed Tryz.func80 (by rfl) (Tryz.call80) trivial trivial trivial ⟨⟨hK, rfl, (by show 0 < 3; decide), by simp⟩, trivial⟩ trivial ?_
  repeat' (refine N.go ?_; first | with_reducible refine N.obl (by decide) ?_ | with_reducible refine N.obl (flat_wi _ _ _) ?_ | with_reducible refine N.obl (flat_lim _ _) ?_ | with_reducible refine N.eq ?_ | with_reducible refine N.obl rfl ?_ | with_reducible refine N.obl ⟨by kernel_rfl, by kernel_rfl⟩ ?_ | with_reducible refine N.alt ?_ | with_reducible refine N.forkT ?_ | with_reducible refine N.forkF ?_ | refine N.obl (.one (.ptr rfl)) ?_ | refine N.obl trivial ?_ | refine N.obl ⟨⟨Nat.le_refl _, _, rfl, id, Nat.le_refl _, wn_re⟩, trivial⟩ ?_ | exact N.true | fail_if_success skip)
set_option maxRecDepth 100000 in
set_option maxHeartbeats 2000000 in
theorem cBeginA (x : Ext) (o : Bool) (most : Int) (E : List (Int × Ent)) (D : List (Int × LifR)) (n boot : Int) (r : LifR) (hg : dGet D n = some r) (hb1 : r.boot = boot) (hl : r.left = true) (i i1 i2 : Nat) (h : List (Option Chunk)) (hi : h[i]? = some (some (mainG x o most i1 i2))) (h1 : h[i1]? = some (some (mapC entV E))) (h2 : h[i2]? = some (some (mapC lifV D))) (hii : i ≠ i1 ∧ i ≠ i2 ∧ i1 ≠ i2) :
    CallOK Tryz.prog 46 [.pointer (some ⟨i, 0, some 0⟩), .int .i64 n, .int .i64 boot] h (.tuple ⟨[.agg ⟨[.int .i64 0, .bool false, .pointer none]⟩, .int .i64 9]⟩) [(i1, mapC entV E), (i2, mapC lifV D)] [i] := by
  refine call_res (G := tys) (fun _ : Unit => True) (fun _ => _) [⟨i, _, mainN most, noC⟩, ⟨i1, mapC entV E, mapC entV E, mapC entV E⟩, ⟨i2, mapC lifV D, mapC lifV D, mapC lifV D⟩] [] [.pointer (some ⟨0, 0, some 0⟩), .int .i64 n, .int .i64 boot] tysOK mixed Tryz.func46 (by rfl) (Tryz.call46) ⟨hi, h1, h2, trivial⟩
    ⟨⟨fun h => (by cases h), Nat.le_refl _, mainG_re (by rfl) (by rfl)⟩, ⟨fun h => ⟨rfl, Nat.le_refl _⟩, Nat.le_refl _, map_re⟩, ⟨fun h => ⟨rfl, Nat.le_refl _⟩, Nat.le_refl _, map_re⟩, trivial⟩ (by simp [Apart, hii.1, hii.2.1, hii.2.2]) ⟨.inl rfl, .inr ⟨rfl, rfl⟩, .inr ⟨rfl, rfl⟩, trivial⟩ trivial ⟨.ptr rfl, .plain rfl, .plain rfl, trivial⟩ Opens.same ?_
  rintro ⟨⟩ -
  obtain ⟨rb, rl, rq⟩ := r
  have hb1 : rb = boot := hb1
  have hl : rl = true := hl
  subst hb1 hl
  repeat' (refine N.go ?_; first | with_reducible refine N.obl (by decide) ?_ | with_reducible refine N.obl (flat_wi _ _ _) ?_ | with_reducible refine N.obl (flat_lim _ _) ?_ | with_reducible refine N.eq ?_ | with_reducible refine N.obl rfl ?_ | with_reducible refine N.obl ⟨by kernel_rfl, by kernel_rfl⟩ ?_ | with_reducible refine N.alt ?_ | with_reducible refine N.forkT ?_ | with_reducible refine N.forkF ?_ | refine N_look lifV D rfl Tryz.underlying109 Tryz.underlying3 Tryz.type105 rfl (.tuple ⟨[lifV ⟨rb, true, rq⟩, .bool true]⟩) (by rw [hg]; rfl) rfl ?_ | refine N.forkYes (by simp) ?_ | refine N.forkT ?_ | refine N.forkF ?_ | refine N.endSame ?_ | refine N.obl (.plain rfl) ?_ | refine N.obl ⟨map_post (by rfl), map_post (by rfl), trivial⟩ ?_ | refine N.obl trivial ?_ | refine N.obl ⟨⟨.inl rfl, .inr ⟨_, rfl, rfl⟩, .inr ⟨_, rfl, rfl⟩, trivial⟩, trivial⟩ ?_ | exact N.true | fail_if_success skip)
set_option maxRecDepth 100000 in
set_option maxHeartbeats 2000000 in
theorem cBeginB (x : Ext) (o : Bool) (most : Int) (E : List (Int × Ent)) (D : List (Int × LifR)) (n boot : Int) (r : LifR) (hg : dGet D n = some r) (hb1 : r.boot = boot) (hl : r.left = false) (i i1 i2 : Nat) (h : List (Option Chunk)) (hi : h[i]? = some (some (mainG x o most i1 i2))) (h1 : h[i1]? = some (some (mapC entV E))) (h2 : h[i2]? = some (some (mapC lifV D))) (hii : i ≠ i1 ∧ i ≠ i2 ∧ i1 ≠ i2) :
    CallOK Tryz.prog 46 [.pointer (some ⟨i, 0, some 0⟩), .int .i64 n, .int .i64 boot] h (.tuple ⟨[lifV ⟨boot, false, r.q⟩, .int .i64 0]⟩) [(i1, mapC entV E), (i2, mapC lifV D)] [i] := by
  refine call_res (G := tys) (fun _ : Unit => True) (fun _ => _) [⟨i, _, mainN most, noC⟩, ⟨i1, mapC entV E, mapC entV E, mapC entV E⟩, ⟨i2, mapC lifV D, mapC lifV D, mapC lifV D⟩] [] [.pointer (some ⟨0, 0, some 0⟩), .int .i64 n, .int .i64 boot] tysOK mixed Tryz.func46 (by rfl) (Tryz.call46) ⟨hi, h1, h2, trivial⟩
    ⟨⟨fun h => (by cases h), Nat.le_refl _, mainG_re (by rfl) (by rfl)⟩, ⟨fun h => ⟨rfl, Nat.le_refl _⟩, Nat.le_refl _, map_re⟩, ⟨fun h => ⟨rfl, Nat.le_refl _⟩, Nat.le_refl _, map_re⟩, trivial⟩ (by simp [Apart, hii.1, hii.2.1, hii.2.2]) ⟨.inl rfl, .inr ⟨rfl, rfl⟩, .inr ⟨rfl, rfl⟩, trivial⟩ trivial ⟨.ptr rfl, .plain rfl, .plain rfl, trivial⟩ Opens.same ?_
  rintro ⟨⟩ -
  obtain ⟨rb, rl, rq⟩ := r
  have hb1 : rb = boot := hb1
  have hl : rl = false := hl
  subst hb1 hl
  repeat' (refine N.go ?_; first | with_reducible refine N.obl (by decide) ?_ | with_reducible refine N.obl (flat_wi _ _ _) ?_ | with_reducible refine N.obl (flat_lim _ _) ?_ | with_reducible refine N.eq ?_ | with_reducible refine N.obl rfl ?_ | with_reducible refine N.obl ⟨by kernel_rfl, by kernel_rfl⟩ ?_ | with_reducible refine N.alt ?_ | with_reducible refine N.forkT ?_ | with_reducible refine N.forkF ?_ | refine N_look lifV D rfl Tryz.underlying109 Tryz.underlying3 Tryz.type105 rfl (.tuple ⟨[lifV ⟨rb, false, rq⟩, .bool true]⟩) (by rw [hg]; rfl) rfl ?_ | refine N.forkYes (by simp) ?_ | refine N.forkT ?_ | refine N.forkF ?_ | refine N.endSame ?_ | refine N.obl (.plain rfl) ?_ | refine N.obl ⟨map_post (by rfl), map_post (by rfl), trivial⟩ ?_ | refine N.obl trivial ?_ | refine N.obl ⟨⟨.inl rfl, .inr ⟨_, rfl, rfl⟩, .inr ⟨_, rfl, rfl⟩, trivial⟩, trivial⟩ ?_ | exact N.true | fail_if_success skip)
set_option maxRecDepth 100000 in
set_option maxHeartbeats 2000000 in
theorem cBeginC (x : Ext) (o : Bool) (most : Int) (E : List (Int × Ent)) (D : List (Int × LifR)) (n boot : Int) (r : LifR) (hg : dGet D n = some r) (hb1 : r.boot ≠ boot) (hl : ¬ (0 < serD r.boot boot ∧ serD r.boot boot < 32768)) (i i1 i2 : Nat) (h : List (Option Chunk)) (hi : h[i]? = some (some (mainG x o most i1 i2))) (h1 : h[i1]? = some (some (mapC entV E))) (h2 : h[i2]? = some (some (mapC lifV D))) (hii : i ≠ i1 ∧ i ≠ i2 ∧ i1 ≠ i2) :
    CallOK Tryz.prog 46 [.pointer (some ⟨i, 0, some 0⟩), .int .i64 n, .int .i64 boot] h (.tuple ⟨[.agg ⟨[.int .i64 0, .bool false, .pointer none]⟩, .int .i64 9]⟩) [(i1, mapC entV E), (i2, mapC lifV D)] [i] := by
  refine call_res (G := tys) (fun _ : Unit => True) (fun _ => _) [⟨i, _, mainN most, noC⟩, ⟨i1, mapC entV E, mapC entV E, mapC entV E⟩, ⟨i2, mapC lifV D, mapC lifV D, mapC lifV D⟩] [] [.pointer (some ⟨0, 0, some 0⟩), .int .i64 n, .int .i64 boot] tysOK mixed Tryz.func46 (by rfl) (Tryz.call46) ⟨hi, h1, h2, trivial⟩
    ⟨⟨fun h => (by cases h), Nat.le_refl _, mainG_re (by rfl) (by rfl)⟩, ⟨fun h => ⟨rfl, Nat.le_refl _⟩, Nat.le_refl _, map_re⟩, ⟨fun h => ⟨rfl, Nat.le_refl _⟩, Nat.le_refl _, map_re⟩, trivial⟩ (by simp [Apart, hii.1, hii.2.1, hii.2.2]) ⟨.inl rfl, .inr ⟨rfl, rfl⟩, .inr ⟨rfl, rfl⟩, trivial⟩ trivial ⟨.ptr rfl, .plain rfl, .plain rfl, trivial⟩ Opens.same ?_
  rintro ⟨⟩ -
  repeat' (refine N.go ?_; first | with_reducible refine N.obl (by decide) ?_ | with_reducible refine N.obl (flat_wi _ _ _) ?_ | with_reducible refine N.obl (flat_lim _ _) ?_ | with_reducible refine N.eq ?_ | with_reducible refine N.obl rfl ?_ | with_reducible refine N.obl ⟨by kernel_rfl, by kernel_rfl⟩ ?_ | with_reducible refine N.alt ?_ | with_reducible refine N.forkT ?_ | with_reducible refine N.forkF ?_ | refine N_look lifV D rfl Tryz.underlying109 Tryz.underlying3 Tryz.type105 rfl (.tuple ⟨[lifV r, .bool true]⟩) (by rw [hg]; rfl) rfl ?_ | refine N.call (cSerLess _ _ _) ?_ | refine N.forkNo (by simp only [beq_eq_false_iff_ne]; exact hb1) ?_ | refine N.forkYes (by rw [decide_eq_false hl]; rfl) ?_ | refine N.forkT ?_ | refine N.forkF ?_ | refine N.endSame ?_ | refine N.obl (.plain rfl) ?_ | refine N.obl ⟨map_post (by rfl), map_post (by rfl), trivial⟩ ?_ | refine N.obl trivial ?_ | refine N.obl ⟨⟨.inl rfl, .inr ⟨_, rfl, rfl⟩, .inr ⟨_, rfl, rfl⟩, trivial⟩, trivial⟩ ?_ | exact N.true | fail_if_success skip)
/-- The entries when a life begins: the entry there is, without its track. -/
def begE (E : List (Int × Ent)) (n : Int) : List (Int × Ent) := match dGet E n with
  | some e => dPut E n ⟨n, e.boot, e.heard, false, 0, 0, 0, 0, 0, 0⟩
  | none => E
set_option maxRecDepth 100000 in
set_option maxHeartbeats 2000000 in
theorem cBeginNY (x : Ext) (o : Bool) (most : Int) (E : List (Int × Ent)) (D : List (Int × LifR)) (n boot : Int) (hn : 0 ≤ n ∧ n < 64) (hg : dGet D n = none) (e : Ent) (hE : dGet E n = some e) (i i1 i2 : Nat) (h : List (Option Chunk)) (hi : h[i]? = some (some (mainG x o most i1 i2))) (h1 : h[i1]? = some (some (mapC entV E))) (h2 : h[i2]? = some (some (mapC lifV D))) (hii : i ≠ i1 ∧ i ≠ i2 ∧ i1 ≠ i2) (K : Nat) (hK : h[K]? = some none) (hKi : K ≠ i1 ∧ K ≠ i2) :
    CallAll Tryz.prog 46 [.pointer (some ⟨i, 0, some 0⟩), .int .i64 n, .int .i64 boot] h (fun v ms => ∃ q : Nat × Nat, v = .tuple ⟨[lifV ⟨boot, false, q⟩, .int .i64 0]⟩ ∧ ms = [(i1, mapC entV (begE E n)), (i2, mapC lifV D), (K, winX (atX q) Win.zero)]) := by
  refine callAll_mono (call_resall (G := tys) (fun _ : Unit => True) (fun _ => _) (α := Nat × Nat) (fun _ => True) (fun q => .tuple ⟨[lifV ⟨boot, false, q⟩, .int .i64 0]⟩) [⟨i, _, mainN most, noC⟩, ⟨i1, mapC entV E, mapC entV E, mapC entV E⟩, ⟨i2, mapC lifV D, mapC lifV D, mapC lifV D⟩] (fun _ => [noC, mapC entV (begE E n), mapC lifV D]) (fun q => [⟨K, 6, winX (atX q) Win.zero⟩]) [.pointer (some ⟨0, 0, some 0⟩), .int .i64 n, .int .i64 boot] tysOK mixed Tryz.func46 (by rfl) (Tryz.call46) ⟨hi, h1, h2, trivial⟩
    ⟨⟨fun h => (by cases h), Nat.le_refl _, mainG_re (by rfl) (by rfl)⟩, ⟨fun h => ⟨rfl, Nat.le_refl _⟩, Nat.le_refl _, map_re⟩, ⟨fun h => ⟨rfl, Nat.le_refl _⟩, Nat.le_refl _, map_re⟩, trivial⟩ (fun _ _ => ⟨⟨fun h => (by cases h), Nat.le_refl _, mainG_re (by rfl) (by rfl)⟩, ⟨fun h => ⟨rfl, Nat.le_refl _⟩, Nat.le_refl _, map_re⟩, ⟨fun h => ⟨rfl, Nat.le_refl _⟩, Nat.le_refl _, map_re⟩, trivial⟩) (by simp [Apart, hii.1, hii.2.1, hii.2.2]) ⟨.inl rfl, .inr ⟨rfl, rfl⟩, .inr ⟨rfl, rfl⟩, trivial⟩ (fun q _ => ⟨⟨hK, rfl, .inl (by show 0 < 3; decide), by simp⟩, trivial⟩) ⟨.ptr rfl, .plain rfl, .plain rfl, trivial⟩ Opens.same ?_) ?_
  rotate_left
  · intro v ms hR
    obtain ⟨q, _, rfl, rfl⟩ := hR
    exact ⟨q, rfl, rfl⟩
  rintro ⟨⟩ -
  have hbe : begE E n = dPut E n ⟨n, e.boot, e.heard, false, 0, 0, 0, 0, 0, 0⟩ := by unfold begE; rw [hE]
  rw [hbe]
  repeat' (refine N.go ?_; first | with_reducible refine N.obl (by decide) ?_ | with_reducible refine N.obl (flat_wi _ _ _) ?_ | with_reducible refine N.obl (flat_lim _ _) ?_ | with_reducible refine N.eq ?_ | with_reducible refine N.obl rfl ?_ | with_reducible refine N.obl ⟨by kernel_rfl, by kernel_rfl⟩ ?_ | with_reducible refine N.alt ?_ | with_reducible refine N.forkT ?_ | with_reducible refine N.forkF ?_ | refine N_look lifV D rfl Tryz.underlying109 Tryz.underlying3 Tryz.type105 rfl (.tuple ⟨[.agg ⟨[.int .i64 0, .bool false, .pointer none]⟩, .bool false]⟩) (by rw [hg]; rfl) rfl ?_ | refine N_look entV E rfl Tryz.underlying108 Tryz.underlying3 Tryz.type74 rfl (.tuple ⟨[entV e, .bool true]⟩) (by rw [hE]; rfl) rfl ?_ | refine N_put entV E ⟨n, e.boot, e.heard, false, 0, 0, 0, 0, 0, 0⟩ rfl rfl ⟨by omega, by omega⟩ rfl Tryz.underlying108 Tryz.underlying3 ?_ | refine N.call (cNewWin 6 _ (by rfl)) ?_ | refine N.call (cSerLess _ _ _) ?_ | refine N.forkNo (by simp only [beq_eq_false_iff_ne]; exact hb1) ?_ | refine N.forkNo (by rw [decide_eq_true hl]; rfl) ?_ | refine N.forkT ?_ | refine N.forkF ?_ | fail_if_success skip)
  refine N.go ?_
  refine N_endMark (k := 6) (fun q => .tuple ⟨[lifV ⟨boot, false, q⟩, .int .i64 0]⟩) (by rfl) (fun q ρ hρ => by simp [den, den2, den1, den0, denA, realP, hρ]) fun q => ?_
  refine N.endSame ?_
  refine N.some q ⟨trivial, ?_⟩
  refine N.obl (.plain rfl) ?_
  refine N.obl ⟨map_post (by rfl), map_post (by rfl), trivial⟩ ?_
  refine N.obl ⟨⟨Nat.le_of_ble_eq_true rfl, _, rfl, id, Nat.le_refl _, wx_re⟩, trivial⟩ ?_
  refine N.obl ⟨⟨.inl rfl, .inr ⟨_, rfl, rfl⟩, .inr ⟨_, rfl, rfl⟩, trivial⟩, .inr ⟨_, rfl, rfl⟩, trivial⟩ ?_
  exact N.true
set_option maxRecDepth 100000 in
set_option maxHeartbeats 2000000 in
theorem cBeginNN (x : Ext) (o : Bool) (most : Int) (E : List (Int × Ent)) (D : List (Int × LifR)) (n boot : Int) (hn : 0 ≤ n ∧ n < 64) (hg : dGet D n = none) (hE : dGet E n = none) (i i1 i2 : Nat) (h : List (Option Chunk)) (hi : h[i]? = some (some (mainG x o most i1 i2))) (h1 : h[i1]? = some (some (mapC entV E))) (h2 : h[i2]? = some (some (mapC lifV D))) (hii : i ≠ i1 ∧ i ≠ i2 ∧ i1 ≠ i2) (K : Nat) (hK : h[K]? = some none) (hKi : K ≠ i1 ∧ K ≠ i2) :
    CallAll Tryz.prog 46 [.pointer (some ⟨i, 0, some 0⟩), .int .i64 n, .int .i64 boot] h (fun v ms => ∃ q : Nat × Nat, v = .tuple ⟨[lifV ⟨boot, false, q⟩, .int .i64 0]⟩ ∧ ms = [(i1, mapC entV (begE E n)), (i2, mapC lifV D), (K, winX (atX q) Win.zero)]) := by
  refine callAll_mono (call_resall (G := tys) (fun _ : Unit => True) (fun _ => _) (α := Nat × Nat) (fun _ => True) (fun q => .tuple ⟨[lifV ⟨boot, false, q⟩, .int .i64 0]⟩) [⟨i, _, mainN most, noC⟩, ⟨i1, mapC entV E, mapC entV E, mapC entV E⟩, ⟨i2, mapC lifV D, mapC lifV D, mapC lifV D⟩] (fun _ => [noC, mapC entV (begE E n), mapC lifV D]) (fun q => [⟨K, 6, winX (atX q) Win.zero⟩]) [.pointer (some ⟨0, 0, some 0⟩), .int .i64 n, .int .i64 boot] tysOK mixed Tryz.func46 (by rfl) (Tryz.call46) ⟨hi, h1, h2, trivial⟩
    ⟨⟨fun h => (by cases h), Nat.le_refl _, mainG_re (by rfl) (by rfl)⟩, ⟨fun h => ⟨rfl, Nat.le_refl _⟩, Nat.le_refl _, map_re⟩, ⟨fun h => ⟨rfl, Nat.le_refl _⟩, Nat.le_refl _, map_re⟩, trivial⟩ (fun _ _ => ⟨⟨fun h => (by cases h), Nat.le_refl _, mainG_re (by rfl) (by rfl)⟩, ⟨fun h => ⟨rfl, Nat.le_refl _⟩, Nat.le_refl _, map_re⟩, ⟨fun h => ⟨rfl, Nat.le_refl _⟩, Nat.le_refl _, map_re⟩, trivial⟩) (by simp [Apart, hii.1, hii.2.1, hii.2.2]) ⟨.inl rfl, .inr ⟨rfl, rfl⟩, .inr ⟨rfl, rfl⟩, trivial⟩ (fun q _ => ⟨⟨hK, rfl, .inl (by show 0 < 3; decide), by simp⟩, trivial⟩) ⟨.ptr rfl, .plain rfl, .plain rfl, trivial⟩ Opens.same ?_) ?_
  rotate_left
  · intro v ms hR
    obtain ⟨q, _, rfl, rfl⟩ := hR
    exact ⟨q, rfl, rfl⟩
  rintro ⟨⟩ -
  have hbe : begE E n = E := by unfold begE; rw [hE]
  rw [hbe]
  repeat' (refine N.go ?_; first | with_reducible refine N.obl (by decide) ?_ | with_reducible refine N.obl (flat_wi _ _ _) ?_ | with_reducible refine N.obl (flat_lim _ _) ?_ | with_reducible refine N.eq ?_ | with_reducible refine N.obl rfl ?_ | with_reducible refine N.obl ⟨by kernel_rfl, by kernel_rfl⟩ ?_ | with_reducible refine N.alt ?_ | with_reducible refine N.forkT ?_ | with_reducible refine N.forkF ?_ | refine N_look lifV D rfl Tryz.underlying109 Tryz.underlying3 Tryz.type105 rfl (.tuple ⟨[.agg ⟨[.int .i64 0, .bool false, .pointer none]⟩, .bool false]⟩) (by rw [hg]; rfl) rfl ?_ | refine N_look entV E rfl Tryz.underlying108 Tryz.underlying3 Tryz.type74 rfl (.tuple ⟨[entV Ent.zero, .bool false]⟩) (by rw [hE]; rfl) rfl ?_ | refine N_put entV E ⟨n, e.boot, e.heard, false, 0, 0, 0, 0, 0, 0⟩ rfl rfl ⟨by omega, by omega⟩ rfl Tryz.underlying108 Tryz.underlying3 ?_ | refine N.call (cNewWin 6 _ (by rfl)) ?_ | refine N.call (cSerLess _ _ _) ?_ | refine N.forkNo (by simp only [beq_eq_false_iff_ne]; exact hb1) ?_ | refine N.forkNo (by rw [decide_eq_true hl]; rfl) ?_ | refine N.forkT ?_ | refine N.forkF ?_ | fail_if_success skip)
  refine N.go ?_
  refine N_endMark (k := 6) (fun q => .tuple ⟨[lifV ⟨boot, false, q⟩, .int .i64 0]⟩) (by rfl) (fun q ρ hρ => by simp [den, den2, den1, den0, denA, realP, hρ]) fun q => ?_
  refine N.endSame ?_
  refine N.some q ⟨trivial, ?_⟩
  refine N.obl (.plain rfl) ?_
  refine N.obl ⟨map_post (by rfl), map_post (by rfl), trivial⟩ ?_
  refine N.obl ⟨⟨Nat.le_of_ble_eq_true rfl, _, rfl, id, Nat.le_refl _, wx_re⟩, trivial⟩ ?_
  refine N.obl ⟨⟨.inl rfl, .inr ⟨_, rfl, rfl⟩, .inr ⟨_, rfl, rfl⟩, trivial⟩, .inr ⟨_, rfl, rfl⟩, trivial⟩ ?_
  exact N.true
set_option maxRecDepth 100000 in
set_option maxHeartbeats 2000000 in
theorem cBeginOY (x : Ext) (o : Bool) (most : Int) (E : List (Int × Ent)) (D : List (Int × LifR)) (n boot : Int) (hn : 0 ≤ n ∧ n < 64) (r : LifR) (hg : dGet D n = some r) (hb1 : r.boot ≠ boot) (hl : 0 < serD r.boot boot ∧ serD r.boot boot < 32768) (e : Ent) (hE : dGet E n = some e) (i i1 i2 : Nat) (h : List (Option Chunk)) (hi : h[i]? = some (some (mainG x o most i1 i2))) (h1 : h[i1]? = some (some (mapC entV E))) (h2 : h[i2]? = some (some (mapC lifV D))) (hii : i ≠ i1 ∧ i ≠ i2 ∧ i1 ≠ i2) (K : Nat) (hK : h[K]? = some none) (hKi : K ≠ i1 ∧ K ≠ i2) :
    CallAll Tryz.prog 46 [.pointer (some ⟨i, 0, some 0⟩), .int .i64 n, .int .i64 boot] h (fun v ms => ∃ q : Nat × Nat, v = .tuple ⟨[lifV ⟨boot, false, q⟩, .int .i64 0]⟩ ∧ ms = [(i1, mapC entV (begE E n)), (i2, mapC lifV D), (K, winX (atX q) Win.zero)]) := by
  refine callAll_mono (call_resall (G := tys) (fun _ : Unit => True) (fun _ => _) (α := Nat × Nat) (fun _ => True) (fun q => .tuple ⟨[lifV ⟨boot, false, q⟩, .int .i64 0]⟩) [⟨i, _, mainN most, noC⟩, ⟨i1, mapC entV E, mapC entV E, mapC entV E⟩, ⟨i2, mapC lifV D, mapC lifV D, mapC lifV D⟩] (fun _ => [noC, mapC entV (begE E n), mapC lifV D]) (fun q => [⟨K, 6, winX (atX q) Win.zero⟩]) [.pointer (some ⟨0, 0, some 0⟩), .int .i64 n, .int .i64 boot] tysOK mixed Tryz.func46 (by rfl) (Tryz.call46) ⟨hi, h1, h2, trivial⟩
    ⟨⟨fun h => (by cases h), Nat.le_refl _, mainG_re (by rfl) (by rfl)⟩, ⟨fun h => ⟨rfl, Nat.le_refl _⟩, Nat.le_refl _, map_re⟩, ⟨fun h => ⟨rfl, Nat.le_refl _⟩, Nat.le_refl _, map_re⟩, trivial⟩ (fun _ _ => ⟨⟨fun h => (by cases h), Nat.le_refl _, mainG_re (by rfl) (by rfl)⟩, ⟨fun h => ⟨rfl, Nat.le_refl _⟩, Nat.le_refl _, map_re⟩, ⟨fun h => ⟨rfl, Nat.le_refl _⟩, Nat.le_refl _, map_re⟩, trivial⟩) (by simp [Apart, hii.1, hii.2.1, hii.2.2]) ⟨.inl rfl, .inr ⟨rfl, rfl⟩, .inr ⟨rfl, rfl⟩, trivial⟩ (fun q _ => ⟨⟨hK, rfl, .inl (by show 0 < 3; decide), by simp⟩, trivial⟩) ⟨.ptr rfl, .plain rfl, .plain rfl, trivial⟩ Opens.same ?_) ?_
  rotate_left
  · intro v ms hR
    obtain ⟨q, _, rfl, rfl⟩ := hR
    exact ⟨q, rfl, rfl⟩
  rintro ⟨⟩ -
  have hbe : begE E n = dPut E n ⟨n, e.boot, e.heard, false, 0, 0, 0, 0, 0, 0⟩ := by unfold begE; rw [hE]
  rw [hbe]
  repeat' (refine N.go ?_; first | with_reducible refine N.obl (by decide) ?_ | with_reducible refine N.obl (flat_wi _ _ _) ?_ | with_reducible refine N.obl (flat_lim _ _) ?_ | with_reducible refine N.eq ?_ | with_reducible refine N.obl rfl ?_ | with_reducible refine N.obl ⟨by kernel_rfl, by kernel_rfl⟩ ?_ | with_reducible refine N.alt ?_ | with_reducible refine N.forkT ?_ | with_reducible refine N.forkF ?_ | refine N_look lifV D rfl Tryz.underlying109 Tryz.underlying3 Tryz.type105 rfl (.tuple ⟨[lifV r, .bool true]⟩) (by rw [hg]; rfl) rfl ?_ | refine N_look entV E rfl Tryz.underlying108 Tryz.underlying3 Tryz.type74 rfl (.tuple ⟨[entV e, .bool true]⟩) (by rw [hE]; rfl) rfl ?_ | refine N_put entV E ⟨n, e.boot, e.heard, false, 0, 0, 0, 0, 0, 0⟩ rfl rfl ⟨by omega, by omega⟩ rfl Tryz.underlying108 Tryz.underlying3 ?_ | refine N.call (cNewWin 6 _ (by rfl)) ?_ | refine N.call (cSerLess _ _ _) ?_ | refine N.forkNo (by simp only [beq_eq_false_iff_ne]; exact hb1) ?_ | refine N.forkNo (by rw [decide_eq_true hl]; rfl) ?_ | refine N.forkT ?_ | refine N.forkF ?_ | fail_if_success skip)
  refine N.go ?_
  refine N_endMark (k := 6) (fun q => .tuple ⟨[lifV ⟨boot, false, q⟩, .int .i64 0]⟩) (by rfl) (fun q ρ hρ => by simp [den, den2, den1, den0, denA, realP, hρ]) fun q => ?_
  refine N.endSame ?_
  refine N.some q ⟨trivial, ?_⟩
  refine N.obl (.plain rfl) ?_
  refine N.obl ⟨map_post (by rfl), map_post (by rfl), trivial⟩ ?_
  refine N.obl ⟨⟨Nat.le_of_ble_eq_true rfl, _, rfl, id, Nat.le_refl _, wx_re⟩, trivial⟩ ?_
  refine N.obl ⟨⟨.inl rfl, .inr ⟨_, rfl, rfl⟩, .inr ⟨_, rfl, rfl⟩, trivial⟩, .inr ⟨_, rfl, rfl⟩, trivial⟩ ?_
  exact N.true
set_option maxRecDepth 100000 in
set_option maxHeartbeats 2000000 in
theorem cBeginON (x : Ext) (o : Bool) (most : Int) (E : List (Int × Ent)) (D : List (Int × LifR)) (n boot : Int) (hn : 0 ≤ n ∧ n < 64) (r : LifR) (hg : dGet D n = some r) (hb1 : r.boot ≠ boot) (hl : 0 < serD r.boot boot ∧ serD r.boot boot < 32768) (hE : dGet E n = none) (i i1 i2 : Nat) (h : List (Option Chunk)) (hi : h[i]? = some (some (mainG x o most i1 i2))) (h1 : h[i1]? = some (some (mapC entV E))) (h2 : h[i2]? = some (some (mapC lifV D))) (hii : i ≠ i1 ∧ i ≠ i2 ∧ i1 ≠ i2) (K : Nat) (hK : h[K]? = some none) (hKi : K ≠ i1 ∧ K ≠ i2) :
    CallAll Tryz.prog 46 [.pointer (some ⟨i, 0, some 0⟩), .int .i64 n, .int .i64 boot] h (fun v ms => ∃ q : Nat × Nat, v = .tuple ⟨[lifV ⟨boot, false, q⟩, .int .i64 0]⟩ ∧ ms = [(i1, mapC entV (begE E n)), (i2, mapC lifV D), (K, winX (atX q) Win.zero)]) := by
  refine callAll_mono (call_resall (G := tys) (fun _ : Unit => True) (fun _ => _) (α := Nat × Nat) (fun _ => True) (fun q => .tuple ⟨[lifV ⟨boot, false, q⟩, .int .i64 0]⟩) [⟨i, _, mainN most, noC⟩, ⟨i1, mapC entV E, mapC entV E, mapC entV E⟩, ⟨i2, mapC lifV D, mapC lifV D, mapC lifV D⟩] (fun _ => [noC, mapC entV (begE E n), mapC lifV D]) (fun q => [⟨K, 6, winX (atX q) Win.zero⟩]) [.pointer (some ⟨0, 0, some 0⟩), .int .i64 n, .int .i64 boot] tysOK mixed Tryz.func46 (by rfl) (Tryz.call46) ⟨hi, h1, h2, trivial⟩
    ⟨⟨fun h => (by cases h), Nat.le_refl _, mainG_re (by rfl) (by rfl)⟩, ⟨fun h => ⟨rfl, Nat.le_refl _⟩, Nat.le_refl _, map_re⟩, ⟨fun h => ⟨rfl, Nat.le_refl _⟩, Nat.le_refl _, map_re⟩, trivial⟩ (fun _ _ => ⟨⟨fun h => (by cases h), Nat.le_refl _, mainG_re (by rfl) (by rfl)⟩, ⟨fun h => ⟨rfl, Nat.le_refl _⟩, Nat.le_refl _, map_re⟩, ⟨fun h => ⟨rfl, Nat.le_refl _⟩, Nat.le_refl _, map_re⟩, trivial⟩) (by simp [Apart, hii.1, hii.2.1, hii.2.2]) ⟨.inl rfl, .inr ⟨rfl, rfl⟩, .inr ⟨rfl, rfl⟩, trivial⟩ (fun q _ => ⟨⟨hK, rfl, .inl (by show 0 < 3; decide), by simp⟩, trivial⟩) ⟨.ptr rfl, .plain rfl, .plain rfl, trivial⟩ Opens.same ?_) ?_
  rotate_left
  · intro v ms hR
    obtain ⟨q, _, rfl, rfl⟩ := hR
    exact ⟨q, rfl, rfl⟩
  rintro ⟨⟩ -
  have hbe : begE E n = E := by unfold begE; rw [hE]
  rw [hbe]
  repeat' (refine N.go ?_; first | with_reducible refine N.obl (by decide) ?_ | with_reducible refine N.obl (flat_wi _ _ _) ?_ | with_reducible refine N.obl (flat_lim _ _) ?_ | with_reducible refine N.eq ?_ | with_reducible refine N.obl rfl ?_ | with_reducible refine N.obl ⟨by kernel_rfl, by kernel_rfl⟩ ?_ | with_reducible refine N.alt ?_ | with_reducible refine N.forkT ?_ | with_reducible refine N.forkF ?_ | refine N_look lifV D rfl Tryz.underlying109 Tryz.underlying3 Tryz.type105 rfl (.tuple ⟨[lifV r, .bool true]⟩) (by rw [hg]; rfl) rfl ?_ | refine N_look entV E rfl Tryz.underlying108 Tryz.underlying3 Tryz.type74 rfl (.tuple ⟨[entV Ent.zero, .bool false]⟩) (by rw [hE]; rfl) rfl ?_ | refine N_put entV E ⟨n, e.boot, e.heard, false, 0, 0, 0, 0, 0, 0⟩ rfl rfl ⟨by omega, by omega⟩ rfl Tryz.underlying108 Tryz.underlying3 ?_ | refine N.call (cNewWin 6 _ (by rfl)) ?_ | refine N.call (cSerLess _ _ _) ?_ | refine N.forkNo (by simp only [beq_eq_false_iff_ne]; exact hb1) ?_ | refine N.forkNo (by rw [decide_eq_true hl]; rfl) ?_ | refine N.forkT ?_ | refine N.forkF ?_ | fail_if_success skip)
  refine N.go ?_
  refine N_endMark (k := 6) (fun q => .tuple ⟨[lifV ⟨boot, false, q⟩, .int .i64 0]⟩) (by rfl) (fun q ρ hρ => by simp [den, den2, den1, den0, denA, realP, hρ]) fun q => ?_
  refine N.endSame ?_
  refine N.some q ⟨trivial, ?_⟩
  refine N.obl (.plain rfl) ?_
  refine N.obl ⟨map_post (by rfl), map_post (by rfl), trivial⟩ ?_
  refine N.obl ⟨⟨Nat.le_of_ble_eq_true rfl, _, rfl, id, Nat.le_refl _, wx_re⟩, trivial⟩ ?_
  refine N.obl ⟨⟨.inl rfl, .inr ⟨_, rfl, rfl⟩, .inr ⟨_, rfl, rfl⟩, trivial⟩, .inr ⟨_, rfl, rfl⟩, trivial⟩ ?_
  exact N.true
end Go.Proofs.YtijiggkhnpmaiaaGreat


/-
  The walk of Hear.
-/
set_option linter.unusedVariables false
set_option linter.unusedSimpArgs false
namespace Go.Proofs.YtijiggkhnpmaiaaGreat
open Go Go.RowKit Sx

theorem win_f {x : Ext} {W : Win} : ∀ j, j < 3 → (winX x W).f j = winF W j := fun j hj => by
  match j, hj with
  | 0, _ => rfl
  | 1, _ => rfl
  | 2, _ => rfl
theorem win_plain (W : Win) : ∀ j, j < 3 → plain1 (winF W j) = true := fun j hj => by
  match j, hj with
  | 0, _ => rfl
  | 1, _ => rfl
  | 2, _ => rfl
/-- A table is opened, and the window of a life is taken out. -/
theorem tblOpenW {i : Nat} {c d : Chunk} (T : Tbl) (n : Int) (l : Life) (hl : T.lives n = some l) : Opens [⟨i, c, tblC T, d⟩] (fun κ : LB × (Nat × Nat) => dGet κ.1.D n = some ⟨l.boot, l.left, κ.2⟩ ∧ livesOK T.lives ⟨κ.1.D, (κ.2, l.W) :: κ.1.F⟩)
    (fun κ => [some (mainC κ.1.F T.most), some (mapC entV T.E), some (mapC lifV κ.1.D), some (winX (atX κ.2) l.W)]) := fun X ρ w Ti H => by
  obtain ⟨β, hβ, ρ1, hag, hfil, H1⟩ := pack_opens (h := tblH T) X ρ w Ti H
  obtain ⟨q, hg, hW⟩ := livesOK_some hβ hl
  obtain ⟨s, t, hF⟩ := List.append_of_mem hW
  have hp : β.F.Perm ((q, l.W) :: (s ++ t)) := by rw [hF]; exact List.perm_middle
  have hsame : SameH (tblH T β) [some (mainC β.F T.most), some (mapC entV T.E), some (mapC lifV β.D), none] := fun k e => by
    match k with
    | 0 => exact Iff.rfl
    | 1 => exact Iff.rfl
    | 2 => exact Iff.rfl
    | 3 => simp
    | k + 4 => simp
  have H2 := H1.same hsame
  obtain ⟨ρ2, hag2, H3⟩ := H2.famOut (o := true) (i := 0) (k := 3) (e := winX (atX q) l.W) (by decide) rfl rfl (Ti.mayX H2 (k := 0) rfl (tblC_ne T) packX_selfish) hp rfl rfl win_f (win_plain l.W)
  refine ⟨(⟨β.D, s ++ t⟩, q), ⟨hg, ?_⟩, ρ2, fun k hk => ?_, fun k hk => ?_, H3⟩
  · refine ⟨hβ.1, fun m r hr => ?_, hβ.2.2⟩
    obtain ⟨W, h1, h2⟩ := hβ.2.1 m r hr
    exact ⟨W, hp.mem_iff.1 h1, h2⟩
  · have hf := hfil k hk
    rw [hag2 k ((hsame.fil k).2 hf)]; exact hag k hk
  · obtain ⟨e, he⟩ := hk
    have : k = 0 := by
      cases k with
      | zero => rfl
      | succ k => simp [partH] at he
    subst this
    exact ⟨_, rfl⟩
/-- The entries when somebody was heard: who is not there yet may take the eldest's place. -/
def heardE (most : Int) (E : List (Int × Ent)) (n boot now : Int) : List (Int × Ent) :=
  dPut (if dGet E n = none ∧ most ≤ E.length then dDel E (minT (entT E) E.length).node else E) n { (dGet E n).getD Ent.zero with node := n, boot := boot, heard := now }
def argsOK (n boot seq now : Int) : Prop := (0 ≤ n ∧ n < 64) ∧ serOK boot ∧ serOK seq ∧ (0 ≤ now ∧ now ≤ 1000000)
set_option maxRecDepth 100000 in
set_option maxHeartbeats 2000000 in
theorem cHearArg (T : Tbl) (n boot seq now : Int) (ha : ¬ argsOK n boot seq now) (i : Nat) (h : List (Option Chunk)) (hi : h[i]? = some (some (tblC T))) :
    CallOK Tryz.prog 18 [.pointer (some ⟨i, 0, some 0⟩), .int .i64 n, .int .i64 boot, .int .i64 seq, .int .i64 now] h (.int .i64 1) [(i, tblC (T))] [] := by
  refine call_res (G := tys) (livesOK T.lives) (tblH T) [⟨i, tblC T, tblC T, tblC (T)⟩] [] [.pointer (some ⟨0, 0, some 0⟩), .int .i64 n, .int .i64 boot, .int .i64 seq, .int .i64 now] tysOK mixed Tryz.func18 (by rfl) (Tryz.call18) ⟨hi, trivial⟩ ⟨⟨fun h => ⟨rfl, Nat.le_refl _⟩, Nat.le_refl _, fun j hj => absurd hj (Nat.not_lt_zero j)⟩, trivial⟩ (by simp [Apart]) ⟨.inr ⟨rfl, rfl⟩, trivial⟩ trivial ⟨.ptr rfl, .plain rfl, .plain rfl, .plain rfl, .plain rfl, trivial⟩ pack_opens ?_
  intro β hβ
  repeat' (refine N.go ?_; first | with_reducible refine N.obl (by decide) ?_ | with_reducible refine N.obl (flat_wi _ _ _) ?_ | with_reducible refine N.obl (flat_lim _ _) ?_ | with_reducible refine N.eq ?_ | with_reducible refine N.obl rfl ?_ | with_reducible refine N.obl ⟨by kernel_rfl, by kernel_rfl⟩ ?_ | with_reducible refine N.alt ?_ | with_reducible refine N.forkT ?_ | with_reducible refine N.forkF ?_ | refine N.call (cTnode _ _) ?_ | refine N.call (cSerMay _ _) ?_ | refine N.call (cTtime _ _) ?_ | with_reducible refine N.fork (fun hb => ?_) (fun hb => ?_) | refine tblClose (T) β 0 1 2 [] tbl_piece (fun i hi => .inl (by simpa using hi)) hβ (by rfl) (by rfl) (by rfl) (by rfl) (by rfl) (by rfl) (by rfl) (by rfl) (by rfl) (by decide) (fun k hk => by cases hk) safe0 (plain_sc rfl) ?_ | refine N.obl (.plain rfl) ?_ | refine N.obl ⟨⟨_, rfl, id, Nat.le_refl _, fun j hj => absurd hj (Nat.not_lt_zero j)⟩, trivial⟩ ?_ | refine N.obl trivial ?_ | refine N.obl ⟨⟨.inr ⟨_, rfl, rfl⟩, trivial⟩, trivial⟩ ?_ | exact N.true | fail_if_success skip)
  all_goals
    exfalso
    simp only [Bool.not_eq_eq_eq_not, Bool.not_true, Bool.not_false, decide_eq_true_eq, decide_eq_false_iff_not, argsOK, serOK] at *
    omega
set_option maxRecDepth 100000 in
set_option maxHeartbeats 2000000 in
theorem cHearA (T : Tbl) (n boot seq now : Int) (ha : argsOK n boot seq now) (l : Life) (hl : T.lives n = some l) (hb1 : l.boot = boot) (hlf : l.left = true) (i : Nat) (h : List (Option Chunk)) (hi : h[i]? = some (some (tblC T))) :
    CallOK Tryz.prog 18 [.pointer (some ⟨i, 0, some 0⟩), .int .i64 n, .int .i64 boot, .int .i64 seq, .int .i64 now] h (.int .i64 9) [(i, tblC (T))] [] := by
  refine call_res (G := tys) (livesOK T.lives) (tblH T) [⟨i, tblC T, tblC T, tblC (T)⟩] [] [.pointer (some ⟨0, 0, some 0⟩), .int .i64 n, .int .i64 boot, .int .i64 seq, .int .i64 now] tysOK mixed Tryz.func18 (by rfl) (Tryz.call18) ⟨hi, trivial⟩ ⟨⟨fun h => ⟨rfl, Nat.le_refl _⟩, Nat.le_refl _, fun j hj => absurd hj (Nat.not_lt_zero j)⟩, trivial⟩ (by simp [Apart]) ⟨.inr ⟨rfl, rfl⟩, trivial⟩ trivial ⟨.ptr rfl, .plain rfl, .plain rfl, .plain rfl, .plain rfl, trivial⟩ pack_opens ?_
  intro β hβ
  obtain ⟨q, hg, hW⟩ := livesOK_some hβ hl
  repeat' (refine N.go ?_; first | with_reducible refine N.obl (by decide) ?_ | with_reducible refine N.obl (flat_wi _ _ _) ?_ | with_reducible refine N.obl (flat_lim _ _) ?_ | with_reducible refine N.eq ?_ | with_reducible refine N.obl rfl ?_ | with_reducible refine N.obl ⟨by kernel_rfl, by kernel_rfl⟩ ?_ | with_reducible refine N.alt ?_ | with_reducible refine N.forkT ?_ | with_reducible refine N.forkF ?_ | refine N.call (cTnode _ _) ?_ | refine N.call (cSerMay _ _) ?_ | refine N.call (cTtime _ _) ?_ | refine N.forkNo (by rw [decide_eq_true ha.1]; rfl) ?_ | refine N.forkNo (by rw [decide_eq_true ha.2.1]; rfl) ?_ | refine N.forkNo (by rw [decide_eq_true ha.2.2.1]; rfl) ?_ | refine N.forkNo (by rw [decide_eq_true ha.2.2.2]; rfl) ?_ | refine N.call (cBeginA _ _ _ _ _ _ _ ⟨l.boot, l.left, q⟩ hg hb1 hlf 0 1 2 _ (by rfl) (by rfl) (by rfl) (by decide)) ?_ | refine N.forkT ?_ | refine N.forkF ?_ | refine N.forkYes (by decide) ?_ | refine N.forkNo (by decide) ?_ | refine tblClose (T) β 0 1 2 [] tbl_piece (fun i hi => .inl (by simpa using hi)) hβ (by rfl) (by rfl) (by rfl) (by rfl) (by rfl) (by rfl) (by rfl) (by rfl) (by rfl) (by decide) (fun k hk => by cases hk) safe0 (plain_sc rfl) ?_ | refine N.obl (.plain rfl) ?_ | refine N.obl ⟨⟨_, rfl, id, Nat.le_refl _, fun j hj => absurd hj (Nat.not_lt_zero j)⟩, trivial⟩ ?_ | refine N.obl trivial ?_ | refine N.obl ⟨⟨.inr ⟨_, rfl, rfl⟩, trivial⟩, trivial⟩ ?_ | exact N.true | fail_if_success skip)
set_option maxRecDepth 100000 in
set_option maxHeartbeats 2000000 in
theorem cHearC (T : Tbl) (n boot seq now : Int) (ha : argsOK n boot seq now) (l : Life) (hl : T.lives n = some l) (hb1 : l.boot ≠ boot) (hlf : ¬ (0 < serD l.boot boot ∧ serD l.boot boot < 32768)) (i : Nat) (h : List (Option Chunk)) (hi : h[i]? = some (some (tblC T))) :
    CallOK Tryz.prog 18 [.pointer (some ⟨i, 0, some 0⟩), .int .i64 n, .int .i64 boot, .int .i64 seq, .int .i64 now] h (.int .i64 9) [(i, tblC (T))] [] := by
  refine call_res (G := tys) (livesOK T.lives) (tblH T) [⟨i, tblC T, tblC T, tblC (T)⟩] [] [.pointer (some ⟨0, 0, some 0⟩), .int .i64 n, .int .i64 boot, .int .i64 seq, .int .i64 now] tysOK mixed Tryz.func18 (by rfl) (Tryz.call18) ⟨hi, trivial⟩ ⟨⟨fun h => ⟨rfl, Nat.le_refl _⟩, Nat.le_refl _, fun j hj => absurd hj (Nat.not_lt_zero j)⟩, trivial⟩ (by simp [Apart]) ⟨.inr ⟨rfl, rfl⟩, trivial⟩ trivial ⟨.ptr rfl, .plain rfl, .plain rfl, .plain rfl, .plain rfl, trivial⟩ pack_opens ?_
  intro β hβ
  obtain ⟨q, hg, hW⟩ := livesOK_some hβ hl
  repeat' (refine N.go ?_; first | with_reducible refine N.obl (by decide) ?_ | with_reducible refine N.obl (flat_wi _ _ _) ?_ | with_reducible refine N.obl (flat_lim _ _) ?_ | with_reducible refine N.eq ?_ | with_reducible refine N.obl rfl ?_ | with_reducible refine N.obl ⟨by kernel_rfl, by kernel_rfl⟩ ?_ | with_reducible refine N.alt ?_ | with_reducible refine N.forkT ?_ | with_reducible refine N.forkF ?_ | refine N.call (cTnode _ _) ?_ | refine N.call (cSerMay _ _) ?_ | refine N.call (cTtime _ _) ?_ | refine N.forkNo (by rw [decide_eq_true ha.1]; rfl) ?_ | refine N.forkNo (by rw [decide_eq_true ha.2.1]; rfl) ?_ | refine N.forkNo (by rw [decide_eq_true ha.2.2.1]; rfl) ?_ | refine N.forkNo (by rw [decide_eq_true ha.2.2.2]; rfl) ?_ | refine N.call (cBeginC _ _ _ _ _ _ _ ⟨l.boot, l.left, q⟩ hg hb1 hlf 0 1 2 _ (by rfl) (by rfl) (by rfl) (by decide)) ?_ | refine N.forkT ?_ | refine N.forkF ?_ | refine N.forkYes (by decide) ?_ | refine N.forkNo (by decide) ?_ | refine tblClose (T) β 0 1 2 [] tbl_piece (fun i hi => .inl (by simpa using hi)) hβ (by rfl) (by rfl) (by rfl) (by rfl) (by rfl) (by rfl) (by rfl) (by rfl) (by rfl) (by decide) (fun k hk => by cases hk) safe0 (plain_sc rfl) ?_ | refine N.obl (.plain rfl) ?_ | refine N.obl ⟨⟨_, rfl, id, Nat.le_refl _, fun j hj => absurd hj (Nat.not_lt_zero j)⟩, trivial⟩ ?_ | refine N.obl trivial ?_ | refine N.obl ⟨⟨.inr ⟨_, rfl, rfl⟩, trivial⟩, trivial⟩ ?_ | exact N.true | fail_if_success skip)
theorem HOK.sub {X : Ctx} {ρ : Nat → Nat × Nat} {h h' : List (Option Chunk)} {w : World} (H : HOK X ρ h w) (hb : ∀ i, i < X.n0 → Fil h' i) (hs : ∀ (i : Nat) (c : Chunk), h'[i]? = some (some c) → h[i]? = some (some c) ∧ ∀ j, j < c.n → Safe1 h' (c.f j)) : HOK X ρ h' w := by
  refine ⟨H.evo, fun i hi => ⟨hb i hi, (H.base i hi).2⟩, fun i c hi => H.lt i c (hs i c hi).1, fun i c hi j hj => ?_, fun i c hi => H.own i c (hs i c hi).1, fun i c j d hi ho hj => H.sep i c j d (hs i c hi).1 ho (hs j d hj).1, ?_⟩
  · obtain ⟨x, hx, hd⟩ := H.cell i c (hs i c hi).1 j hj
    exact ⟨x, hx, fun r hr => ((hs i c hi).2 j hj).inScope ρ r hr |>.trans hd.self⟩
  · obtain ⟨S, E⟩ := H.ext
    exact E.less fun i c hi => ⟨rfl, c, (hs i c hi).1, Nat.le_refl _, .inr rfl⟩
/-- What lies behind the first m stretches is let go of. -/
theorem N_endTake {ss : List Piece} {h : List (Option Chunk)} {v : Value} {K : Value → List (Option Chunk) → Prop} (m : Nat) (hm : ss.length ≤ m) (hv : plain3 v = true) (hs : ∀ (i : Nat) (c : Chunk), (h.take m)[i]? = some (some c) → ∀ j, j < c.n → Safe1 (h.take m) (c.f j)) (kk : N (EndN ss (h.take m) v K)) : N (EndN ss h v K) :=
  N.mk fun X ρ w x T H hd => by
    have get : ∀ (i : Nat) (c : Chunk), (h.take m)[i]? = some (some c) → h[i]? = some (some c) := fun i c hi => by
      rw [List.getElem?_take] at hi
      split at hi
      · exact hi
      · cases hi
    refine N.out kk X ρ w x T (HOK.sub H (fun i hi => ?_) fun i c hi => ⟨get i c hi, hs i c hi⟩) (fun r _ => by rw [den_plain3 hv, ← hd.self, den_plain3 hv])
    obtain ⟨c, hc⟩ := (H.base i hi).1
    exact ⟨c, by rw [List.getElem?_take, if_pos (by have := T.n0; omega)]; exact hc⟩
theorem safe4 {F : List ((Nat × Nat) × Win)} {most : Int} {E : List (Int × Ent)} {D : List (Int × LifR)} {q : Nat × Nat} {W : Win} : ∀ (i : Nat) (c : Chunk), ([some (mainC F most), some (mapC entV E), some (mapC lifV D), some (winX (atX q) W)] : List (Option Chunk))[i]? = some (some c) → ∀ j, j < c.n → Safe1 [some (mainC F most), some (mapC entV E), some (mapC lifV D), some (winX (atX q) W)] (c.f j) := fun i c hi j hj => by
  match i, hi with
  | 0, hi =>
    obtain rfl : _ = c := by simpa using hi
    match j, hj with
    | 0, _ => exact True.intro
    | 1, _ => exact rfl
    | 2, _ => exact rfl
  | 1, hi => obtain rfl : _ = c := by simpa using hi
             exact absurd hj (Nat.not_lt_zero j)
  | 2, hi => obtain rfl : _ = c := by simpa using hi
             exact absurd hj (Nat.not_lt_zero j)
  | 3, hi =>
    obtain rfl : _ = c := by simpa using hi
    match j, hj with
    | 0, _ => exact True.intro
    | 1, _ => exact True.intro
    | 2, _ => exact True.intro
  | k + 4, hi => simp at hi
theorem setL_self {lv : Int → Option Life} {n : Int} {l : Life} (h : lv n = some l) : setL lv n l = lv := by
  funext m
  unfold setL
  by_cases e : m = n
  · rw [if_pos e, e, h]
  · rw [if_neg e]
/-- The lives when a life's window turned. -/
theorem livesOK_win {lv : Int → Option Life} {D : List (Int × LifR)} {F : List ((Nat × Nat) × Win)} {n b : Int} {lf : Bool} {q : Nat × Nat} {W : Win} (h : livesOK lv ⟨D, (q, W) :: F⟩) (hg : dGet D n = some ⟨b, lf, q⟩) (hq : ∀ x ∈ F, x.1 ≠ q) (W' : Win) : livesOK (setL lv n ⟨b, lf, W'⟩) ⟨dPut D n ⟨b, lf, q⟩, (q, W') :: F⟩ := by
  obtain ⟨h1, h2, h3⟩ := h
  have key : ∀ m s, dGet (dPut D n ⟨b, lf, q⟩) m = some s → dGet D m = some s := fun m s hs => by
    by_cases e : m = n
    · subst e; rw [dGet_put_same] at hs; rw [hg, ← hs]
    · rw [dGet_put_ne _ _ e] at hs; exact hs
  refine ⟨fun m hm => ?_, fun m s hs => ?_, fun m m' s s' hs hs' e => h3 m m' s s' (key m s hs) (key m' s' hs') e⟩
  · by_cases e : m = n
    · subst e; rw [dGet_put_same] at hm; cases hm
    · rw [dGet_put_ne _ _ e] at hm
      unfold setL; rw [if_neg e]; exact h1 m hm
  · have hs2 := key m s hs
    by_cases e : m = n
    · subst e
      rw [hg] at hs2
      obtain rfl : _ = s := by simpa using hs2
      exact ⟨W', by simp, by unfold setL; rw [if_pos rfl]⟩
    · obtain ⟨W2, hW2, hl2⟩ := h2 m s hs2
      refine ⟨W2, ?_, by unfold setL; rw [if_neg e]; exact hl2⟩
      rcases List.mem_cons.1 hW2 with e2 | hW2
      · exact absurd (h3 m n s ⟨b, lf, q⟩ hs2 hg (Prod.mk.inj e2).1) e
      · exact List.mem_cons_of_mem _ hW2
theorem sc4 {F : List ((Nat × Nat) × Win)} {most : Int} {E : List (Int × Ent)} {D : List (Int × LifR)} {q : Nat × Nat} {W : Win} : ∀ (l : Nat) (d : Chunk), l ≠ 3 → ([some (mainC F most), some (mapC entV E), some (mapC lifV D), some (winX (atX q) W)] : List (Option Chunk))[l]? = some (some d) → ∀ j, j < d.n → ∀ ρ ρ' : Nat → Nat × Nat, (∀ l, l ≠ 3 → ρ' l = ρ l) → den1 ρ' (d.f j) = den1 ρ (d.f j) := fun l d hl hd j hj ρ ρ' ha => by
  match l, hd with
  | 0, hd =>
    obtain rfl : _ = d := by simpa using hd
    match j, hj with
    | 0, _ => rfl
    | 1, _ => have := ha 1 (by decide); show den1 ρ' (.map (some 1)) = den1 ρ (.map (some 1)); simp [den1, den0, this]
    | 2, _ => have := ha 2 (by decide); show den1 ρ' (.map (some 2)) = den1 ρ (.map (some 2)); simp [den1, den0, this]
  | 1, hd => obtain rfl : _ = d := by simpa using hd
             exact absurd hj (Nat.not_lt_zero j)
  | 2, hd => obtain rfl : _ = d := by simpa using hd
             exact absurd hj (Nat.not_lt_zero j)
  | 3, _ => exact absurd rfl hl
  | k + 4, hd => simp at hd
/-- The end of Hear: the table is closed, the window laid back. -/
theorem hearClose {i : Nat} {c d : Chunk} {T : Tbl} {h : List (Option Chunk)} {v : Value} {K : Value → List (Option Chunk) → Prop} (T2 : Tbl) (D : List (Int × LifR)) (F : List ((Nat × Nat) × Win)) (q : Nat × Nat) (W : Win) (hv : plain3 v = true) (ht : h.take 4 = [some (mainC F T2.most), some (mapC entV T2.E), some (mapC lifV D), some (winX (atX q) W)]) (hok : (∀ x ∈ F, x.1 ≠ q) → livesOK T2.lives ⟨D, (q, W) :: F⟩)
    (kk : K v (closeH (tblC T2) 0 [] [some (mainC ((q, W) :: F) T2.most), some (mapC entV T2.E), some (mapC lifV D), none] 0)) : N (EndN [⟨i, c, tblC T, d⟩] h v K) := by
  refine N_endTake 4 (Nat.le_of_ble_eq_true rfl) hv ?_ ?_
  · rw [ht]; exact safe4
  rw [ht]
  refine N_endFamIn (i := 0) (k := 3) (q := q) W (by decide) (by decide) rfl rfl (by decide) (Nat.le_of_ble_eq_true rfl) (fun _ => ⟨_, rfl, tblC_ne T, packX_selfish⟩) rfl rfl (Nat.le_refl _) win_f (win_plain W) sc4 hv fun hq => ?_
  refine tblClose T2 ⟨D, (q, W) :: F⟩ 0 1 2 [] (fun l _ hl => by
    obtain rfl : l = 0 := by simpa using hl
    exact ⟨_, rfl, tblC_ne T, packX_selfish⟩) (fun i hi => .inl (by simpa using hi)) (hok hq) rfl rfl rfl rfl rfl rfl rfl rfl rfl (by decide) (fun k hk => by cases hk) safe0 (plain_sc hv) kk
theorem main_sc {F : List ((Nat × Nat) × Win)} {most : Int} {k : Nat} (hk : k ≠ 1 ∧ k ≠ 2) : ∀ j, j < 3 → ∀ ρ ρ' : Nat → Nat × Nat, (∀ l, l ≠ k → ρ' l = ρ l) → den1 ρ' ((mainC F most).f j) = den1 ρ ((mainC F most).f j) := fun j hj ρ ρ' ha => by
  match j, hj with
  | 0, _ => rfl
  | 1, _ => have := ha 1 (Ne.symm hk.1); show den1 ρ' (.map (some 1)) = den1 ρ (.map (some 1)); simp [den1, den0, this]
  | 2, _ => have := ha 2 (Ne.symm hk.2); show den1 ρ' (.map (some 2)) = den1 ρ (.map (some 2)); simp [den1, den0, this]
set_option maxRecDepth 100000 in
set_option maxHeartbeats 2000000 in
theorem cHearDup (T : Tbl) (n boot seq now : Int) (ha : argsOK n boot seq now) (l : Life) (hl : T.lives n = some l) (hb1 : l.boot = boot) (hlf : l.left = false) (hs : l.W.seen < 18446744073709551616) (W' : Win) (hw : whear l.W seq = (9, W')) (i : Nat) (h : List (Option Chunk)) (hi : h[i]? = some (some (tblC T))) :
    CallOK Tryz.prog 18 [.pointer (some ⟨i, 0, some 0⟩), .int .i64 n, .int .i64 boot, .int .i64 seq, .int .i64 now] h (.int .i64 9) [(i, tblC (⟨T.most, T.E, setL T.lives n ⟨boot, false, W'⟩⟩))] [] := by
  refine call_res (G := tys) (fun κ : LB × (Nat × Nat) => dGet κ.1.D n = some ⟨l.boot, l.left, κ.2⟩ ∧ livesOK T.lives ⟨κ.1.D, (κ.2, l.W) :: κ.1.F⟩) (fun κ => [some (mainC κ.1.F T.most), some (mapC entV T.E), some (mapC lifV κ.1.D), some (winX (atX κ.2) l.W)]) [⟨i, tblC T, tblC T, tblC (⟨T.most, T.E, setL T.lives n ⟨boot, false, W'⟩⟩)⟩] [] [.pointer (some ⟨0, 0, some 0⟩), .int .i64 n, .int .i64 boot, .int .i64 seq, .int .i64 now] tysOK mixed Tryz.func18 (by rfl) (Tryz.call18) ⟨hi, trivial⟩ ⟨⟨fun h => ⟨rfl, Nat.le_refl _⟩, Nat.le_refl _, fun j hj => absurd hj (Nat.not_lt_zero j)⟩, trivial⟩ (by simp [Apart]) ⟨.inr ⟨rfl, rfl⟩, trivial⟩ trivial ⟨.ptr rfl, .plain rfl, .plain rfl, .plain rfl, .plain rfl, trivial⟩ (tblOpenW T n l hl) ?_
  rintro ⟨⟨D, F⟩, q⟩ ⟨hg, hβ⟩
  have hg : dGet D n = some ⟨l.boot, l.left, q⟩ := hg
  have hg2 : dGet D n = some ⟨boot, false, q⟩ := by rw [hg, hb1, hlf]
  have hn := ha.1
  repeat' (refine N.go ?_; first | with_reducible refine N.obl (by decide) ?_ | with_reducible refine N.obl (flat_wi _ _ _) ?_ | with_reducible refine N.obl (flat_lim _ _) ?_ | with_reducible refine N.eq ?_ | with_reducible refine N.obl rfl ?_ | with_reducible refine N.obl ⟨by kernel_rfl, by kernel_rfl⟩ ?_ | with_reducible refine N.alt ?_ | with_reducible refine N.forkT ?_ | with_reducible refine N.forkF ?_ | refine N.call (cTnode _ _) ?_ | refine N.call (cSerMay _ _) ?_ | refine N.call (cTtime _ _) ?_ | refine N.forkNo (by rw [decide_eq_true ha.1]; rfl) ?_ | refine N.forkNo (by rw [decide_eq_true ha.2.1]; rfl) ?_ | refine N.forkNo (by rw [decide_eq_true ha.2.2.1]; rfl) ?_ | refine N.forkNo (by rw [decide_eq_true ha.2.2.2]; rfl) ?_ | refine N.call (cBeginB _ _ _ _ _ _ _ ⟨l.boot, l.left, q⟩ hg hb1 hlf 0 1 2 _ (by rfl) (by rfl) (by rfl) (by decide)) ?_ | refine N_put lifV D ⟨boot, false, q⟩ rfl rfl ⟨by omega, by omega⟩ rfl Tryz.underlying109 Tryz.underlying3 ?_ | refine N.call (call_at [.pointer (some ⟨3, 0, some 0⟩), .int .i64 seq] (by rfl) rfl ⟨.ptr, .same _, trivial⟩ (.inr ⟨_, .head _⟩) (cWHear (atX q) l.W W' seq 9 3 hs ha.2.2.1 hw _ (by rfl))) ?_ | refine N.forkT ?_ | refine N.forkF ?_ | refine N.forkYes (by decide) ?_ | refine N.forkNo (by decide) ?_ | fail_if_success skip)
  refine N.go ?_
  refine hearClose ⟨T.most, T.E, setL T.lives n ⟨boot, false, W'⟩⟩ _ F q W' rfl (by rfl) (fun hq => livesOK_win hβ hg2 hq W') ?_
  repeat' (refine N.go ?_; first | with_reducible refine N.obl (by decide) ?_ | with_reducible refine N.obl (flat_wi _ _ _) ?_ | with_reducible refine N.obl (flat_lim _ _) ?_ | with_reducible refine N.eq ?_ | with_reducible refine N.obl rfl ?_ | with_reducible refine N.obl ⟨by kernel_rfl, by kernel_rfl⟩ ?_ | with_reducible refine N.alt ?_ | with_reducible refine N.forkT ?_ | with_reducible refine N.forkF ?_ | refine N.obl (.plain rfl) ?_ | refine N.obl ⟨⟨_, rfl, id, Nat.le_refl _, fun j hj => absurd hj (Nat.not_lt_zero j)⟩, trivial⟩ ?_ | refine N.obl trivial ?_ | refine N.obl ⟨⟨.inr ⟨_, rfl, rfl⟩, trivial⟩, trivial⟩ ?_ | exact N.true | fail_if_success skip)
/-- The lives when a new one begins. -/
theorem livesOK_new {lv : Int → Option Life} {D : List (Int × LifR)} {F : List ((Nat × Nat) × Win)} {n b : Int} {lf : Bool} {q : Nat × Nat} (h : livesOK lv ⟨D, F⟩) (hq : ∀ x ∈ F, x.1 ≠ q) (W' : Win) : livesOK (setL lv n ⟨b, lf, W'⟩) ⟨dPut D n ⟨b, lf, q⟩, (q, W') :: F⟩ := by
  obtain ⟨h1, h2, h3⟩ := h
  have key : ∀ m s, dGet (dPut D n ⟨b, lf, q⟩) m = some s → (m = n ∧ s = ⟨b, lf, q⟩) ∨ (m ≠ n ∧ dGet D m = some s) := fun m s hs => by
    by_cases e : m = n
    · subst e; rw [dGet_put_same] at hs; exact .inl ⟨rfl, by simpa using hs.symm⟩
    · rw [dGet_put_ne _ _ e] at hs; exact .inr ⟨e, hs⟩
  have noq : ∀ m s, dGet D m = some s → s.q ≠ q := fun m s hs e => by
    obtain ⟨W, hW, _⟩ := h2 m s hs
    exact hq _ hW e
  refine ⟨fun m hm => ?_, fun m s hs => ?_, fun m m' s s' hs hs' e => ?_⟩
  · by_cases e : m = n
    · subst e; rw [dGet_put_same] at hm; cases hm
    · rw [dGet_put_ne _ _ e] at hm
      unfold setL; rw [if_neg e]; exact h1 m hm
  · rcases key m s hs with ⟨rfl, rfl⟩ | ⟨e, hs⟩
    · exact ⟨W', by simp, by unfold setL; rw [if_pos rfl]⟩
    · obtain ⟨W2, hW2, hl2⟩ := h2 m s hs
      exact ⟨W2, List.mem_cons_of_mem _ hW2, by unfold setL; rw [if_neg e]; exact hl2⟩
  · have k1 := key m s hs
    have k2 := key m' s' hs'
    clear hs hs'
    rcases k1 with ⟨rfl, rfl⟩ | ⟨e1, hs⟩ <;> rcases k2 with ⟨rfl, rfl⟩ | ⟨e2, hs'⟩
    · rfl
    · exact absurd e.symm (noq _ _ hs')
    · exact absurd e (noq _ _ hs)
    · exact h3 _ _ _ _ hs hs' e
set_option maxRecDepth 100000 in
set_option maxHeartbeats 2000000 in
theorem cHearKthere (T : Tbl) (n boot seq now : Int) (ha : argsOK n boot seq now) (l : Life) (hl : T.lives n = some l) (hb1 : l.boot = boot) (hlf : l.left = false) (hs : l.W.seen < 18446744073709551616) (W' : Win) (hw : whear l.W seq = (0, W')) (e0 : Ent) (hth : dGet (T.E) n = some e0) (E' : List (Int × Ent)) (hE' : E' = dPut (T.E) n ⟨n, boot, now, e0.has, e0.x, e0.y, e0.a, e0.b, e0.d, e0.when_⟩) (i : Nat) (h : List (Option Chunk)) (hi : h[i]? = some (some (tblC T))) :
    CallOK Tryz.prog 18 [.pointer (some ⟨i, 0, some 0⟩), .int .i64 n, .int .i64 boot, .int .i64 seq, .int .i64 now] h (.int .i64 0) [(i, tblC (⟨T.most, E', setL T.lives n ⟨boot, false, W'⟩⟩))] [] := by
  refine call_res (G := tys) (fun κ : LB × (Nat × Nat) => dGet κ.1.D n = some ⟨l.boot, l.left, κ.2⟩ ∧ livesOK T.lives ⟨κ.1.D, (κ.2, l.W) :: κ.1.F⟩) (fun κ => [some (mainC κ.1.F T.most), some (mapC entV T.E), some (mapC lifV κ.1.D), some (winX (atX κ.2) l.W)]) [⟨i, tblC T, tblC T, tblC (⟨T.most, E', setL T.lives n ⟨boot, false, W'⟩⟩)⟩] [] [.pointer (some ⟨0, 0, some 0⟩), .int .i64 n, .int .i64 boot, .int .i64 seq, .int .i64 now] tysOK mixed Tryz.func18 (by rfl) (Tryz.call18) ⟨hi, trivial⟩ ⟨⟨fun h => ⟨rfl, Nat.le_refl _⟩, Nat.le_refl _, fun j hj => absurd hj (Nat.not_lt_zero j)⟩, trivial⟩ (by simp [Apart]) ⟨.inr ⟨rfl, rfl⟩, trivial⟩ trivial ⟨.ptr rfl, .plain rfl, .plain rfl, .plain rfl, .plain rfl, trivial⟩ (tblOpenW T n l hl) ?_
  rintro ⟨⟨D, F⟩, q⟩ ⟨hg, hβ⟩
  have hg : dGet D n = some ⟨l.boot, l.left, q⟩ := hg
  have hg2 : dGet D n = some ⟨boot, false, q⟩ := by rw [hg, hb1, hlf]
  have hn := ha.1
  subst hE'
  repeat' (refine N.go ?_; first | with_reducible refine N.obl (by decide) ?_ | with_reducible refine N.obl (flat_wi _ _ _) ?_ | with_reducible refine N.obl (flat_lim _ _) ?_ | with_reducible refine N.eq ?_ | with_reducible refine N.obl rfl ?_ | with_reducible refine N.obl ⟨by kernel_rfl, by kernel_rfl⟩ ?_ | with_reducible refine N.alt ?_ | with_reducible refine N.forkT ?_ | with_reducible refine N.forkF ?_ | refine N.call (cTnode _ _) ?_ | refine N.call (cSerMay _ _) ?_ | refine N.call (cTtime _ _) ?_ | refine N.forkNo (by rw [decide_eq_true ha.1]; rfl) ?_ | refine N.forkNo (by rw [decide_eq_true ha.2.1]; rfl) ?_ | refine N.forkNo (by rw [decide_eq_true ha.2.2.1]; rfl) ?_ | refine N.forkNo (by rw [decide_eq_true ha.2.2.2]; rfl) ?_ | refine N.call (cBeginB _ _ _ _ _ _ _ ⟨l.boot, l.left, q⟩ hg hb1 hlf 0 1 2 _ (by rfl) (by rfl) (by rfl) (by decide)) ?_ | refine N_put lifV D ⟨boot, false, q⟩ rfl rfl ⟨by omega, by omega⟩ rfl Tryz.underlying109 Tryz.underlying3 ?_ | refine N.call (call_at [.pointer (some ⟨3, 0, some 0⟩), .int .i64 seq] (by rfl) rfl ⟨.ptr, .same _, trivial⟩ (.inr ⟨_, .head _⟩) (cWHear (atX q) l.W W' seq 0 3 hs ha.2.2.1 hw _ (by rfl))) ?_ | refine N_look entV (T.E) rfl Tryz.underlying108 Tryz.underlying3 Tryz.type74 rfl (.tuple ⟨[entV e0, .bool true]⟩) (by rw [hth]; rfl) rfl ?_ | refine N_lenM entV (T.E) rfl rfl Tryz.underlying108 ?_ | refine N_put entV (T.E) ⟨n, boot, now, e0.has, e0.x, e0.y, e0.a, e0.b, e0.d, e0.when_⟩ rfl rfl ⟨by omega, by omega⟩ rfl Tryz.underlying108 Tryz.underlying3 ?_ | refine N.forkT ?_ | refine N.forkF ?_ | refine N.forkYes (by decide) ?_ | refine N.forkNo (by decide) ?_ | fail_if_success skip)
  refine N.go ?_
  refine hearClose ⟨T.most, _, setL T.lives n ⟨boot, false, W'⟩⟩ _ F q W' rfl (by rfl) (fun hq => livesOK_win hβ hg2 hq W') ?_
  repeat' (refine N.go ?_; first | with_reducible refine N.obl (by decide) ?_ | with_reducible refine N.obl (flat_wi _ _ _) ?_ | with_reducible refine N.obl (flat_lim _ _) ?_ | with_reducible refine N.eq ?_ | with_reducible refine N.obl rfl ?_ | with_reducible refine N.obl ⟨by kernel_rfl, by kernel_rfl⟩ ?_ | with_reducible refine N.alt ?_ | with_reducible refine N.forkT ?_ | with_reducible refine N.forkF ?_ | refine N.obl (.plain rfl) ?_ | refine N.obl ⟨⟨_, rfl, id, Nat.le_refl _, fun j hj => absurd hj (Nat.not_lt_zero j)⟩, trivial⟩ ?_ | refine N.obl trivial ?_ | refine N.obl ⟨⟨.inr ⟨_, rfl, rfl⟩, trivial⟩, trivial⟩ ?_ | exact N.true | fail_if_success skip)
set_option maxRecDepth 100000 in
set_option maxHeartbeats 2000000 in
theorem cHearKroom (T : Tbl) (n boot seq now : Int) (ha : argsOK n boot seq now) (l : Life) (hl : T.lives n = some l) (hb1 : l.boot = boot) (hlf : l.left = false) (hs : l.W.seen < 18446744073709551616) (W' : Win) (hw : whear l.W seq = (0, W')) (hth : dGet (T.E) n = none) (hrm : (T.E).length < T.most) (E' : List (Int × Ent)) (hE' : E' = dPut (T.E) n ⟨n, boot, now, Ent.zero.has, Ent.zero.x, Ent.zero.y, Ent.zero.a, Ent.zero.b, Ent.zero.d, Ent.zero.when_⟩) (i : Nat) (h : List (Option Chunk)) (hi : h[i]? = some (some (tblC T))) :
    CallOK Tryz.prog 18 [.pointer (some ⟨i, 0, some 0⟩), .int .i64 n, .int .i64 boot, .int .i64 seq, .int .i64 now] h (.int .i64 0) [(i, tblC (⟨T.most, E', setL T.lives n ⟨boot, false, W'⟩⟩))] [] := by
  refine call_res (G := tys) (fun κ : LB × (Nat × Nat) => dGet κ.1.D n = some ⟨l.boot, l.left, κ.2⟩ ∧ livesOK T.lives ⟨κ.1.D, (κ.2, l.W) :: κ.1.F⟩) (fun κ => [some (mainC κ.1.F T.most), some (mapC entV T.E), some (mapC lifV κ.1.D), some (winX (atX κ.2) l.W)]) [⟨i, tblC T, tblC T, tblC (⟨T.most, E', setL T.lives n ⟨boot, false, W'⟩⟩)⟩] [] [.pointer (some ⟨0, 0, some 0⟩), .int .i64 n, .int .i64 boot, .int .i64 seq, .int .i64 now] tysOK mixed Tryz.func18 (by rfl) (Tryz.call18) ⟨hi, trivial⟩ ⟨⟨fun h => ⟨rfl, Nat.le_refl _⟩, Nat.le_refl _, fun j hj => absurd hj (Nat.not_lt_zero j)⟩, trivial⟩ (by simp [Apart]) ⟨.inr ⟨rfl, rfl⟩, trivial⟩ trivial ⟨.ptr rfl, .plain rfl, .plain rfl, .plain rfl, .plain rfl, trivial⟩ (tblOpenW T n l hl) ?_
  rintro ⟨⟨D, F⟩, q⟩ ⟨hg, hβ⟩
  have hg : dGet D n = some ⟨l.boot, l.left, q⟩ := hg
  have hg2 : dGet D n = some ⟨boot, false, q⟩ := by rw [hg, hb1, hlf]
  have hn := ha.1
  subst hE'
  repeat' (refine N.go ?_; first | with_reducible refine N.obl (by decide) ?_ | with_reducible refine N.obl (flat_wi _ _ _) ?_ | with_reducible refine N.obl (flat_lim _ _) ?_ | with_reducible refine N.eq ?_ | with_reducible refine N.obl rfl ?_ | with_reducible refine N.obl ⟨by kernel_rfl, by kernel_rfl⟩ ?_ | with_reducible refine N.alt ?_ | with_reducible refine N.forkT ?_ | with_reducible refine N.forkF ?_ | refine N.call (cTnode _ _) ?_ | refine N.call (cSerMay _ _) ?_ | refine N.call (cTtime _ _) ?_ | refine N.forkNo (by rw [decide_eq_true ha.1]; rfl) ?_ | refine N.forkNo (by rw [decide_eq_true ha.2.1]; rfl) ?_ | refine N.forkNo (by rw [decide_eq_true ha.2.2.1]; rfl) ?_ | refine N.forkNo (by rw [decide_eq_true ha.2.2.2]; rfl) ?_ | refine N.call (cBeginB _ _ _ _ _ _ _ ⟨l.boot, l.left, q⟩ hg hb1 hlf 0 1 2 _ (by rfl) (by rfl) (by rfl) (by decide)) ?_ | refine N_put lifV D ⟨boot, false, q⟩ rfl rfl ⟨by omega, by omega⟩ rfl Tryz.underlying109 Tryz.underlying3 ?_ | refine N.call (call_at [.pointer (some ⟨3, 0, some 0⟩), .int .i64 seq] (by rfl) rfl ⟨.ptr, .same _, trivial⟩ (.inr ⟨_, .head _⟩) (cWHear (atX q) l.W W' seq 0 3 hs ha.2.2.1 hw _ (by rfl))) ?_ | refine N_look entV (T.E) rfl Tryz.underlying108 Tryz.underlying3 Tryz.type74 rfl (.tuple ⟨[entV Ent.zero, .bool false]⟩) (by rw [hth]; rfl) rfl ?_ | refine N_lenM entV (T.E) rfl rfl Tryz.underlying108 ?_ | refine N.forkNo (by rw [decide_eq_false_iff_not]; omega) ?_ | refine N_put entV (T.E) ⟨n, boot, now, Ent.zero.has, Ent.zero.x, Ent.zero.y, Ent.zero.a, Ent.zero.b, Ent.zero.d, Ent.zero.when_⟩ rfl rfl ⟨by omega, by omega⟩ rfl Tryz.underlying108 Tryz.underlying3 ?_ | refine N.forkT ?_ | refine N.forkF ?_ | refine N.forkYes (by decide) ?_ | refine N.forkNo (by decide) ?_ | fail_if_success skip)
  refine N.go ?_
  refine hearClose ⟨T.most, _, setL T.lives n ⟨boot, false, W'⟩⟩ _ F q W' rfl (by rfl) (fun hq => livesOK_win hβ hg2 hq W') ?_
  repeat' (refine N.go ?_; first | with_reducible refine N.obl (by decide) ?_ | with_reducible refine N.obl (flat_wi _ _ _) ?_ | with_reducible refine N.obl (flat_lim _ _) ?_ | with_reducible refine N.eq ?_ | with_reducible refine N.obl rfl ?_ | with_reducible refine N.obl ⟨by kernel_rfl, by kernel_rfl⟩ ?_ | with_reducible refine N.alt ?_ | with_reducible refine N.forkT ?_ | with_reducible refine N.forkF ?_ | refine N.obl (.plain rfl) ?_ | refine N.obl ⟨⟨_, rfl, id, Nat.le_refl _, fun j hj => absurd hj (Nat.not_lt_zero j)⟩, trivial⟩ ?_ | refine N.obl trivial ?_ | refine N.obl ⟨⟨.inr ⟨_, rfl, rfl⟩, trivial⟩, trivial⟩ ?_ | exact N.true | fail_if_success skip)
set_option maxRecDepth 100000 in
set_option maxHeartbeats 2000000 in
theorem cHearKfull (T : Tbl) (n boot seq now : Int) (ha : argsOK n boot seq now) (l : Life) (hl : T.lives n = some l) (hb1 : l.boot = boot) (hlf : l.left = false) (hs : l.W.seen < 18446744073709551616) (W' : Win) (hw : whear l.W seq = (0, W')) (hth : dGet (T.E) n = none) (hrm : T.most ≤ (T.E).length) (hE : (T.E).length ≤ 64) (hpos : 0 < (T.E).length) (E' : List (Int × Ent)) (hE' : E' = dPut (dDel (T.E) (minT (entT (T.E)) (T.E).length).node) n ⟨n, boot, now, Ent.zero.has, Ent.zero.x, Ent.zero.y, Ent.zero.a, Ent.zero.b, Ent.zero.d, Ent.zero.when_⟩) (i : Nat) (h : List (Option Chunk)) (hi : h[i]? = some (some (tblC T))) :
    CallOK Tryz.prog 18 [.pointer (some ⟨i, 0, some 0⟩), .int .i64 n, .int .i64 boot, .int .i64 seq, .int .i64 now] h (.int .i64 0) [(i, tblC (⟨T.most, E', setL T.lives n ⟨boot, false, W'⟩⟩))] [] := by
  refine call_res (G := tys) (fun κ : LB × (Nat × Nat) => dGet κ.1.D n = some ⟨l.boot, l.left, κ.2⟩ ∧ livesOK T.lives ⟨κ.1.D, (κ.2, l.W) :: κ.1.F⟩) (fun κ => [some (mainC κ.1.F T.most), some (mapC entV T.E), some (mapC lifV κ.1.D), some (winX (atX κ.2) l.W)]) [⟨i, tblC T, tblC T, tblC (⟨T.most, E', setL T.lives n ⟨boot, false, W'⟩⟩)⟩] [] [.pointer (some ⟨0, 0, some 0⟩), .int .i64 n, .int .i64 boot, .int .i64 seq, .int .i64 now] tysOK mixed Tryz.func18 (by rfl) (Tryz.call18) ⟨hi, trivial⟩ ⟨⟨fun h => ⟨rfl, Nat.le_refl _⟩, Nat.le_refl _, fun j hj => absurd hj (Nat.not_lt_zero j)⟩, trivial⟩ (by simp [Apart]) ⟨.inr ⟨rfl, rfl⟩, trivial⟩ trivial ⟨.ptr rfl, .plain rfl, .plain rfl, .plain rfl, .plain rfl, trivial⟩ (tblOpenW T n l hl) ?_
  rintro ⟨⟨D, F⟩, q⟩ ⟨hg, hβ⟩
  have hg : dGet D n = some ⟨l.boot, l.left, q⟩ := hg
  have hg2 : dGet D n = some ⟨boot, false, q⟩ := by rw [hg, hb1, hlf]
  have hn := ha.1
  subst hE'
  repeat' (refine N.go ?_; first | with_reducible refine N.obl (by decide) ?_ | with_reducible refine N.obl (flat_wi _ _ _) ?_ | with_reducible refine N.obl (flat_lim _ _) ?_ | with_reducible refine N.eq ?_ | with_reducible refine N.obl rfl ?_ | with_reducible refine N.obl ⟨by kernel_rfl, by kernel_rfl⟩ ?_ | with_reducible refine N.alt ?_ | with_reducible refine N.forkT ?_ | with_reducible refine N.forkF ?_ | refine N.call (cTnode _ _) ?_ | refine N.call (cSerMay _ _) ?_ | refine N.call (cTtime _ _) ?_ | refine N.forkNo (by rw [decide_eq_true ha.1]; rfl) ?_ | refine N.forkNo (by rw [decide_eq_true ha.2.1]; rfl) ?_ | refine N.forkNo (by rw [decide_eq_true ha.2.2.1]; rfl) ?_ | refine N.forkNo (by rw [decide_eq_true ha.2.2.2]; rfl) ?_ | refine N.call (cBeginB _ _ _ _ _ _ _ ⟨l.boot, l.left, q⟩ hg hb1 hlf 0 1 2 _ (by rfl) (by rfl) (by rfl) (by decide)) ?_ | refine N_put lifV D ⟨boot, false, q⟩ rfl rfl ⟨by omega, by omega⟩ rfl Tryz.underlying109 Tryz.underlying3 ?_ | refine N.call (call_at [.pointer (some ⟨3, 0, some 0⟩), .int .i64 seq] (by rfl) rfl ⟨.ptr, .same _, trivial⟩ (.inr ⟨_, .head _⟩) (cWHear (atX q) l.W W' seq 0 3 hs ha.2.2.1 hw _ (by rfl))) ?_ | refine N_look entV (T.E) rfl Tryz.underlying108 Tryz.underlying3 Tryz.type74 rfl (.tuple ⟨[entV Ent.zero, .bool false]⟩) (by rw [hth]; rfl) rfl ?_ | refine N_lenM entV (T.E) rfl rfl Tryz.underlying108 ?_ | refine N.forkYes (by rw [decide_eq_true_eq]; omega) ?_ | refine N.call (cElder _ true T.most (T.E) (dPut D n ⟨boot, false, q⟩) hE hpos 0 1 2 _ (by rfl) (by rfl) (by rfl) (by decide)) ?_ | refine N_del entV (T.E) rfl rfl rfl Tryz.underlying108 Tryz.underlying3 ?_ | refine N_put entV (dDel (T.E) (minT (entT (T.E)) (T.E).length).node) ⟨n, boot, now, Ent.zero.has, Ent.zero.x, Ent.zero.y, Ent.zero.a, Ent.zero.b, Ent.zero.d, Ent.zero.when_⟩ rfl rfl ⟨by omega, by omega⟩ rfl Tryz.underlying108 Tryz.underlying3 ?_ | refine N.forkT ?_ | refine N.forkF ?_ | refine N.forkYes (by decide) ?_ | refine N.forkNo (by decide) ?_ | fail_if_success skip)
  refine N.go ?_
  refine hearClose ⟨T.most, _, setL T.lives n ⟨boot, false, W'⟩⟩ _ F q W' rfl (by rfl) (fun hq => livesOK_win hβ hg2 hq W') ?_
  repeat' (refine N.go ?_; first | with_reducible refine N.obl (by decide) ?_ | with_reducible refine N.obl (flat_wi _ _ _) ?_ | with_reducible refine N.obl (flat_lim _ _) ?_ | with_reducible refine N.eq ?_ | with_reducible refine N.obl rfl ?_ | with_reducible refine N.obl ⟨by kernel_rfl, by kernel_rfl⟩ ?_ | with_reducible refine N.alt ?_ | with_reducible refine N.forkT ?_ | with_reducible refine N.forkF ?_ | refine N.obl (.plain rfl) ?_ | refine N.obl ⟨⟨_, rfl, id, Nat.le_refl _, fun j hj => absurd hj (Nat.not_lt_zero j)⟩, trivial⟩ ?_ | refine N.obl trivial ?_ | refine N.obl ⟨⟨.inr ⟨_, rfl, rfl⟩, trivial⟩, trivial⟩ ?_ | exact N.true | fail_if_success skip)
end Go.Proofs.YtijiggkhnpmaiaaGreat


/-
  The walk of Hear, where a life begins.
-/
set_option linter.unusedVariables false
set_option linter.unusedSimpArgs false
namespace Go.Proofs.YtijiggkhnpmaiaaGreat
open Go Go.RowKit Sx

set_option maxRecDepth 100000 in
set_option maxHeartbeats 2000000 in
theorem cHearOYthere (T : Tbl) (n boot seq now : Int) (ha : argsOK n boot seq now) (l : Life) (hl : T.lives n = some l) (hb1 : l.boot ≠ boot) (hls : 0 < serD l.boot boot ∧ serD l.boot boot < 32768) (e : Ent) (hEn : dGet T.E n = some e) (E' : List (Int × Ent)) (hE' : E' = dPut (dPut T.E n ⟨n, e.boot, e.heard, false, 0, 0, 0, 0, 0, 0⟩) n ⟨n, boot, now, false, 0, 0, 0, 0, 0, 0⟩) (i : Nat) (h : List (Option Chunk)) (hi : h[i]? = some (some (tblC T))) :
    CallOK Tryz.prog 18 [.pointer (some ⟨i, 0, some 0⟩), .int .i64 n, .int .i64 boot, .int .i64 seq, .int .i64 now] h (.int .i64 0) [(i, tblC (⟨T.most, E', setL T.lives n ⟨boot, false, ⟨true, seq, 1⟩⟩⟩))] [] := by
  refine call_res (G := tys) (livesOK T.lives) (tblH T) [⟨i, tblC T, tblC T, tblC (⟨T.most, E', setL T.lives n ⟨boot, false, ⟨true, seq, 1⟩⟩⟩)⟩] [] [.pointer (some ⟨0, 0, some 0⟩), .int .i64 n, .int .i64 boot, .int .i64 seq, .int .i64 now] tysOK mixed Tryz.func18 (by rfl) (Tryz.call18) ⟨hi, trivial⟩ ⟨⟨fun h => ⟨rfl, Nat.le_refl _⟩, Nat.le_refl _, fun j hj => absurd hj (Nat.not_lt_zero j)⟩, trivial⟩ (by simp [Apart]) ⟨.inr ⟨rfl, rfl⟩, trivial⟩ trivial ⟨.ptr rfl, .plain rfl, .plain rfl, .plain rfl, .plain rfl, trivial⟩ pack_opens ?_
  intro β hβ
  have hn := ha.1
  obtain ⟨q0, hg, hW⟩ := livesOK_some hβ hl
  have hth : dGet (dPut T.E n ⟨n, e.boot, e.heard, false, 0, 0, 0, 0, 0, 0⟩) n = some ⟨n, e.boot, e.heard, false, 0, 0, 0, 0, 0, 0⟩ := dGet_put_same _ _ _
  have hbe : begE T.E n = dPut T.E n ⟨n, e.boot, e.heard, false, 0, 0, 0, 0, 0, 0⟩ := by unfold begE; rw [hEn]
  subst hE'
  repeat' (refine N.go ?_; first | with_reducible refine N.obl (by decide) ?_ | with_reducible refine N.obl (flat_wi _ _ _) ?_ | with_reducible refine N.obl (flat_lim _ _) ?_ | with_reducible refine N.eq ?_ | with_reducible refine N.obl rfl ?_ | with_reducible refine N.obl ⟨by kernel_rfl, by kernel_rfl⟩ ?_ | with_reducible refine N.alt ?_ | with_reducible refine N.forkT ?_ | with_reducible refine N.forkF ?_ | refine N.call (cTnode _ _) ?_ | refine N.call (cSerMay _ _) ?_ | refine N.call (cTtime _ _) ?_ | refine N.forkNo (by rw [decide_eq_true ha.1]; rfl) ?_ | refine N.forkNo (by rw [decide_eq_true ha.2.1]; rfl) ?_ | refine N.forkNo (by rw [decide_eq_true ha.2.2.1]; rfl) ?_ | refine N.forkNo (by rw [decide_eq_true ha.2.2.2]; rfl) ?_ | fail_if_success skip)
  refine N.go ?_
  refine N.callAll (cBeginOY _ _ _ _ _ _ _ hn ⟨l.boot, l.left, q0⟩ hg hb1 hls e hEn 0 1 2 _ (by rfl) (by rfl) (by rfl) (by decide) 3 (by rfl) (by decide)) fun v ms hR => ?_
  obtain ⟨q, rfl, rfl⟩ := hR
  rw [hbe]
  repeat' (refine N.go ?_; first | with_reducible refine N.obl (by decide) ?_ | with_reducible refine N.obl (flat_wi _ _ _) ?_ | with_reducible refine N.obl (flat_lim _ _) ?_ | with_reducible refine N.eq ?_ | with_reducible refine N.obl rfl ?_ | with_reducible refine N.obl ⟨by kernel_rfl, by kernel_rfl⟩ ?_ | with_reducible refine N.alt ?_ | with_reducible refine N.forkT ?_ | with_reducible refine N.forkF ?_ | refine N_put lifV β.D ⟨boot, false, q⟩ rfl rfl ⟨by omega, by omega⟩ rfl Tryz.underlying109 Tryz.underlying3 ?_ | refine N.call (call_at [.pointer (some ⟨3, 0, some 0⟩), .int .i64 seq] (by rfl) rfl ⟨.ptr, .same _, trivial⟩ (.inr ⟨_, .head _⟩) (cWHear (atX q) Win.zero ⟨true, seq, 1⟩ seq 0 3 (by decide) ha.2.2.1 rfl _ (by rfl))) ?_ | refine N_look entV (dPut T.E n ⟨n, e.boot, e.heard, false, 0, 0, 0, 0, 0, 0⟩) rfl Tryz.underlying108 Tryz.underlying3 Tryz.type74 rfl (.tuple ⟨[entV ⟨n, e.boot, e.heard, false, 0, 0, 0, 0, 0, 0⟩, .bool true]⟩) (by rw [hth]; rfl) rfl ?_ | refine N_lenM entV (dPut T.E n ⟨n, e.boot, e.heard, false, 0, 0, 0, 0, 0, 0⟩) rfl rfl Tryz.underlying108 ?_ | refine N_put entV (dPut T.E n ⟨n, e.boot, e.heard, false, 0, 0, 0, 0, 0, 0⟩) ⟨n, boot, now, false, 0, 0, 0, 0, 0, 0⟩ rfl rfl ⟨by omega, by omega⟩ rfl Tryz.underlying108 Tryz.underlying3 ?_ | refine N.forkT ?_ | refine N.forkF ?_ | refine N.forkYes (by decide) ?_ | refine N.forkNo (by decide) ?_ | fail_if_success skip)
  refine N.go ?_
  refine hearClose ⟨T.most, _, setL T.lives n ⟨boot, false, ⟨true, seq, 1⟩⟩⟩ _ β.F q ⟨true, seq, 1⟩ rfl (by rfl) (fun hq => livesOK_new hβ hq _) ?_
  repeat' (refine N.go ?_; first | with_reducible refine N.obl (by decide) ?_ | with_reducible refine N.obl (flat_wi _ _ _) ?_ | with_reducible refine N.obl (flat_lim _ _) ?_ | with_reducible refine N.eq ?_ | with_reducible refine N.obl rfl ?_ | with_reducible refine N.obl ⟨by kernel_rfl, by kernel_rfl⟩ ?_ | with_reducible refine N.alt ?_ | with_reducible refine N.forkT ?_ | with_reducible refine N.forkF ?_ | refine N.obl (.plain rfl) ?_ | refine N.obl ⟨⟨_, rfl, id, Nat.le_refl _, fun j hj => absurd hj (Nat.not_lt_zero j)⟩, trivial⟩ ?_ | refine N.obl trivial ?_ | refine N.obl ⟨⟨.inr ⟨_, rfl, rfl⟩, trivial⟩, trivial⟩ ?_ | exact N.true | fail_if_success skip)
set_option maxRecDepth 100000 in
set_option maxHeartbeats 2000000 in
theorem cHearONroom (T : Tbl) (n boot seq now : Int) (ha : argsOK n boot seq now) (l : Life) (hl : T.lives n = some l) (hb1 : l.boot ≠ boot) (hls : 0 < serD l.boot boot ∧ serD l.boot boot < 32768) (hth : dGet (T.E) n = none) (hrm : (T.E).length < T.most) (E' : List (Int × Ent)) (hE' : E' = dPut (T.E) n ⟨n, boot, now, Ent.zero.has, Ent.zero.x, Ent.zero.y, Ent.zero.a, Ent.zero.b, Ent.zero.d, Ent.zero.when_⟩) (i : Nat) (h : List (Option Chunk)) (hi : h[i]? = some (some (tblC T))) :
    CallOK Tryz.prog 18 [.pointer (some ⟨i, 0, some 0⟩), .int .i64 n, .int .i64 boot, .int .i64 seq, .int .i64 now] h (.int .i64 0) [(i, tblC (⟨T.most, E', setL T.lives n ⟨boot, false, ⟨true, seq, 1⟩⟩⟩))] [] := by
  refine call_res (G := tys) (livesOK T.lives) (tblH T) [⟨i, tblC T, tblC T, tblC (⟨T.most, E', setL T.lives n ⟨boot, false, ⟨true, seq, 1⟩⟩⟩)⟩] [] [.pointer (some ⟨0, 0, some 0⟩), .int .i64 n, .int .i64 boot, .int .i64 seq, .int .i64 now] tysOK mixed Tryz.func18 (by rfl) (Tryz.call18) ⟨hi, trivial⟩ ⟨⟨fun h => ⟨rfl, Nat.le_refl _⟩, Nat.le_refl _, fun j hj => absurd hj (Nat.not_lt_zero j)⟩, trivial⟩ (by simp [Apart]) ⟨.inr ⟨rfl, rfl⟩, trivial⟩ trivial ⟨.ptr rfl, .plain rfl, .plain rfl, .plain rfl, .plain rfl, trivial⟩ pack_opens ?_
  intro β hβ
  have hn := ha.1
  obtain ⟨q0, hg, hW⟩ := livesOK_some hβ hl
  have hbe : begE T.E n = T.E := by unfold begE; rw [hth]
  subst hE'
  repeat' (refine N.go ?_; first | with_reducible refine N.obl (by decide) ?_ | with_reducible refine N.obl (flat_wi _ _ _) ?_ | with_reducible refine N.obl (flat_lim _ _) ?_ | with_reducible refine N.eq ?_ | with_reducible refine N.obl rfl ?_ | with_reducible refine N.obl ⟨by kernel_rfl, by kernel_rfl⟩ ?_ | with_reducible refine N.alt ?_ | with_reducible refine N.forkT ?_ | with_reducible refine N.forkF ?_ | refine N.call (cTnode _ _) ?_ | refine N.call (cSerMay _ _) ?_ | refine N.call (cTtime _ _) ?_ | refine N.forkNo (by rw [decide_eq_true ha.1]; rfl) ?_ | refine N.forkNo (by rw [decide_eq_true ha.2.1]; rfl) ?_ | refine N.forkNo (by rw [decide_eq_true ha.2.2.1]; rfl) ?_ | refine N.forkNo (by rw [decide_eq_true ha.2.2.2]; rfl) ?_ | fail_if_success skip)
  refine N.go ?_
  refine N.callAll (cBeginON _ _ _ _ _ _ _ hn ⟨l.boot, l.left, q0⟩ hg hb1 hls hth 0 1 2 _ (by rfl) (by rfl) (by rfl) (by decide) 3 (by rfl) (by decide)) fun v ms hR => ?_
  obtain ⟨q, rfl, rfl⟩ := hR
  rw [hbe]
  repeat' (refine N.go ?_; first | with_reducible refine N.obl (by decide) ?_ | with_reducible refine N.obl (flat_wi _ _ _) ?_ | with_reducible refine N.obl (flat_lim _ _) ?_ | with_reducible refine N.eq ?_ | with_reducible refine N.obl rfl ?_ | with_reducible refine N.obl ⟨by kernel_rfl, by kernel_rfl⟩ ?_ | with_reducible refine N.alt ?_ | with_reducible refine N.forkT ?_ | with_reducible refine N.forkF ?_ | refine N_put lifV β.D ⟨boot, false, q⟩ rfl rfl ⟨by omega, by omega⟩ rfl Tryz.underlying109 Tryz.underlying3 ?_ | refine N.call (call_at [.pointer (some ⟨3, 0, some 0⟩), .int .i64 seq] (by rfl) rfl ⟨.ptr, .same _, trivial⟩ (.inr ⟨_, .head _⟩) (cWHear (atX q) Win.zero ⟨true, seq, 1⟩ seq 0 3 (by decide) ha.2.2.1 rfl _ (by rfl))) ?_ | refine N_look entV (T.E) rfl Tryz.underlying108 Tryz.underlying3 Tryz.type74 rfl (.tuple ⟨[entV Ent.zero, .bool false]⟩) (by rw [hth]; rfl) rfl ?_ | refine N_lenM entV (T.E) rfl rfl Tryz.underlying108 ?_ | refine N.forkNo (by rw [decide_eq_false_iff_not]; omega) ?_ | refine N_put entV (T.E) ⟨n, boot, now, Ent.zero.has, Ent.zero.x, Ent.zero.y, Ent.zero.a, Ent.zero.b, Ent.zero.d, Ent.zero.when_⟩ rfl rfl ⟨by omega, by omega⟩ rfl Tryz.underlying108 Tryz.underlying3 ?_ | refine N.forkT ?_ | refine N.forkF ?_ | refine N.forkYes (by decide) ?_ | refine N.forkNo (by decide) ?_ | fail_if_success skip)
  refine N.go ?_
  refine hearClose ⟨T.most, _, setL T.lives n ⟨boot, false, ⟨true, seq, 1⟩⟩⟩ _ β.F q ⟨true, seq, 1⟩ rfl (by rfl) (fun hq => livesOK_new hβ hq _) ?_
  repeat' (refine N.go ?_; first | with_reducible refine N.obl (by decide) ?_ | with_reducible refine N.obl (flat_wi _ _ _) ?_ | with_reducible refine N.obl (flat_lim _ _) ?_ | with_reducible refine N.eq ?_ | with_reducible refine N.obl rfl ?_ | with_reducible refine N.obl ⟨by kernel_rfl, by kernel_rfl⟩ ?_ | with_reducible refine N.alt ?_ | with_reducible refine N.forkT ?_ | with_reducible refine N.forkF ?_ | refine N.obl (.plain rfl) ?_ | refine N.obl ⟨⟨_, rfl, id, Nat.le_refl _, fun j hj => absurd hj (Nat.not_lt_zero j)⟩, trivial⟩ ?_ | refine N.obl trivial ?_ | refine N.obl ⟨⟨.inr ⟨_, rfl, rfl⟩, trivial⟩, trivial⟩ ?_ | exact N.true | fail_if_success skip)
set_option maxRecDepth 100000 in
set_option maxHeartbeats 2000000 in
theorem cHearONfull (T : Tbl) (n boot seq now : Int) (ha : argsOK n boot seq now) (l : Life) (hl : T.lives n = some l) (hb1 : l.boot ≠ boot) (hls : 0 < serD l.boot boot ∧ serD l.boot boot < 32768) (hth : dGet (T.E) n = none) (hrm : T.most ≤ (T.E).length) (hE : (T.E).length ≤ 64) (hpos : 0 < (T.E).length) (E' : List (Int × Ent)) (hE' : E' = dPut (dDel (T.E) (minT (entT (T.E)) (T.E).length).node) n ⟨n, boot, now, Ent.zero.has, Ent.zero.x, Ent.zero.y, Ent.zero.a, Ent.zero.b, Ent.zero.d, Ent.zero.when_⟩) (i : Nat) (h : List (Option Chunk)) (hi : h[i]? = some (some (tblC T))) :
    CallOK Tryz.prog 18 [.pointer (some ⟨i, 0, some 0⟩), .int .i64 n, .int .i64 boot, .int .i64 seq, .int .i64 now] h (.int .i64 0) [(i, tblC (⟨T.most, E', setL T.lives n ⟨boot, false, ⟨true, seq, 1⟩⟩⟩))] [] := by
  refine call_res (G := tys) (livesOK T.lives) (tblH T) [⟨i, tblC T, tblC T, tblC (⟨T.most, E', setL T.lives n ⟨boot, false, ⟨true, seq, 1⟩⟩⟩)⟩] [] [.pointer (some ⟨0, 0, some 0⟩), .int .i64 n, .int .i64 boot, .int .i64 seq, .int .i64 now] tysOK mixed Tryz.func18 (by rfl) (Tryz.call18) ⟨hi, trivial⟩ ⟨⟨fun h => ⟨rfl, Nat.le_refl _⟩, Nat.le_refl _, fun j hj => absurd hj (Nat.not_lt_zero j)⟩, trivial⟩ (by simp [Apart]) ⟨.inr ⟨rfl, rfl⟩, trivial⟩ trivial ⟨.ptr rfl, .plain rfl, .plain rfl, .plain rfl, .plain rfl, trivial⟩ pack_opens ?_
  intro β hβ
  have hn := ha.1
  obtain ⟨q0, hg, hW⟩ := livesOK_some hβ hl
  have hbe : begE T.E n = T.E := by unfold begE; rw [hth]
  subst hE'
  repeat' (refine N.go ?_; first | with_reducible refine N.obl (by decide) ?_ | with_reducible refine N.obl (flat_wi _ _ _) ?_ | with_reducible refine N.obl (flat_lim _ _) ?_ | with_reducible refine N.eq ?_ | with_reducible refine N.obl rfl ?_ | with_reducible refine N.obl ⟨by kernel_rfl, by kernel_rfl⟩ ?_ | with_reducible refine N.alt ?_ | with_reducible refine N.forkT ?_ | with_reducible refine N.forkF ?_ | refine N.call (cTnode _ _) ?_ | refine N.call (cSerMay _ _) ?_ | refine N.call (cTtime _ _) ?_ | refine N.forkNo (by rw [decide_eq_true ha.1]; rfl) ?_ | refine N.forkNo (by rw [decide_eq_true ha.2.1]; rfl) ?_ | refine N.forkNo (by rw [decide_eq_true ha.2.2.1]; rfl) ?_ | refine N.forkNo (by rw [decide_eq_true ha.2.2.2]; rfl) ?_ | fail_if_success skip)
  refine N.go ?_
  refine N.callAll (cBeginON _ _ _ _ _ _ _ hn ⟨l.boot, l.left, q0⟩ hg hb1 hls hth 0 1 2 _ (by rfl) (by rfl) (by rfl) (by decide) 3 (by rfl) (by decide)) fun v ms hR => ?_
  obtain ⟨q, rfl, rfl⟩ := hR
  rw [hbe]
  repeat' (refine N.go ?_; first | with_reducible refine N.obl (by decide) ?_ | with_reducible refine N.obl (flat_wi _ _ _) ?_ | with_reducible refine N.obl (flat_lim _ _) ?_ | with_reducible refine N.eq ?_ | with_reducible refine N.obl rfl ?_ | with_reducible refine N.obl ⟨by kernel_rfl, by kernel_rfl⟩ ?_ | with_reducible refine N.alt ?_ | with_reducible refine N.forkT ?_ | with_reducible refine N.forkF ?_ | refine N_put lifV β.D ⟨boot, false, q⟩ rfl rfl ⟨by omega, by omega⟩ rfl Tryz.underlying109 Tryz.underlying3 ?_ | refine N.call (call_at [.pointer (some ⟨3, 0, some 0⟩), .int .i64 seq] (by rfl) rfl ⟨.ptr, .same _, trivial⟩ (.inr ⟨_, .head _⟩) (cWHear (atX q) Win.zero ⟨true, seq, 1⟩ seq 0 3 (by decide) ha.2.2.1 rfl _ (by rfl))) ?_ | refine N_look entV (T.E) rfl Tryz.underlying108 Tryz.underlying3 Tryz.type74 rfl (.tuple ⟨[entV Ent.zero, .bool false]⟩) (by rw [hth]; rfl) rfl ?_ | refine N_lenM entV (T.E) rfl rfl Tryz.underlying108 ?_ | refine N.forkYes (by rw [decide_eq_true_eq]; omega) ?_ | refine N.call (cElder _ true T.most (T.E) (dPut β.D n ⟨boot, false, q⟩) hE hpos 0 1 2 _ (by rfl) (by rfl) (by rfl) (by decide)) ?_ | refine N_del entV (T.E) rfl rfl rfl Tryz.underlying108 Tryz.underlying3 ?_ | refine N_put entV (dDel (T.E) (minT (entT (T.E)) (T.E).length).node) ⟨n, boot, now, Ent.zero.has, Ent.zero.x, Ent.zero.y, Ent.zero.a, Ent.zero.b, Ent.zero.d, Ent.zero.when_⟩ rfl rfl ⟨by omega, by omega⟩ rfl Tryz.underlying108 Tryz.underlying3 ?_ | refine N.forkT ?_ | refine N.forkF ?_ | refine N.forkYes (by decide) ?_ | refine N.forkNo (by decide) ?_ | fail_if_success skip)
  refine N.go ?_
  refine hearClose ⟨T.most, _, setL T.lives n ⟨boot, false, ⟨true, seq, 1⟩⟩⟩ _ β.F q ⟨true, seq, 1⟩ rfl (by rfl) (fun hq => livesOK_new hβ hq _) ?_
  repeat' (refine N.go ?_; first | with_reducible refine N.obl (by decide) ?_ | with_reducible refine N.obl (flat_wi _ _ _) ?_ | with_reducible refine N.obl (flat_lim _ _) ?_ | with_reducible refine N.eq ?_ | with_reducible refine N.obl rfl ?_ | with_reducible refine N.obl ⟨by kernel_rfl, by kernel_rfl⟩ ?_ | with_reducible refine N.alt ?_ | with_reducible refine N.forkT ?_ | with_reducible refine N.forkF ?_ | refine N.obl (.plain rfl) ?_ | refine N.obl ⟨⟨_, rfl, id, Nat.le_refl _, fun j hj => absurd hj (Nat.not_lt_zero j)⟩, trivial⟩ ?_ | refine N.obl trivial ?_ | refine N.obl ⟨⟨.inr ⟨_, rfl, rfl⟩, trivial⟩, trivial⟩ ?_ | exact N.true | fail_if_success skip)
set_option maxRecDepth 100000 in
set_option maxHeartbeats 2000000 in
theorem cHearNYthere (T : Tbl) (n boot seq now : Int) (ha : argsOK n boot seq now) (hl : T.lives n = none) (e : Ent) (hEn : dGet T.E n = some e) (E' : List (Int × Ent)) (hE' : E' = dPut (dPut T.E n ⟨n, e.boot, e.heard, false, 0, 0, 0, 0, 0, 0⟩) n ⟨n, boot, now, false, 0, 0, 0, 0, 0, 0⟩) (i : Nat) (h : List (Option Chunk)) (hi : h[i]? = some (some (tblC T))) :
    CallOK Tryz.prog 18 [.pointer (some ⟨i, 0, some 0⟩), .int .i64 n, .int .i64 boot, .int .i64 seq, .int .i64 now] h (.int .i64 0) [(i, tblC (⟨T.most, E', setL T.lives n ⟨boot, false, ⟨true, seq, 1⟩⟩⟩))] [] := by
  refine call_res (G := tys) (livesOK T.lives) (tblH T) [⟨i, tblC T, tblC T, tblC (⟨T.most, E', setL T.lives n ⟨boot, false, ⟨true, seq, 1⟩⟩⟩)⟩] [] [.pointer (some ⟨0, 0, some 0⟩), .int .i64 n, .int .i64 boot, .int .i64 seq, .int .i64 now] tysOK mixed Tryz.func18 (by rfl) (Tryz.call18) ⟨hi, trivial⟩ ⟨⟨fun h => ⟨rfl, Nat.le_refl _⟩, Nat.le_refl _, fun j hj => absurd hj (Nat.not_lt_zero j)⟩, trivial⟩ (by simp [Apart]) ⟨.inr ⟨rfl, rfl⟩, trivial⟩ trivial ⟨.ptr rfl, .plain rfl, .plain rfl, .plain rfl, .plain rfl, trivial⟩ pack_opens ?_
  intro β hβ
  have hn := ha.1
  have hg := livesOK_none hβ hl
  have hth : dGet (dPut T.E n ⟨n, e.boot, e.heard, false, 0, 0, 0, 0, 0, 0⟩) n = some ⟨n, e.boot, e.heard, false, 0, 0, 0, 0, 0, 0⟩ := dGet_put_same _ _ _
  have hbe : begE T.E n = dPut T.E n ⟨n, e.boot, e.heard, false, 0, 0, 0, 0, 0, 0⟩ := by unfold begE; rw [hEn]
  subst hE'
  repeat' (refine N.go ?_; first | with_reducible refine N.obl (by decide) ?_ | with_reducible refine N.obl (flat_wi _ _ _) ?_ | with_reducible refine N.obl (flat_lim _ _) ?_ | with_reducible refine N.eq ?_ | with_reducible refine N.obl rfl ?_ | with_reducible refine N.obl ⟨by kernel_rfl, by kernel_rfl⟩ ?_ | with_reducible refine N.alt ?_ | with_reducible refine N.forkT ?_ | with_reducible refine N.forkF ?_ | refine N.call (cTnode _ _) ?_ | refine N.call (cSerMay _ _) ?_ | refine N.call (cTtime _ _) ?_ | refine N.forkNo (by rw [decide_eq_true ha.1]; rfl) ?_ | refine N.forkNo (by rw [decide_eq_true ha.2.1]; rfl) ?_ | refine N.forkNo (by rw [decide_eq_true ha.2.2.1]; rfl) ?_ | refine N.forkNo (by rw [decide_eq_true ha.2.2.2]; rfl) ?_ | fail_if_success skip)
  refine N.go ?_
  refine N.callAll (cBeginNY _ _ _ _ _ _ _ hn hg e hEn 0 1 2 _ (by rfl) (by rfl) (by rfl) (by decide) 3 (by rfl) (by decide)) fun v ms hR => ?_
  obtain ⟨q, rfl, rfl⟩ := hR
  rw [hbe]
  repeat' (refine N.go ?_; first | with_reducible refine N.obl (by decide) ?_ | with_reducible refine N.obl (flat_wi _ _ _) ?_ | with_reducible refine N.obl (flat_lim _ _) ?_ | with_reducible refine N.eq ?_ | with_reducible refine N.obl rfl ?_ | with_reducible refine N.obl ⟨by kernel_rfl, by kernel_rfl⟩ ?_ | with_reducible refine N.alt ?_ | with_reducible refine N.forkT ?_ | with_reducible refine N.forkF ?_ | refine N_put lifV β.D ⟨boot, false, q⟩ rfl rfl ⟨by omega, by omega⟩ rfl Tryz.underlying109 Tryz.underlying3 ?_ | refine N.call (call_at [.pointer (some ⟨3, 0, some 0⟩), .int .i64 seq] (by rfl) rfl ⟨.ptr, .same _, trivial⟩ (.inr ⟨_, .head _⟩) (cWHear (atX q) Win.zero ⟨true, seq, 1⟩ seq 0 3 (by decide) ha.2.2.1 rfl _ (by rfl))) ?_ | refine N_look entV (dPut T.E n ⟨n, e.boot, e.heard, false, 0, 0, 0, 0, 0, 0⟩) rfl Tryz.underlying108 Tryz.underlying3 Tryz.type74 rfl (.tuple ⟨[entV ⟨n, e.boot, e.heard, false, 0, 0, 0, 0, 0, 0⟩, .bool true]⟩) (by rw [hth]; rfl) rfl ?_ | refine N_lenM entV (dPut T.E n ⟨n, e.boot, e.heard, false, 0, 0, 0, 0, 0, 0⟩) rfl rfl Tryz.underlying108 ?_ | refine N_put entV (dPut T.E n ⟨n, e.boot, e.heard, false, 0, 0, 0, 0, 0, 0⟩) ⟨n, boot, now, false, 0, 0, 0, 0, 0, 0⟩ rfl rfl ⟨by omega, by omega⟩ rfl Tryz.underlying108 Tryz.underlying3 ?_ | refine N.forkT ?_ | refine N.forkF ?_ | refine N.forkYes (by decide) ?_ | refine N.forkNo (by decide) ?_ | fail_if_success skip)
  refine N.go ?_
  refine hearClose ⟨T.most, _, setL T.lives n ⟨boot, false, ⟨true, seq, 1⟩⟩⟩ _ β.F q ⟨true, seq, 1⟩ rfl (by rfl) (fun hq => livesOK_new hβ hq _) ?_
  repeat' (refine N.go ?_; first | with_reducible refine N.obl (by decide) ?_ | with_reducible refine N.obl (flat_wi _ _ _) ?_ | with_reducible refine N.obl (flat_lim _ _) ?_ | with_reducible refine N.eq ?_ | with_reducible refine N.obl rfl ?_ | with_reducible refine N.obl ⟨by kernel_rfl, by kernel_rfl⟩ ?_ | with_reducible refine N.alt ?_ | with_reducible refine N.forkT ?_ | with_reducible refine N.forkF ?_ | refine N.obl (.plain rfl) ?_ | refine N.obl ⟨⟨_, rfl, id, Nat.le_refl _, fun j hj => absurd hj (Nat.not_lt_zero j)⟩, trivial⟩ ?_ | refine N.obl trivial ?_ | refine N.obl ⟨⟨.inr ⟨_, rfl, rfl⟩, trivial⟩, trivial⟩ ?_ | exact N.true | fail_if_success skip)
set_option maxRecDepth 100000 in
set_option maxHeartbeats 2000000 in
theorem cHearNNroom (T : Tbl) (n boot seq now : Int) (ha : argsOK n boot seq now) (hl : T.lives n = none) (hth : dGet (T.E) n = none) (hrm : (T.E).length < T.most) (E' : List (Int × Ent)) (hE' : E' = dPut (T.E) n ⟨n, boot, now, Ent.zero.has, Ent.zero.x, Ent.zero.y, Ent.zero.a, Ent.zero.b, Ent.zero.d, Ent.zero.when_⟩) (i : Nat) (h : List (Option Chunk)) (hi : h[i]? = some (some (tblC T))) :
    CallOK Tryz.prog 18 [.pointer (some ⟨i, 0, some 0⟩), .int .i64 n, .int .i64 boot, .int .i64 seq, .int .i64 now] h (.int .i64 0) [(i, tblC (⟨T.most, E', setL T.lives n ⟨boot, false, ⟨true, seq, 1⟩⟩⟩))] [] := by
  refine call_res (G := tys) (livesOK T.lives) (tblH T) [⟨i, tblC T, tblC T, tblC (⟨T.most, E', setL T.lives n ⟨boot, false, ⟨true, seq, 1⟩⟩⟩)⟩] [] [.pointer (some ⟨0, 0, some 0⟩), .int .i64 n, .int .i64 boot, .int .i64 seq, .int .i64 now] tysOK mixed Tryz.func18 (by rfl) (Tryz.call18) ⟨hi, trivial⟩ ⟨⟨fun h => ⟨rfl, Nat.le_refl _⟩, Nat.le_refl _, fun j hj => absurd hj (Nat.not_lt_zero j)⟩, trivial⟩ (by simp [Apart]) ⟨.inr ⟨rfl, rfl⟩, trivial⟩ trivial ⟨.ptr rfl, .plain rfl, .plain rfl, .plain rfl, .plain rfl, trivial⟩ pack_opens ?_
  intro β hβ
  have hn := ha.1
  have hg := livesOK_none hβ hl
  have hbe : begE T.E n = T.E := by unfold begE; rw [hth]
  subst hE'
  repeat' (refine N.go ?_; first | with_reducible refine N.obl (by decide) ?_ | with_reducible refine N.obl (flat_wi _ _ _) ?_ | with_reducible refine N.obl (flat_lim _ _) ?_ | with_reducible refine N.eq ?_ | with_reducible refine N.obl rfl ?_ | with_reducible refine N.obl ⟨by kernel_rfl, by kernel_rfl⟩ ?_ | with_reducible refine N.alt ?_ | with_reducible refine N.forkT ?_ | with_reducible refine N.forkF ?_ | refine N.call (cTnode _ _) ?_ | refine N.call (cSerMay _ _) ?_ | refine N.call (cTtime _ _) ?_ | refine N.forkNo (by rw [decide_eq_true ha.1]; rfl) ?_ | refine N.forkNo (by rw [decide_eq_true ha.2.1]; rfl) ?_ | refine N.forkNo (by rw [decide_eq_true ha.2.2.1]; rfl) ?_ | refine N.forkNo (by rw [decide_eq_true ha.2.2.2]; rfl) ?_ | fail_if_success skip)
  refine N.go ?_
  refine N.callAll (cBeginNN _ _ _ _ _ _ _ hn hg hth 0 1 2 _ (by rfl) (by rfl) (by rfl) (by decide) 3 (by rfl) (by decide)) fun v ms hR => ?_
  obtain ⟨q, rfl, rfl⟩ := hR
  rw [hbe]
  repeat' (refine N.go ?_; first | with_reducible refine N.obl (by decide) ?_ | with_reducible refine N.obl (flat_wi _ _ _) ?_ | with_reducible refine N.obl (flat_lim _ _) ?_ | with_reducible refine N.eq ?_ | with_reducible refine N.obl rfl ?_ | with_reducible refine N.obl ⟨by kernel_rfl, by kernel_rfl⟩ ?_ | with_reducible refine N.alt ?_ | with_reducible refine N.forkT ?_ | with_reducible refine N.forkF ?_ | refine N_put lifV β.D ⟨boot, false, q⟩ rfl rfl ⟨by omega, by omega⟩ rfl Tryz.underlying109 Tryz.underlying3 ?_ | refine N.call (call_at [.pointer (some ⟨3, 0, some 0⟩), .int .i64 seq] (by rfl) rfl ⟨.ptr, .same _, trivial⟩ (.inr ⟨_, .head _⟩) (cWHear (atX q) Win.zero ⟨true, seq, 1⟩ seq 0 3 (by decide) ha.2.2.1 rfl _ (by rfl))) ?_ | refine N_look entV (T.E) rfl Tryz.underlying108 Tryz.underlying3 Tryz.type74 rfl (.tuple ⟨[entV Ent.zero, .bool false]⟩) (by rw [hth]; rfl) rfl ?_ | refine N_lenM entV (T.E) rfl rfl Tryz.underlying108 ?_ | refine N.forkNo (by rw [decide_eq_false_iff_not]; omega) ?_ | refine N_put entV (T.E) ⟨n, boot, now, Ent.zero.has, Ent.zero.x, Ent.zero.y, Ent.zero.a, Ent.zero.b, Ent.zero.d, Ent.zero.when_⟩ rfl rfl ⟨by omega, by omega⟩ rfl Tryz.underlying108 Tryz.underlying3 ?_ | refine N.forkT ?_ | refine N.forkF ?_ | refine N.forkYes (by decide) ?_ | refine N.forkNo (by decide) ?_ | fail_if_success skip)
  refine N.go ?_
  refine hearClose ⟨T.most, _, setL T.lives n ⟨boot, false, ⟨true, seq, 1⟩⟩⟩ _ β.F q ⟨true, seq, 1⟩ rfl (by rfl) (fun hq => livesOK_new hβ hq _) ?_
  repeat' (refine N.go ?_; first | with_reducible refine N.obl (by decide) ?_ | with_reducible refine N.obl (flat_wi _ _ _) ?_ | with_reducible refine N.obl (flat_lim _ _) ?_ | with_reducible refine N.eq ?_ | with_reducible refine N.obl rfl ?_ | with_reducible refine N.obl ⟨by kernel_rfl, by kernel_rfl⟩ ?_ | with_reducible refine N.alt ?_ | with_reducible refine N.forkT ?_ | with_reducible refine N.forkF ?_ | refine N.obl (.plain rfl) ?_ | refine N.obl ⟨⟨_, rfl, id, Nat.le_refl _, fun j hj => absurd hj (Nat.not_lt_zero j)⟩, trivial⟩ ?_ | refine N.obl trivial ?_ | refine N.obl ⟨⟨.inr ⟨_, rfl, rfl⟩, trivial⟩, trivial⟩ ?_ | exact N.true | fail_if_success skip)
set_option maxRecDepth 100000 in
set_option maxHeartbeats 2000000 in
theorem cHearNNfull (T : Tbl) (n boot seq now : Int) (ha : argsOK n boot seq now) (hl : T.lives n = none) (hth : dGet (T.E) n = none) (hrm : T.most ≤ (T.E).length) (hE : (T.E).length ≤ 64) (hpos : 0 < (T.E).length) (E' : List (Int × Ent)) (hE' : E' = dPut (dDel (T.E) (minT (entT (T.E)) (T.E).length).node) n ⟨n, boot, now, Ent.zero.has, Ent.zero.x, Ent.zero.y, Ent.zero.a, Ent.zero.b, Ent.zero.d, Ent.zero.when_⟩) (i : Nat) (h : List (Option Chunk)) (hi : h[i]? = some (some (tblC T))) :
    CallOK Tryz.prog 18 [.pointer (some ⟨i, 0, some 0⟩), .int .i64 n, .int .i64 boot, .int .i64 seq, .int .i64 now] h (.int .i64 0) [(i, tblC (⟨T.most, E', setL T.lives n ⟨boot, false, ⟨true, seq, 1⟩⟩⟩))] [] := by
  refine call_res (G := tys) (livesOK T.lives) (tblH T) [⟨i, tblC T, tblC T, tblC (⟨T.most, E', setL T.lives n ⟨boot, false, ⟨true, seq, 1⟩⟩⟩)⟩] [] [.pointer (some ⟨0, 0, some 0⟩), .int .i64 n, .int .i64 boot, .int .i64 seq, .int .i64 now] tysOK mixed Tryz.func18 (by rfl) (Tryz.call18) ⟨hi, trivial⟩ ⟨⟨fun h => ⟨rfl, Nat.le_refl _⟩, Nat.le_refl _, fun j hj => absurd hj (Nat.not_lt_zero j)⟩, trivial⟩ (by simp [Apart]) ⟨.inr ⟨rfl, rfl⟩, trivial⟩ trivial ⟨.ptr rfl, .plain rfl, .plain rfl, .plain rfl, .plain rfl, trivial⟩ pack_opens ?_
  intro β hβ
  have hn := ha.1
  have hg := livesOK_none hβ hl
  have hbe : begE T.E n = T.E := by unfold begE; rw [hth]
  subst hE'
  repeat' (refine N.go ?_; first | with_reducible refine N.obl (by decide) ?_ | with_reducible refine N.obl (flat_wi _ _ _) ?_ | with_reducible refine N.obl (flat_lim _ _) ?_ | with_reducible refine N.eq ?_ | with_reducible refine N.obl rfl ?_ | with_reducible refine N.obl ⟨by kernel_rfl, by kernel_rfl⟩ ?_ | with_reducible refine N.alt ?_ | with_reducible refine N.forkT ?_ | with_reducible refine N.forkF ?_ | refine N.call (cTnode _ _) ?_ | refine N.call (cSerMay _ _) ?_ | refine N.call (cTtime _ _) ?_ | refine N.forkNo (by rw [decide_eq_true ha.1]; rfl) ?_ | refine N.forkNo (by rw [decide_eq_true ha.2.1]; rfl) ?_ | refine N.forkNo (by rw [decide_eq_true ha.2.2.1]; rfl) ?_ | refine N.forkNo (by rw [decide_eq_true ha.2.2.2]; rfl) ?_ | fail_if_success skip)
  refine N.go ?_
  refine N.callAll (cBeginNN _ _ _ _ _ _ _ hn hg hth 0 1 2 _ (by rfl) (by rfl) (by rfl) (by decide) 3 (by rfl) (by decide)) fun v ms hR => ?_
  obtain ⟨q, rfl, rfl⟩ := hR
  rw [hbe]
  repeat' (refine N.go ?_; first | with_reducible refine N.obl (by decide) ?_ | with_reducible refine N.obl (flat_wi _ _ _) ?_ | with_reducible refine N.obl (flat_lim _ _) ?_ | with_reducible refine N.eq ?_ | with_reducible refine N.obl rfl ?_ | with_reducible refine N.obl ⟨by kernel_rfl, by kernel_rfl⟩ ?_ | with_reducible refine N.alt ?_ | with_reducible refine N.forkT ?_ | with_reducible refine N.forkF ?_ | refine N_put lifV β.D ⟨boot, false, q⟩ rfl rfl ⟨by omega, by omega⟩ rfl Tryz.underlying109 Tryz.underlying3 ?_ | refine N.call (call_at [.pointer (some ⟨3, 0, some 0⟩), .int .i64 seq] (by rfl) rfl ⟨.ptr, .same _, trivial⟩ (.inr ⟨_, .head _⟩) (cWHear (atX q) Win.zero ⟨true, seq, 1⟩ seq 0 3 (by decide) ha.2.2.1 rfl _ (by rfl))) ?_ | refine N_look entV (T.E) rfl Tryz.underlying108 Tryz.underlying3 Tryz.type74 rfl (.tuple ⟨[entV Ent.zero, .bool false]⟩) (by rw [hth]; rfl) rfl ?_ | refine N_lenM entV (T.E) rfl rfl Tryz.underlying108 ?_ | refine N.forkYes (by rw [decide_eq_true_eq]; omega) ?_ | refine N.call (cElder _ true T.most (T.E) (dPut β.D n ⟨boot, false, q⟩) hE hpos 0 1 2 _ (by rfl) (by rfl) (by rfl) (by decide)) ?_ | refine N_del entV (T.E) rfl rfl rfl Tryz.underlying108 Tryz.underlying3 ?_ | refine N_put entV (dDel (T.E) (minT (entT (T.E)) (T.E).length).node) ⟨n, boot, now, Ent.zero.has, Ent.zero.x, Ent.zero.y, Ent.zero.a, Ent.zero.b, Ent.zero.d, Ent.zero.when_⟩ rfl rfl ⟨by omega, by omega⟩ rfl Tryz.underlying108 Tryz.underlying3 ?_ | refine N.forkT ?_ | refine N.forkF ?_ | refine N.forkYes (by decide) ?_ | refine N.forkNo (by decide) ?_ | fail_if_success skip)
  refine N.go ?_
  refine hearClose ⟨T.most, _, setL T.lives n ⟨boot, false, ⟨true, seq, 1⟩⟩⟩ _ β.F q ⟨true, seq, 1⟩ rfl (by rfl) (fun hq => livesOK_new hβ hq _) ?_
  repeat' (refine N.go ?_; first | with_reducible refine N.obl (by decide) ?_ | with_reducible refine N.obl (flat_wi _ _ _) ?_ | with_reducible refine N.obl (flat_lim _ _) ?_ | with_reducible refine N.eq ?_ | with_reducible refine N.obl rfl ?_ | with_reducible refine N.obl ⟨by kernel_rfl, by kernel_rfl⟩ ?_ | with_reducible refine N.alt ?_ | with_reducible refine N.forkT ?_ | with_reducible refine N.forkF ?_ | refine N.obl (.plain rfl) ?_ | refine N.obl ⟨⟨_, rfl, id, Nat.le_refl _, fun j hj => absurd hj (Nat.not_lt_zero j)⟩, trivial⟩ ?_ | refine N.obl trivial ?_ | refine N.obl ⟨⟨.inr ⟨_, rfl, rfl⟩, trivial⟩, trivial⟩ ?_ | exact N.true | fail_if_success skip)
end Go.Proofs.YtijiggkhnpmaiaaGreat


/-
  Hear, told by one function; what every program must know of tables.
-/
set_option linter.unusedVariables false
set_option linter.unusedSimpArgs false
namespace Go.Proofs.YtijiggkhnpmaiaaGreat
open Go Go.RowKit Sx

instance (n boot seq now : Int) : Decidable (argsOK n boot seq now) := by unfold argsOK; infer_instance
/-- A table as it may be. -/
structure TOK (T : Tbl) : Prop where
  most : 1 ≤ T.most ∧ T.most ≤ 64
  len : T.E.length ≤ T.most
  seen : ∀ n l, T.lives n = some l → l.W.seen < 18446744073709551616
def Tbl.win (T : Tbl) (n boot now : Int) (E : List (Int × Ent)) (W : Win) : Tbl := ⟨T.most, heardE T.most E n boot now, setL T.lives n ⟨boot, false, W⟩⟩
/-- What Hear answers, and the table then. -/
def hearT (T : Tbl) (n boot seq now : Int) : Int × Tbl :=
  if argsOK n boot seq now then
    match T.lives n with
    | none => (0, T.win n boot now (begE T.E n) ⟨true, seq, 1⟩)
    | some l =>
      if l.boot = boot then
        if l.left = true then (9, T)
        else if (whear l.W seq).1 = 0 then (0, T.win n boot now T.E (whear l.W seq).2)
        else (9, ⟨T.most, T.E, setL T.lives n ⟨boot, false, (whear l.W seq).2⟩⟩)
      else if 0 < serD l.boot boot ∧ serD l.boot boot < 32768 then (0, T.win n boot now (begE T.E n) ⟨true, seq, 1⟩)
      else (9, T)
  else (1, T)
theorem whear_err (W : Win) (q : Int) : (whear W q).1 = 0 ∨ (whear W q).1 = 9 := by
  unfold whear
  split
  · exact .inl rfl
  split
  · exact .inr rfl
  split
  · exact .inl rfl
  split
  · exact .inr rfl
  · exact .inl rfl
theorem whear_seen (W : Win) (q : Int) (h : W.seen < 18446744073709551616) : (whear W q).2.seen < 18446744073709551616 := by
  unfold whear
  split
  · show 1 < _; decide
  split
  · exact h
  split
  · exact Nat.or_lt_two_pow (n := 64) (Nat.mod_lt _ (by decide)) (by decide)
  split
  · exact h
  · exact Nat.or_lt_two_pow (n := 64) h (bitW_lt _ _)
theorem len_put {α : Type} (D : List (Int × α)) (k : Int) (a : α) : (dPut D k a).length = if dGet D k = none then D.length + 1 else D.length := by
  unfold dPut
  cases hg : dGet D k with
  | none => simp
  | some b => simp
theorem len_del_le {α : Type} (D : List (Int × α)) (k : Int) : (dDel D k).length ≤ D.length := List.length_filter_le _ _
theorem heard_there {most : Int} {E : List (Int × Ent)} {n boot now : Int} {e : Ent} (h : dGet E n = some e) : heardE most E n boot now = dPut E n ⟨n, boot, now, e.has, e.x, e.y, e.a, e.b, e.d, e.when_⟩ := by
  unfold heardE
  rw [if_neg (by rw [h]; simp), h]; rfl
theorem heard_room {most : Int} {E : List (Int × Ent)} {n boot now : Int} (h : dGet E n = none) (hl : (E.length : Int) < most) : heardE most E n boot now = dPut E n ⟨n, boot, now, false, 0, 0, 0, 0, 0, 0⟩ := by
  unfold heardE
  rw [if_neg (by omega), h]; rfl
theorem heard_full {most : Int} {E : List (Int × Ent)} {n boot now : Int} (h : dGet E n = none) (hl : most ≤ (E.length : Int)) : heardE most E n boot now = dPut (dDel E (minT (entT E) E.length).node) n ⟨n, boot, now, false, 0, 0, 0, 0, 0, 0⟩ := by
  unfold heardE
  rw [if_pos ⟨h, hl⟩, h]; rfl
theorem beg_len (E : List (Int × Ent)) (n : Int) : (begE E n).length = E.length := by
  unfold begE
  cases h : dGet E n with
  | none => rfl
  | some e => simp only; rw [len_put, h]; simp
theorem beg_none {E : List (Int × Ent)} {n : Int} (h : dGet E n = none) : begE E n = E := by unfold begE; rw [h]
theorem beg_some {E : List (Int × Ent)} {n : Int} {e : Ent} (h : dGet E n = some e) : begE E n = dPut E n ⟨n, e.boot, e.heard, false, 0, 0, 0, 0, 0, 0⟩ := by unfold begE; rw [h]
set_option maxHeartbeats 1000000 in
theorem cHear (T : Tbl) (ok : TOK T) (n boot seq now e : Int) (T' : Tbl) (he : hearT T n boot seq now = (e, T')) (i : Nat) (h : List (Option Chunk)) (hi : h[i]? = some (some (tblC T))) :
    CallOK Tryz.prog 18 [.pointer (some ⟨i, 0, some 0⟩), .int .i64 n, .int .i64 boot, .int .i64 seq, .int .i64 now] h (.int .i64 e) [(i, tblC T')] [] := by
  obtain ⟨m1, m2⟩ := ok.most
  have hlen := ok.len
  have hl64 : T.E.length ≤ 64 := by omega
  unfold hearT at he
  by_cases ha : argsOK n boot seq now
  · rw [if_pos ha] at he
    cases hl : T.lives n with
    | none =>
      rw [hl] at he
      obtain ⟨rfl, rfl⟩ := Prod.mk.inj he
      unfold Tbl.win
      cases hE : dGet T.E n with
      | some e0 => rw [beg_some hE]; exact cHearNYthere T n boot seq now ha hl e0 hE _ (heard_there (dGet_put_same _ _ _)) i h hi
      | none =>
        rw [beg_none hE]
        by_cases hr : (T.E.length : Int) < T.most
        · exact cHearNNroom T n boot seq now ha hl hE hr _ (heard_room hE hr) i h hi
        · exact cHearNNfull T n boot seq now ha hl hE (by omega) hl64 (by omega) _ (heard_full hE (by omega)) i h hi
    | some l =>
      rw [hl] at he
      simp only at he
      have hs := ok.seen n l hl
      by_cases hb : l.boot = boot
      · rw [if_pos hb] at he
        cases hlf : l.left with
        | true =>
          rw [if_pos hlf] at he
          obtain ⟨rfl, rfl⟩ := Prod.mk.inj he
          exact cHearA T n boot seq now ha l hl hb hlf i h hi
        | false =>
          rw [if_neg (by rw [hlf]; decide)] at he
          obtain ⟨e1, W1, hw⟩ : ∃ e1 W1, whear l.W seq = (e1, W1) := ⟨_, _, rfl⟩
          have herr := whear_err l.W seq
          rw [hw] at he herr
          simp only at he herr
          rcases herr with rfl | rfl
          · rw [if_pos rfl] at he
            obtain ⟨rfl, rfl⟩ := Prod.mk.inj he
            unfold Tbl.win
            cases hE : dGet T.E n with
            | some e0 => exact cHearKthere T n boot seq now ha l hl hb hlf hs W1 hw e0 hE _ (heard_there hE) i h hi
            | none =>
              by_cases hr : (T.E.length : Int) < T.most
              · exact cHearKroom T n boot seq now ha l hl hb hlf hs W1 hw hE hr _ (heard_room hE hr) i h hi
              · exact cHearKfull T n boot seq now ha l hl hb hlf hs W1 hw hE (by omega) hl64 (by omega) _ (heard_full hE (by omega)) i h hi
          · rw [if_neg (by decide)] at he
            obtain ⟨rfl, rfl⟩ := Prod.mk.inj he
            exact cHearDup T n boot seq now ha l hl hb hlf hs W1 hw i h hi
      · rw [if_neg hb] at he
        by_cases hsd : 0 < serD l.boot boot ∧ serD l.boot boot < 32768
        · rw [if_pos hsd] at he
          obtain ⟨rfl, rfl⟩ := Prod.mk.inj he
          unfold Tbl.win
          cases hE : dGet T.E n with
          | some e0 => rw [beg_some hE]; exact cHearOYthere T n boot seq now ha l hl hb hsd e0 hE _ (heard_there (dGet_put_same _ _ _)) i h hi
          | none =>
            rw [beg_none hE]
            by_cases hr : (T.E.length : Int) < T.most
            · exact cHearONroom T n boot seq now ha l hl hb hsd hE hr _ (heard_room hE hr) i h hi
            · exact cHearONfull T n boot seq now ha l hl hb hsd hE (by omega) hl64 (by omega) _ (heard_full hE (by omega)) i h hi
        · rw [if_neg hsd] at he
          obtain ⟨rfl, rfl⟩ := Prod.mk.inj he
          exact cHearC T n boot seq now ha l hl hb hsd i h hi
  · rw [if_neg ha] at he
    obtain ⟨rfl, rfl⟩ := Prod.mk.inj he
    exact cHearArg T n boot seq now ha i h hi
/-- Entries as they may be: no node twice, each under its own. -/
structure EOK (E : List (Int × Ent)) : Prop where
  nodup : (E.map (·.1)).Nodup
  key : ∀ k e, dGet E k = some e → e.node = k
theorem put_nodup {α : Type} {D : List (Int × α)} {k : Int} {a : α} (h : (D.map (·.1)).Nodup) : ((dPut D k a).map (·.1)).Nodup := by
  unfold dPut
  cases hg : dGet D k with
  | none =>
    simp only [List.map_append, List.map_cons, List.map_nil]
    refine List.nodup_append.2 ⟨h, by simp, fun x hx y hy e => ?_⟩
    simp only [List.mem_singleton] at hy
    obtain ⟨q, hq, rfl⟩ := List.mem_map.1 hx
    exact dGet_none.1 hg q hq (e.trans hy)
  | some b =>
    simp only [List.map_map]
    have : (fun q : Int × α => (if q.1 = k then (k, a) else q).1) = fun q => q.1 := by
      funext q
      by_cases e : q.1 = k
      · rw [if_pos e, e]
      · rw [if_neg e]
    simpa [Function.comp_def, this] using h
theorem del_nodup {α : Type} {D : List (Int × α)} {k : Int} (h : (D.map (·.1)).Nodup) : ((dDel D k).map (·.1)).Nodup := (List.filter_sublist.map _).nodup h
theorem EOK.put {E : List (Int × Ent)} (h : EOK E) (e : Ent) : EOK (dPut E e.node e) := ⟨put_nodup h.nodup, fun k x hx => by
  by_cases hk : k = e.node
  · subst hk; rw [dGet_put_same] at hx; obtain rfl : e = x := by simpa using hx
    rfl
  · rw [dGet_put_ne _ _ hk] at hx; exact h.key k x hx⟩
theorem EOK.del {E : List (Int × Ent)} (h : EOK E) (n : Int) : EOK (dDel E n) := ⟨del_nodup h.nodup, fun k x hx => by
  by_cases hk : k = n
  · subst hk; rw [dGet_del_same] at hx; cases hx
  · rw [dGet_del_ne _ hk] at hx; exact h.key k x hx⟩
theorem EOK.nil : EOK [] := ⟨List.nodup_nil, fun k e h => by simp [dGet] at h⟩
theorem EOK.beg {E : List (Int × Ent)} (h : EOK E) (n : Int) : EOK (begE E n) := by
  cases hg : dGet E n with
  | none => rw [beg_none hg]; exact h
  | some e => rw [beg_some hg]; exact h.put ⟨n, e.boot, e.heard, false, 0, 0, 0, 0, 0, 0⟩
theorem minT_mem (T : Nat → Ent) : ∀ n, 1 ≤ n → ∃ j, j < n ∧ minT T n = T j
  | 0, h => absurd h (by decide)
  | 1, _ => ⟨0, by decide, rfl⟩
  | r + 2, _ => by
    obtain ⟨j, hj, e⟩ := minT_mem T (r + 1) (by omega)
    rw [minT_step T (r + 1) (by omega)]
    split
    · exact ⟨r + 1, by omega, rfl⟩
    · exact ⟨j, by omega, e⟩
theorem entT_at {E : List (Int × Ent)} {j : Nat} (h : j < E.length) : ∃ k e, (sortK E)[j]? = some k ∧ dGet E k = some e ∧ entT E j = e := by
  obtain ⟨k, hk, e0, he0⟩ := sortK_get h
  obtain ⟨e, he⟩ := dGet_has he0
  exact ⟨k, e, hk, he, entT_in hk he⟩
/-- The eldest is there. -/
theorem elder_in {E : List (Int × Ent)} (h : EOK E) (hp : 0 < E.length) : ∃ e, dGet E (minT (entT E) E.length).node = some e ∧ minT (entT E) E.length = e := by
  obtain ⟨j, hj, e1⟩ := minT_mem (entT E) E.length hp
  obtain ⟨k, e, _, he, e2⟩ := entT_at hj
  rw [e1, e2, h.key k e he]; exact ⟨e, he, rfl⟩
theorem del_len {α : Type} {D : List (Int × α)} {k : Int} {a : α} (h : dGet D k = some a) : (dDel D k).length < D.length := by
  have hm := dGet_some h
  induction D with
  | nil => cases hm
  | cons q D ih =>
    unfold dDel
    rw [List.filter_cons]
    by_cases e : q.1 = k
    · rw [if_neg (by simp [e])]
      have := len_del_le D k
      unfold dDel at this
      simp only [List.length_cons]; omega
    · rw [if_pos (by simp [e])]
      have h' : dGet D k = some a := by
        unfold dGet at h ⊢
        rw [List.find?_cons] at h
        simpa [e] using h
      have := ih h' (dGet_some h')
      unfold dDel at this
      simp only [List.length_cons]; omega
theorem heard_ok {most : Int} {E : List (Int × Ent)} (h : EOK E) (n boot now : Int) : EOK (heardE most E n boot now) := by
  unfold heardE
  split
  · exact (h.del _).put { (dGet E n).getD Ent.zero with node := n, boot := boot, heard := now }
  · exact h.put { (dGet E n).getD Ent.zero with node := n, boot := boot, heard := now }
theorem heard_len {most : Int} {E : List (Int × Ent)} (h : EOK E) (n boot now : Int) (hm : 1 ≤ most) (hl : (E.length : Int) ≤ most) : ((heardE most E n boot now).length : Int) ≤ most := by
  cases hg : dGet E n with
  | some e => rw [heard_there hg, len_put, if_neg (by rw [hg]; simp)]; exact hl
  | none =>
    by_cases hr : (E.length : Int) < most
    · rw [heard_room hg hr, len_put, if_pos hg]; omega
    · rw [heard_full hg (by omega)]
      obtain ⟨e, he, _⟩ := elder_in h (by omega)
      have h1 := del_len he
      rw [len_put]
      split <;> omega
theorem hearT_ok {T T' : Tbl} {n boot seq now e : Int} (ok : TOK T) (hk : EOK T.E) (he : hearT T n boot seq now = (e, T')) : TOK T' ∧ EOK T'.E ∧ T'.most = T.most := by
  obtain ⟨m1, m2⟩ := ok.most
  have win : ∀ E W, EOK E → (E.length : Int) ≤ T.most → W.seen < 18446744073709551616 → TOK (T.win n boot now E W) ∧ EOK (T.win n boot now E W).E ∧ (T.win n boot now E W).most = T.most := fun E W hE hl hW => by
    refine ⟨⟨ok.most, heard_len hE n boot now m1 hl, fun m l hl' => ?_⟩, heard_ok hE n boot now, rfl⟩
    unfold Tbl.win setL at hl'
    simp only at hl'
    split at hl'
    · obtain rfl : _ = l := by simpa using hl'
      exact hW
    · exact ok.seen m l hl'
  have hb : ((begE T.E n).length : Int) ≤ T.most := by rw [beg_len]; exact ok.len
  unfold hearT at he
  split at he
  · split at he
    · obtain ⟨rfl, rfl⟩ := Prod.mk.inj he
      exact win _ _ (hk.beg n) hb (by show 1 < _; decide)
    · rename_i l hl
      have hs := ok.seen n l hl
      split at he
      · split at he
        · obtain ⟨rfl, rfl⟩ := Prod.mk.inj he; exact ⟨ok, hk, rfl⟩
        · split at he
          · obtain ⟨rfl, rfl⟩ := Prod.mk.inj he
            exact win _ _ hk ok.len (whear_seen _ _ hs)
          · obtain ⟨rfl, rfl⟩ := Prod.mk.inj he
            refine ⟨⟨ok.most, ok.len, fun m l' hl' => ?_⟩, hk, rfl⟩
            unfold setL at hl'
            simp only at hl'
            split at hl'
            · obtain rfl : _ = l' := by simpa using hl'
              exact whear_seen _ _ hs
            · exact ok.seen m l' hl'
      · split at he
        · obtain ⟨rfl, rfl⟩ := Prod.mk.inj he
          exact win _ _ (hk.beg n) hb (by show 1 < _; decide)
        · obtain ⟨rfl, rfl⟩ := Prod.mk.inj he; exact ⟨ok, hk, rfl⟩
  · obtain ⟨rfl, rfl⟩ := Prod.mk.inj he; exact ⟨ok, hk, rfl⟩
theorem new_ok (most : Int) : TOK (Tbl.new most) ∧ EOK (Tbl.new most).E := ⟨⟨by unfold Tbl.new; simp only; omega, by unfold Tbl.new; simp only [List.length_nil]; omega, fun n l h => by cases h⟩, EOK.nil⟩
end Go.Proofs.YtijiggkhnpmaiaaGreat


/-
  What every program must know of tables.
-/
set_option linter.unusedVariables false
set_option linter.unusedSimpArgs false
namespace Go.Proofs.YtijiggkhnpmaiaaGreat
open Go Go.RowKit Sx

theorem rdf_en {o : Bool} {c p n : Nat} {T : Nat → Ent} {v : Value} (i k : Nat) (h : i < c) (hk : k < 10) (e : p = i * 10 + k) (hv : encell (T i) k = v) (h1 : v.oneCell' = true) : Reads (enC o c T) p false n v := by
  subst e
  refine ⟨by show i * 10 + k < c * 10; omega, h1, ?_⟩
  rw [enC_f (by omega), show (i * 10 + k) / 10 = i from by omega, show (i * 10 + k) % 10 = k from by omega]
  exact hv
theorem hear_new {T : Tbl} {n boot seq now : Int} (ha : argsOK n boot seq now) (hl : T.lives n = none) (hE : dGet T.E n = none) : hearT T n boot seq now = (0, T.win n boot now T.E ⟨true, seq, 1⟩) := by
  unfold hearT; rw [if_pos ha, hl, beg_none hE]
theorem sortK_one {α : Type} (k : Int) (a : α) : sortK [(k, a)] = [k] := by simp [sortK]
theorem awk : ∃ T1 T2 T3 : Tbl, ∃ e : Ent, hearT (Tbl.new 1) 3 0 0 5 = (0, T1) ∧ hearT T1 4 0 0 6 = (0, T2) ∧ hearT T2 3 0 0 7 = (9, T3) ∧ T3.E = [(4, e)] ∧ e.node = 4 := by
  have n1 : hearT (Tbl.new 1) 3 0 0 5 = (0, (Tbl.new 1).win 3 0 5 [] ⟨true, 0, 1⟩) := hear_new (by decide) rfl rfl
  have e1 : ((Tbl.new 1).win 3 0 5 [] ⟨true, 0, 1⟩).E = [(3, ⟨3, 0, 5, false, 0, 0, 0, 0, 0, 0⟩)] := by
    show heardE (Tbl.new 1).most [] 3 0 5 = _
    rw [heard_room rfl (by decide)]; rfl
  generalize hT1 : (Tbl.new 1).win 3 0 5 [] ⟨true, 0, 1⟩ = T1 at n1 e1
  have m1 : T1.most = 1 := by rw [← hT1]; rfl
  have l1 : T1.lives 3 = some ⟨0, false, ⟨true, 0, 1⟩⟩ := by rw [← hT1]; rfl
  have l1' : T1.lives 4 = none := by rw [← hT1]; rfl
  have n2 : hearT T1 4 0 0 6 = (0, T1.win 4 0 6 T1.E ⟨true, 0, 1⟩) := hear_new (by decide) l1' (by rw [e1]; rfl)
  have e2 : (T1.win 4 0 6 T1.E ⟨true, 0, 1⟩).E = [(4, ⟨4, 0, 6, false, 0, 0, 0, 0, 0, 0⟩)] := by
    show heardE T1.most T1.E 4 0 6 = _
    rw [m1, e1, heard_full (by rfl) (by decide)]
    have hm : minT (entT [((3 : Int), (⟨3, 0, 5, false, 0, 0, 0, 0, 0, 0⟩ : Ent))]) 1 = ⟨3, 0, 5, false, 0, 0, 0, 0, 0, 0⟩ := entT_in (k := 3) (by rw [sortK_one]; rfl) rfl
    show dPut (dDel _ (minT (entT _) 1).node) 4 _ = _
    rw [hm]; rfl
  generalize hT2 : T1.win 4 0 6 T1.E ⟨true, 0, 1⟩ = T2 at n2 e2
  have l2 : T2.lives 3 = some ⟨0, false, ⟨true, 0, 1⟩⟩ := by rw [← hT2]; exact l1
  have n3 : hearT T2 3 0 0 7 = (9, ⟨T2.most, T2.E, setL T2.lives 3 ⟨0, false, ⟨true, 0, 1⟩⟩⟩) := by
    have hw : whear ⟨true, 0, 1⟩ 0 = (9, ⟨true, 0, 1⟩) := by rfl
    unfold hearT
    rw [if_pos (by decide), l2]
    simp only [hw]
    rfl
  exact ⟨T1, T2, _, _, n1, n2, n3, e2, rfl⟩
end Go.Proofs.YtijiggkhnpmaiaaGreat


/-
  Numbers by their digits to the base 2^64: what addition, comparison, shifts, division by one digit do to the digits.
-/
set_option linter.unusedVariables false
namespace Go.Proofs.YtijiggkhnpmaiaaGreat

/-- The base. -/
abbrev Bs : Nat := 18446744073709551616
theorem bs_pos : 0 < Bs := by decide
theorem bsp_pos (n : Nat) : 0 < Bs ^ n := Nat.pow_pos bs_pos

/-- The j-th digit. -/
def dg (v j : Nat) : Nat := v / Bs ^ j % Bs
theorem dg_lt (v j : Nat) : dg v j < 18446744073709551616 := Nat.mod_lt _ bs_pos
theorem dg_zero (j : Nat) : dg 0 j = 0 := by simp [dg]
theorem dg_step (v j : Nat) : v / Bs ^ j = v / Bs ^ (j + 1) * Bs + dg v j := by
  unfold dg
  rw [Nat.pow_succ, ← Nat.div_div_eq_div_mul]
  have := Nat.div_add_mod (v / Bs ^ j) Bs
  rw [Nat.mul_comm]; exact this.symm
theorem mod_step (v j : Nat) : v % Bs ^ (j + 1) = v % Bs ^ j + Bs ^ j * dg v j := by
  unfold dg
  rw [Nat.pow_succ, Nat.mod_mul]
theorem dg_big (v j : Nat) (h : v < Bs ^ j) : dg v j = 0 := by
  unfold dg; rw [Nat.div_eq_of_lt h]; rfl
theorem dg_mod (v n j : Nat) (h : j < n) : dg (v % Bs ^ n) j = dg v j := by
  unfold dg
  obtain ⟨k, rfl⟩ : ∃ k, n = j + (k + 1) := ⟨n - j - 1, by omega⟩
  rw [Nat.pow_add, Nat.mod_mul_right_div_self, Nat.pow_succ, Nat.mul_comm (Bs ^ k), Nat.mod_mul_right_mod]
theorem eq_of_dg (n a b : Nat) (ha : a < Bs ^ n) (hb : b < Bs ^ n) (h : ∀ j, j < n → dg a j = dg b j) : a = b := by
  have key : ∀ m, m ≤ n → a % Bs ^ m = b % Bs ^ m := by
    intro m
    induction m with
    | zero => intro _; simp [Nat.mod_one]
    | succ m ih => intro hm; rw [mod_step, mod_step, ih (by omega), h m (by omega)]
  have := key n (Nat.le_refl _)
  rwa [Nat.mod_eq_of_lt ha, Nat.mod_eq_of_lt hb] at this

/-- The carry into the i-th digit. -/
def cry (a b i : Nat) : Nat := (a % Bs ^ i + b % Bs ^ i) / Bs ^ i
theorem cry_zero (a b : Nat) : cry a b 0 = 0 := by simp [cry, Nat.mod_one]
theorem cry_le (a b i : Nat) : cry a b i ≤ 1 := by
  unfold cry
  have h1 := Nat.mod_lt a (bsp_pos i)
  have h2 := Nat.mod_lt b (bsp_pos i)
  have : (a % Bs ^ i + b % Bs ^ i) / Bs ^ i < 2 := (Nat.div_lt_iff_lt_mul (bsp_pos i)).2 (by omega)
  omega
theorem cry_step (a b i : Nat) : dg a i + dg b i + cry a b i = dg (a + b) i + Bs * cry a b (i + 1) := by
  have e1 : ∀ m, a + b = (a / Bs ^ m + b / Bs ^ m + cry a b m) * Bs ^ m + (a % Bs ^ m + b % Bs ^ m) % Bs ^ m := by
    intro m
    have ha := Nat.div_add_mod a (Bs ^ m)
    have hb := Nat.div_add_mod b (Bs ^ m)
    have hc := Nat.div_add_mod (a % Bs ^ m + b % Bs ^ m) (Bs ^ m)
    unfold cry
    generalize Bs ^ m = q at *
    rw [Nat.add_mul, Nat.add_mul, Nat.mul_comm (a / q), Nat.mul_comm (b / q), Nat.mul_comm _ q]
    omega
  have e2 : ∀ m, (a + b) / Bs ^ m = a / Bs ^ m + b / Bs ^ m + cry a b m := by
    intro m
    have h := e1 m
    have hr := Nat.mod_lt (a % Bs ^ m + b % Bs ^ m) (bsp_pos m)
    rw [h, Nat.mul_comm, Nat.mul_add_div (bsp_pos m), Nat.div_eq_of_lt hr, Nat.add_zero]
  have s0 := dg_step a i
  have s1 := dg_step b i
  have s2 := dg_step (a + b) i
  have q0 := e2 i
  have q1 := e2 (i + 1)
  rw [q0, q1] at s2
  generalize a / Bs ^ (i + 1) = x at *
  generalize b / Bs ^ (i + 1) = y at *
  generalize cry a b (i + 1) = z at *
  generalize cry a b i = u at *
  simp only [Bs] at *
  omega
theorem cry_dig (a b i : Nat) : (dg a i + dg b i + cry a b i) % 18446744073709551616 = dg (a + b) i := by
  have := cry_step a b i
  have h := dg_lt (a + b) i
  simp only [Bs] at this
  omega
theorem cry_next (a b i : Nat) : (dg a i + dg b i + cry a b i) / 18446744073709551616 = cry a b (i + 1) := by
  have := cry_step a b i
  have h := dg_lt (a + b) i
  simp only [Bs] at this
  omega

theorem div_gen (x d b B : Nat) (hd : d < B) (hb : 0 < b) : (x % b * B + d) / b = (x * B + d) / b % B ∧ (x % b * B + d) % b = (x * B + d) % b := by
  have hq := Nat.div_add_mod x b
  have hr := Nat.mod_lt x hb
  have e : x * B + d = b * (x / b * B) + (x % b * B + d) := by
    have h : x * B = b * (x / b) * B + x % b * B := by rw [← Nat.add_mul, hq]
    rw [h, Nat.mul_assoc, Nat.add_assoc]
  have hlt : (x % b * B + d) / b < B := by
    rw [Nat.div_lt_iff_lt_mul hb]
    have : (x % b + 1) * B ≤ b * B := Nat.mul_le_mul_right _ hr
    rw [Nat.add_mul] at this
    rw [Nat.mul_comm B b]
    omega
  constructor
  · rw [e, Nat.mul_add_div hb, Nat.mul_comm (x / b) B, Nat.mul_add_mod, Nat.mod_eq_of_lt hlt]
  · rw [e, Nat.mul_add_mod]

/-- The digits of what remains of a division by one digit, from the top. -/
theorem div_step (a b i : Nat) (hb : 0 < b) : (a / Bs ^ (i + 1) % b * 18446744073709551616 + dg a i) / b = dg (a / b) i ∧ (a / Bs ^ (i + 1) % b * 18446744073709551616 + dg a i) % b = a / Bs ^ i % b := by
  have h := div_gen (a / Bs ^ (i + 1)) (dg a i) b Bs (dg_lt a i) hb
  rw [← dg_step] at h
  refine ⟨?_, h.2⟩
  have h1 := h.1
  unfold dg at *
  rw [h1, Nat.div_div_eq_div_mul, Nat.div_div_eq_div_mul, Nat.mul_comm]

/-- The shift by less than a digit, down: what the i-th digit of the result is. -/
theorem shr_step (a i k : Nat) (hk : k < 64) : dg (a / 2 ^ k) i = dg a i / 2 ^ k + dg a (i + 1) * 2 ^ (64 - k) % 18446744073709551616 := by
  have e : Bs = 2 ^ k * 2 ^ (64 - k) := by rw [← Nat.pow_add, show k + (64 - k) = 64 from by omega]
  have s := dg_step a i
  have s1 := dg_step a (i + 1)
  have hd := dg_lt a i
  unfold dg at s1 s hd ⊢
  rw [Nat.div_div_eq_div_mul, Nat.mul_comm (2 ^ k), ← Nat.div_div_eq_div_mul]
  generalize a / Bs ^ i % Bs = d0 at *
  generalize a / Bs ^ (i + 1) % Bs = d1 at *
  generalize a / Bs ^ (i + 1) = x at *
  generalize a / Bs ^ (i + 1 + 1) = y at *
  rw [s, s1]
  have hp : 0 < 2 ^ k := Nat.pow_pos (by decide)
  have hp2 : 0 < 2 ^ (64 - k) := Nat.pow_pos (by decide)
  generalize 2 ^ k = p at *
  generalize 2 ^ (64 - k) = q at *
  show _ = d0 / p + d1 * q % Bs
  have hd' : d0 < Bs := hd
  clear s s1 hd hk
  generalize Bs = B at *
  subst e
  rw [show (y * (p * q) + d1) * (p * q) + d0 = p * ((y * (p * q) + d1) * q) + d0 from by rw [Nat.mul_left_comm], Nat.mul_add_div hp]
  have hq : d0 / p < q := by rw [Nat.div_lt_iff_lt_mul hp, Nat.mul_comm]; exact hd'
  have h2 : (y * (p * q) + d1) * q + d0 / p = (p * q) * (y * q) + (d1 * q + d0 / p) := by
    rw [Nat.add_mul, Nat.mul_comm y (p * q), Nat.mul_assoc (p * q), Nat.add_assoc]
  rw [h2, Nat.mul_add_mod]
  have h3 := Nat.div_add_mod (d1 * q) (p * q)
  have h4 : d1 * q % (p * q) = d1 % p * q := by rw [Nat.mul_mod_mul_right]
  have h5 : d1 % p * q + d0 / p < p * q := by
    have := Nat.mod_lt d1 hp
    have : (d1 % p + 1) * q ≤ p * q := Nat.mul_le_mul_right _ this
    rw [Nat.add_mul] at this
    omega
  rw [show d1 * q + d0 / p = p * q * (d1 * q / (p * q)) + (d1 * q % (p * q) + d0 / p) from by omega, Nat.mul_add_mod, h4, Nat.mod_eq_of_lt h5]
  omega
end Go.Proofs.YtijiggkhnpmaiaaGreat


/-
  Arrays of sixteen digits in memory: a row of cells, what it reads as, what a store makes of it.
-/
set_option linter.unusedVariables false
set_option linter.unusedSimpArgs false
namespace Go.Proofs.YtijiggkhnpmaiaaGreat
open Go.RowKit

/-- The cells of an array of digits. -/
def lim (n : Nat) (f : Nat → Nat) : Array Value := ((List.range n).map fun j => Value.int .u64 ((f j : Nat) : Int)).toArray
@[simp] theorem lim_size (n : Nat) (f : Nat → Nat) : (lim n f).size = n := by simp [lim]
theorem lim_get (n : Nat) (f : Nat → Nat) (j : Nat) (h : j < n) : (lim n f)[j]? = some (.int .u64 ((f j : Nat) : Int)) := by
  simp [lim, h]
theorem lim_one (n : Nat) (f : Nat → Nat) : (lim n f).all (·.oneCell') = true := by
  rw [Array.all_eq_true_iff_forall_mem]
  intro x hx
  simp only [lim, List.mem_toArray, List.mem_map] at hx
  obtain ⟨j, _, rfl⟩ := hx
  rfl
theorem lim_set (n : Nat) (f g : Nat → Nat) (i : Nat) (v : Int) (hi : i < n) (hv : v = ((g i : Nat) : Int)) (h : ∀ j, j < n → j ≠ i → f j = g j) : (lim n f).setIfInBounds i (.int .u64 v) = lim n g := by
  apply Array.ext_getElem?
  intro j
  rw [Array.getElem?_setIfInBounds]
  by_cases hj : j < n
  · rw [lim_get n g j hj]
    split
    · rename_i e; subst e; rw [if_pos (by simpa using hj), hv]
    · rename_i e; rw [lim_get n f j hj, h j hj (Ne.symm e)]
  · rw [Array.getElem?_eq_none (by simp; omega), Array.getElem?_eq_none (by simp; omega), if_neg (by omega)]
theorem lim_same (n : Nat) (f g : Nat → Nat) (h : ∀ j, j < n → f j = g j) : lim n f = lim n g := by
  unfold lim
  congr 1
  apply List.map_congr_left
  intro j hj
  rw [h j (by simpa using hj)]

/-- A number of sixteen digits as its cells. -/
def sz (v : Nat) : Array Value := lim 16 (dg v)
@[simp] theorem sz_size (v : Nat) : (sz v).size = 16 := lim_size _ _
theorem sz_get (v j : Nat) (h : j < 16) : (sz v)[j]? = some (.int .u64 ((dg v j : Nat) : Int)) := lim_get _ _ _ h
theorem sz_one (v : Nat) : (sz v).all (·.oneCell') = true := lim_one _ _
theorem sz_zero : sz 0 = #[.int .u64 0, .int .u64 0, .int .u64 0, .int .u64 0, .int .u64 0, .int .u64 0, .int .u64 0, .int .u64 0, .int .u64 0, .int .u64 0, .int .u64 0, .int .u64 0, .int .u64 0, .int .u64 0, .int .u64 0, .int .u64 0] := by
  unfold sz
  rw [lim_same 16 (dg 0) (fun _ => 0) (fun j _ => dg_zero j)]
  rfl
theorem dg_small (v : Nat) (h : v < 18446744073709551616) (j : Nat) : dg v j = if j = 0 then v else 0 := by
  split
  · subst j; simp [dg]; exact h
  · apply dg_big
    exact Nat.lt_of_lt_of_le h (Nat.le_self_pow (by omega) Bs)
theorem sz_small (v : Nat) (h : v < 18446744073709551616) : sz v = #[.int .u64 v, .int .u64 0, .int .u64 0, .int .u64 0, .int .u64 0, .int .u64 0, .int .u64 0, .int .u64 0, .int .u64 0, .int .u64 0, .int .u64 0, .int .u64 0, .int .u64 0, .int .u64 0, .int .u64 0, .int .u64 0] := by
  unfold sz
  rw [lim_same 16 (dg v) (fun j => if j = 0 then v else 0) (fun j _ => dg_small v h j)]
  rfl

/-- A number with its sign, or over, as its cells. -/
def wi (neg over : Bool) (v : Nat) : Array Value := #[.bool neg, .bool over] ++ sz v
@[simp] theorem wi_size (neg over : Bool) (v : Nat) : (wi neg over v).size = 18 := by simp [wi]
theorem wi_neg (neg over : Bool) (v : Nat) : (wi neg over v)[0]? = some (.bool neg) := by simp [wi, Array.getElem?_append]
theorem wi_over (neg over : Bool) (v : Nat) : (wi neg over v)[1]? = some (.bool over) := by simp [wi, Array.getElem?_append]
theorem wi_get (neg over : Bool) (v j : Nat) (h : j < 16) : (wi neg over v)[2 + j]? = some (.int .u64 ((dg v j : Nat) : Int)) := by
  rw [wi, Array.getElem?_append, if_neg (by simp), show 2 + j - #[Value.bool neg, Value.bool over].size = j from by simp]
  exact sz_get v j h
theorem wi_one (neg over : Bool) (v : Nat) : (wi neg over v).all (·.oneCell') = true := by
  unfold wi
  rw [Array.all_append, sz_one]; simp [Value.oneCell']

/-- The block g is a row of the cells cs. -/
def IsRow (w : World) (g : Nat) (t : TypeId) (cs : Array Value) : Prop := w.heap[g]? = some (.cells cs t (0, 0))

section
variable {w : World} {g : Nat} {t : TypeId} {cs : Array Value}
theorem IsRow.lt (h : IsRow w g t cs) : g < w.heap.size := (Array.getElem?_eq_some_iff.1 h).1
theorem IsRow.cell (h : IsRow w g t cs) {j : Nat} {v : Value} (hv : cs[j]? = some v) : w.cell? ⟨g, j, none⟩ = some v := by
  rw [cell_of_row w g j cs t _ h]; exact hv
theorem IsRow.frozen (h : IsRow w g t cs) (j : Nat) : w.frozen? ⟨g, j, none⟩ = false := by
  simp [World.frozen?, show w.heap[g]? = some (.cells cs t (0, 0)) from h]
theorem IsRow.alloc (h : IsRow w g t cs) (o : Obj) : IsRow (w.alloc o) g t cs := by
  have := h.lt
  unfold IsRow World.alloc at *
  simp only [Array.getElem?_push]
  rw [if_neg (by omega)]; exact h
theorem IsRow.drew (h : IsRow w g t cs) : IsRow w.drew g t cs := h
theorem IsRow.drewN (h : IsRow w g t cs) (n : Nat) : IsRow (w.drewN n) g t cs := h
theorem IsRow.new (w : World) (cs : Array Value) (t : TypeId) : IsRow (w.alloc (.cells cs t)) w.heap.size t cs := by
  unfold IsRow World.alloc; simp
theorem IsRow.set (h : IsRow w g t cs) (i : Nat) (v : Value) : IsRow (w.setCell ⟨g, i, none⟩ v) g t (cs.setIfInBounds i v) := by
  unfold IsRow
  rw [setCell_eq_setRow w g i cs t _ v h]
  exact setRow_heap w g cs _ t _ h
theorem IsRow.setOther (h : IsRow w g t cs) (a : Addr) (v : Value) (hne : a.block ≠ g) : IsRow (w.setCell a v) g t cs := by
  unfold IsRow World.setCell at *
  simp only [Array.getElem?_modify]
  rw [if_neg hne]; exact h
theorem IsRow.row (h : IsRow w g t cs) (ds : Array Value) : IsRow (w.setRow g ds) g t ds := setRow_heap w g cs ds t _ h
theorem IsRow.rowOther (h : IsRow w g t cs) (k : Nat) (ds : Array Value) (hne : g ≠ k) : IsRow (w.setRow k ds) g t cs := (setRow_other w k g ds hne).trans h
theorem IsRow.below {w' : World} {B : Nat} (h : IsRow w g t cs) (hb : Below B w w') (hg : g < B) : IsRow w' g t cs := (hb.block g hg).trans h
end

/-- Sixteen digits of v lie at offset o of the block g. -/
def Digs (w : World) (g o v : Nat) : Prop := ∀ j, j < 16 → w.cell? ⟨g, o + j, none⟩ = some (.int .u64 ((dg v j : Nat) : Int))
theorem Digs.of_sz {w : World} {g : Nat} {t : TypeId} {v : Nat} (h : IsRow w g t (sz v)) : Digs w g 0 v := fun j hj => by
  rw [Nat.zero_add]; exact h.cell (sz_get v j hj)
theorem Digs.of_wi {w : World} {g : Nat} {t : TypeId} {neg over : Bool} {v : Nat} (h : IsRow w g t (wi neg over v)) : Digs w g 2 v := fun j hj => h.cell (wi_get neg over v j hj)
theorem Digs.lt {w : World} {g o v : Nat} (h : Digs w g o v) : g < w.heap.size := World.block_lt_of_cell? _ _ (h 0 (by omega))
theorem Digs.below {w w' : World} {g o v B : Nat} (h : Digs w g o v) (hb : Below B w w') (hg : g < B) : Digs w' g o v := fun j hj => (hb.cell (p := ⟨g, o + j, none⟩) hg).trans (h j hj)

/-- A value that is built, told as its cells. -/
theorem wpList_build1 {P : Program} {ops : Array Oper} {rest : List Oper} {o : Oper} {a : Act} {w : World} {Q : Exit → Act → World → Prop} (hg : o.guard = none) (t : TypeId) (i : Nat) (x : Operand) (ho : o.op = .build t #[(i, x)])
    (v : Value) (hv : a.eval x = v) (cs : Array Value) (hb : P.built t [(i, v)] = some cs)
    (h : wpList P ops Q rest (a.put o.dst (.agg cs)) w) : wpList P ops Q (o :: rest) a w := by
  subst hv
  have e : ((#[(i, x)] : Array (Nat × Operand)).map fun (i, x) => (i, a.eval x)).toList = [(i, a.eval x)] := by simp
  refine wpList_build hg t _ ho ?_ ?_
  · rw [e, hb]; rfl
  · rw [e, hb]; exact h
theorem wpList_build2 {P : Program} {ops : Array Oper} {rest : List Oper} {o : Oper} {a : Act} {w : World} {Q : Exit → Act → World → Prop} (hg : o.guard = none) (t : TypeId) (i j : Nat) (x y : Operand) (ho : o.op = .build t #[(i, x), (j, y)])
    (u v : Value) (hu : a.eval x = u) (hv : a.eval y = v) (cs : Array Value) (hb : P.built t [(i, u), (j, v)] = some cs)
    (h : wpList P ops Q rest (a.put o.dst (.agg cs)) w) : wpList P ops Q (o :: rest) a w := by
  subst hu hv
  have e : ((#[(i, x), (j, y)] : Array (Nat × Operand)).map fun (i, x) => (i, a.eval x)).toList = [(i, a.eval x), (j, a.eval y)] := by simp
  refine wpList_build hg t _ ho ?_ ?_
  · rw [e, hb]; rfl
  · rw [e, hb]; exact h
theorem wpList_build0 {P : Program} {ops : Array Oper} {rest : List Oper} {o : Oper} {a : Act} {w : World} {Q : Exit → Act → World → Prop} (hg : o.guard = none) (t : TypeId) (ho : o.op = .build t #[])
    (cs : Array Value) (hb : P.built t [] = some cs)
    (h : wpList P ops Q rest (a.put o.dst (.agg cs)) w) : wpList P ops Q (o :: rest) a w := by
  have e : ((#[] : Array (Nat × Operand)).map fun (i, x) => (i, a.eval x)).toList = [] := by simp
  refine wpList_build hg t _ ho ?_ ?_
  · rw [e, hb]; rfl
  · rw [e, hb]; exact h

/-- A part of a row that is read as a whole. -/
theorem run_loadVar_part {P : Program} (w : World) (g o : Nat) (ty : TypeId) (cs : Array Value) (d : TypeDesc) (hc : ∀ j v, cs[j]? = some v → w.cell? ⟨g, o + j, none⟩ = some v)
    (hu : P.underlying ty = some d) (hd : (match d with | .struct _ | .array _ _ => true | _ => false) = true) (hi : (P.info? ty).map (·.size) = some cs.size) :
    (loadVar ty ⟨g, o, none⟩).run P w = .ok (.agg cs) w := by
  have hl : (loadCells ⟨g, o, none⟩ cs.toList.length).run P w = .ok cs.toList.toArray w :=
    run_loadCells_list (P := P) w ⟨g, o, none⟩ cs.toList (fun j v hv => by
      have hadd : (⟨g, o, none⟩ : Addr).add j = ⟨g, o + j, none⟩ := by unfold Addr.add; split <;> simp_all
      rw [hadd]
      exact hc j v (by simpa using hv))
  cases hq : P.info? ty with
  | none => simp [hq] at hi
  | some i =>
    have hs : i.size = cs.size := by simpa [hq] using hi
    have hagg : (isAgg ty).run P w = .ok true w := by
      unfold isAgg
      rw [Sem.run_bind, run_underlying hu w]
      cases d <;> simp_all
    simp only [Array.length_toList, Array.toArray_toList] at hl
    simp [loadVar, Sem.run_bind, hagg, sizeOf, typeInfo, hq, hs, hl]
theorem wpList_load_part {P : Program} {ops : Array Oper} {rest : List Oper} {o : Oper} {a : Act} {w : World} {Q : Exit → Act → World → Prop} (hgd : o.guard = none) (ty : TypeId) (x : Operand) (ho : o.op = .load ty x)
    (g k : Nat) (hx : a.eval x = .pointer (some ⟨g, k, none⟩)) (cs : Array Value) (d : TypeDesc) (hc : ∀ j v, cs[j]? = some v → w.cell? ⟨g, k + j, none⟩ = some v)
    (hu : P.underlying ty = some d) (hd : (match d with | .struct _ | .array _ _ => true | _ => false) = true) (hi : (P.info? ty).map (·.size) = some cs.size)
    (h : wpList P ops Q rest (a.put o.dst (.agg cs)) w) : wpList P ops Q (o :: rest) a w :=
  wpList_plain hgd fun _ hK => by
    unfold Oper.wp execOp
    simp only [ho, hx, Instr.loadAt, Instr.sureAddr, Sem.run_bind, Sem.run_pure, Result.andThen_ok, run_loadVar_part w g k ty cs d hc hu hd hi]
    exact hK _ _ h
theorem Digs.cells {w : World} {g o v : Nat} (h : Digs w g o v) : ∀ j u, (sz v)[j]? = some u → w.cell? ⟨g, o + j, none⟩ = some u := fun j u hu => by
  have hj : j < 16 := by
    rcases Nat.lt_or_ge j 16 with h | h
    · exact h
    · rw [Array.getElem?_eq_none (by simpa using h)] at hu; cases hu
  rw [sz_get v j hj] at hu
  rw [h j hj]; exact hu

/-! The same steps in a region that only reads -/
section
variable {P : Program} {ops : Array Oper} {rest : List Oper} {o : Oper} {a : Act} {w : World} {Q : Act → Prop}
theorem wpStill_load_row (hw : Region.wanted o (yielded ops a.tmps) = true) (ty : TypeId) (x : Operand) (ho : o.op = .load ty x)
    (g : Nat) (hx : a.eval x = .pointer (some ⟨g, 0, none⟩)) (t : TypeId) (cs : Array Value) (fr : Nat × Nat) (d : TypeDesc) (hg : w.heap[g]? = some (.cells cs t fr))
    (hu : P.underlying ty = some d) (hd : (match d with | .struct _ | .array _ _ => true | _ => false) = true) (hi : (P.info? ty).map (·.size) = some cs.size)
    (h : wpStill P ops w Q rest (a.put o.dst (.agg cs))) : wpStill P ops w Q (o :: rest) a := by
  unfold wpStill
  rw [if_pos hw]
  unfold Oper.still execOp
  simp only [ho, hx, Instr.loadAt, Instr.sureAddr, Sem.run_bind, Sem.run_pure, Result.andThen_ok, run_loadVar_row w g t ty cs fr d hg hu hd hi]
  exact ⟨rfl, h⟩
theorem wpStill_load_part (hw : Region.wanted o (yielded ops a.tmps) = true) (ty : TypeId) (x : Operand) (ho : o.op = .load ty x)
    (g k : Nat) (hx : a.eval x = .pointer (some ⟨g, k, none⟩)) (cs : Array Value) (d : TypeDesc) (hc : ∀ j v, cs[j]? = some v → w.cell? ⟨g, k + j, none⟩ = some v)
    (hu : P.underlying ty = some d) (hd : (match d with | .struct _ | .array _ _ => true | _ => false) = true) (hi : (P.info? ty).map (·.size) = some cs.size)
    (h : wpStill P ops w Q rest (a.put o.dst (.agg cs))) : wpStill P ops w Q (o :: rest) a := by
  unfold wpStill
  rw [if_pos hw]
  unfold Oper.still execOp
  simp only [ho, hx, Instr.loadAt, Instr.sureAddr, Sem.run_bind, Sem.run_pure, Result.andThen_ok, run_loadVar_part w g k ty cs d hc hu hd hi]
  exact ⟨rfl, h⟩
theorem wpStill_build0 (hw : Region.wanted o (yielded ops a.tmps) = true) (t : TypeId) (ho : o.op = .build t #[])
    (cs : Array Value) (hb : P.built t [] = some cs)
    (h : wpStill P ops w Q rest (a.put o.dst (.agg cs))) : wpStill P ops w Q (o :: rest) a := by
  have e : ((#[] : Array (Nat × Operand)).map fun (i, x) => (i, a.eval x)).toList = [] := by simp
  unfold wpStill
  rw [if_pos hw]
  unfold Oper.still execOp
  simp only [ho, Sem.run_bind, run_build w t _ cs (e ▸ hb), Result.andThen_ok]
  exact ⟨rfl, h⟩
theorem wpStill_build2 (hw : Region.wanted o (yielded ops a.tmps) = true) (t : TypeId) (i j : Nat) (x y : Operand) (ho : o.op = .build t #[(i, x), (j, y)])
    (u v : Value) (hu : a.eval x = u) (hv : a.eval y = v) (cs : Array Value) (hb : P.built t [(i, u), (j, v)] = some cs)
    (h : wpStill P ops w Q rest (a.put o.dst (.agg cs))) : wpStill P ops w Q (o :: rest) a := by
  subst hu hv
  have e : ((#[(i, x), (j, y)] : Array (Nat × Operand)).map fun (i, x) => (i, a.eval x)).toList = [(i, a.eval x), (j, a.eval y)] := by simp
  unfold wpStill
  rw [if_pos hw]
  unfold Oper.still execOp
  simp only [ho, Sem.run_bind, run_build w t _ cs (e ▸ hb), Result.andThen_ok]
  exact ⟨rfl, h⟩
end

/-! Which operation stands next (tried ahead of the laws above) -/
section
variable {P : Program} {ops : Array Oper} {rest : List Oper} {o : Oper} {a : Act} {w : World}
theorem isLoadS {Q : Act → Prop} {ty : TypeId} {x : Operand} (ho : o.op = .load ty x) (h : wpStill P ops w Q (o :: rest) a) : wpStill P ops w Q (o :: rest) a := h
theorem isBuildS {Q : Act → Prop} {ty : TypeId} {ps : Array (Nat × Operand)} (ho : o.op = .build ty ps) (h : wpStill P ops w Q (o :: rest) a) : wpStill P ops w Q (o :: rest) a := h
theorem isLoadL {Q : Exit → Act → World → Prop} {ty : TypeId} {x : Operand} (ho : o.op = .load ty x) (h : wpList P ops Q (o :: rest) a w) : wpList P ops Q (o :: rest) a w := h
theorem isBuildL {Q : Exit → Act → World → Prop} {ty : TypeId} {ps : Array (Nat × Operand)} (ho : o.op = .build ty ps) (h : wpList P ops Q (o :: rest) a w) : wpList P ops Q (o :: rest) a w := h
theorem isStoreL {Q : Exit → Act → World → Prop} {ty : TypeId} {x y : Operand} (ho : o.op = .store ty x y) (h : wpList P ops Q (o :: rest) a w) : wpList P ops Q (o :: rest) a w := h
end

/-! The same as steps of a region that draws its order -/
section
variable {P : Program} {ops : Array Oper} {o : Oper} {a : Act} {w : World} {K : Act → World → Prop} {Q : Exit → Act → World → Prop} {E : Prop}
theorem step_load_row (hg : o.guard = none) (ty : TypeId) (x : Operand) (ho : o.op = .load ty x)
    (g : Nat) (hx : a.eval x = .pointer (some ⟨g, 0, none⟩)) (t : TypeId) (cs : Array Value) (fr : Nat × Nat) (d : TypeDesc) (hr : w.heap[g]? = some (.cells cs t fr))
    (hu : P.underlying ty = some d) (hd : (match d with | .struct _ | .array _ _ => true | _ => false) = true) (hi : (P.info? ty).map (·.size) = some cs.size)
    (hK : K (a.put o.dst (.agg cs)) w) : if Region.wanted o (yielded ops a.tmps) = true then Oper.wp P o a w K Q else E := by
  have hw : Region.wanted o (yielded ops a.tmps) = true := by simp [Region.wanted, hg]
  rw [if_pos hw]
  exact wp_load_row ty x ho g hx t cs fr d hr hu hd hi hK
theorem step_store_row (hg : o.guard = none) (ty : TypeId) (x y : Operand) (ho : o.op = .store ty x y)
    (g : Nat) (cells : Array Value) (hx : a.eval x = .pointer (some ⟨g, 0, none⟩)) (hy : a.eval y = .agg cells)
    (t : TypeId) (old : Array Value) (hr : w.heap[g]? = some (.cells old t (0, 0))) (hi : (P.info? ty).map (·.size) = some cells.size)
    (hold : old.size = cells.size) (h1 : cells.all (·.oneCell') = true)
    (hK : K (a.put o.dst undef) (w.setRow g cells)) : if Region.wanted o (yielded ops a.tmps) = true then Oper.wp P o a w K Q else E := by
  have hw : Region.wanted o (yielded ops a.tmps) = true := by simp [Region.wanted, hg]
  rw [if_pos hw]
  exact wp_store_row ty x y ho g cells hx hy t old hr hi hold h1 hK
end

/-- Two results, each in a variable. -/
theorem results_cell2 {P : Program} {fn : Func} {p q : Tmp} {t1 t2 : TypeId} (h : fn.results = #[.cell p t1, .cell q t2]) (tmps : Array Value) (w : World) (A1 A2 : Addr) (v1 v2 : Value)
    (hp : tmps.getD p undef = .pointer (some A1)) (hq : tmps.getD q undef = .pointer (some A2)) (h1 : (loadVar t1 A1).run P w = .ok v1 w) (h2 : (loadVar t2 A2).run P w = .ok v2 w) :
    (results fn tmps).run P w = .ok (.tuple #[v1, v2]) w := by
  have hp' : tmps[p]?.getD undef = .pointer (some A1) := by simpa using hp
  have hq' : tmps[q]?.getD undef = .pointer (some A2) := by simpa using hq
  simp [results, h, hp', hq', asAddr, h1, h2]
end Go.Proofs.YtijiggkhnpmaiaaGreat


/-
  The library's contracts of math/bits that the walks of this claim use, laid at this program.
-/
namespace Go.Proofs
open Go.Shelf
def Tryz.lays134_ren : Go.Shelf.Ren := ⟨fun | 134 => 179 | 129 => 148 | n => n, fun | 53 => 137 | 3 => 3 | 4 => 4 | 46 => 141 | 5 => 5 | 9 => 9 | n => n, fun | n => n⟩
theorem Tryz.lays134 : Go.Proofs.Lays.n134 Tryz.prog Tryz.lays134_ren := {
  mixed := by kernel_rfl
  f129 := Tryz.func148.trans (congrArg some (by kernel_rfl))
  f134 := Tryz.func179.trans (congrArg some (by kernel_rfl))
  t3 := Tryz.underlying3
  a3 := Tryz.isAgg3
  z3 := Tryz.sizeOf3
  v3 := Tryz.zeroValue3
  t4 := Tryz.underlying4
  a4 := Tryz.isAgg4
  z4 := Tryz.sizeOf4
  v4 := Tryz.zeroValue4
  t5 := Tryz.underlying5
  a5 := Tryz.isAgg5
  z5 := Tryz.sizeOf5
  v5 := Tryz.zeroValue5
  t9 := Tryz.underlying9
  a9 := Tryz.isAgg9
  z9 := Tryz.sizeOf9
  v9 := Tryz.zeroValue9
  t46 := Tryz.underlying141
  a46 := Tryz.isAgg141
  z46 := Tryz.sizeOf141
  v46 := Tryz.zeroValue141
  t53 := Tryz.underlying137
  a53 := Tryz.isAgg137
  z53 := Tryz.sizeOf137
  v53 := Tryz.zeroValue137 }
theorem Tryz.bits_LeadingZeros64 (x : Int) (w : World) (h0 : 0 ≤ x) (h1 : x ≤ 18446744073709551615) :
    Calls Tryz.prog 179 #[.int .u64 x] w fun e w' => e = .returned (.int .i64 (64 - (Lib.bitLen x.toNat : Int))) ∧ w' = w := Any.bits_LeadingZeros64 Tryz.lays134 x w h0 h1
def Tryz.lays129_ren : Go.Shelf.Ren := ⟨fun | 129 => 148 | n => n, fun | 53 => 137 | 3 => 3 | 4 => 4 | 46 => 141 | 5 => 5 | 9 => 9 | n => n, fun | n => n⟩
theorem Tryz.lays129 : Go.Proofs.Lays.n129 Tryz.prog Tryz.lays129_ren := {
  mixed := by kernel_rfl
  f129 := Tryz.func148.trans (congrArg some (by kernel_rfl))
  t3 := Tryz.underlying3
  a3 := Tryz.isAgg3
  z3 := Tryz.sizeOf3
  v3 := Tryz.zeroValue3
  t4 := Tryz.underlying4
  a4 := Tryz.isAgg4
  z4 := Tryz.sizeOf4
  v4 := Tryz.zeroValue4
  t5 := Tryz.underlying5
  a5 := Tryz.isAgg5
  z5 := Tryz.sizeOf5
  v5 := Tryz.zeroValue5
  t9 := Tryz.underlying9
  a9 := Tryz.isAgg9
  z9 := Tryz.sizeOf9
  v9 := Tryz.zeroValue9
  t46 := Tryz.underlying141
  a46 := Tryz.isAgg141
  z46 := Tryz.sizeOf141
  v46 := Tryz.zeroValue141
  t53 := Tryz.underlying137
  a53 := Tryz.isAgg137
  z53 := Tryz.sizeOf137
  v53 := Tryz.zeroValue137 }
theorem Tryz.bits_Len64 (x : Int) (w : World) (h0 : 0 ≤ x) (h1 : x ≤ 18446744073709551615) :
    Calls Tryz.prog 148 #[.int .u64 x] w fun e w' => e = .returned (.int .i64 (Lib.bitLen x.toNat)) ∧ w' = w := Any.bits_Len64 Tryz.lays129 x w h0 h1
def Tryz.lays264_ren : Go.Shelf.Ren := ⟨fun | 264 => 155 | n => n, fun | 53 => 137 | 46 => 141 | n => n, fun | n => n⟩
theorem Tryz.lays264 : Go.Proofs.Lays.n264 Tryz.prog Tryz.lays264_ren := {
  mixed := by kernel_rfl
  f264 := Tryz.func155.trans (congrArg some (by kernel_rfl))
  t46 := Tryz.underlying141
  a46 := Tryz.isAgg141
  z46 := Tryz.sizeOf141
  v46 := Tryz.zeroValue141
  t53 := Tryz.underlying137
  a53 := Tryz.isAgg137
  z53 := Tryz.sizeOf137
  v53 := Tryz.zeroValue137 }
open Go.RowKit Go.Lib in
theorem Tryz.bits_Mul64 (x y : Nat) (hx : x < 18446744073709551616) (hy : y < 18446744073709551616) (w : World) :
    Calls Tryz.prog 155 #[.int .u64 x, .int .u64 y] w fun e w' => e = .returned (.tuple #[.int .u64 ((x * y / 18446744073709551616 : Nat) : Int), .int .u64 ((x * y % 18446744073709551616 : Nat) : Int)]) ∧ w' = w := Any.bits_Mul64 Tryz.lays264 x y hx hy w
namespace YtijiggkhnpmaiaaGreat
open Go.RowKit

/-- bits.Add64 and bits.Sub64, as a walk meets them. -/
theorem add64 (x y c : Int) (hx : 0 ≤ x) (hx' : x < 18446744073709551616) (hy : 0 ≤ y) (hy' : y < 18446744073709551616) (hc0 : 0 ≤ c) (hc : c ≤ 1) (w : World) : (callFunc 156 #[.int .u64 x, .int .u64 y, .int .u64 c]).run Tryz.prog w =
    .ok (.value (.tuple #[.int .u64 ((x + y + c) % 18446744073709551616), .int .u64 ((x + y + c) / 18446744073709551616)])) w := by
  obtain ⟨x, rfl⟩ := Int.eq_ofNat_of_zero_le hx
  obtain ⟨y, rfl⟩ := Int.eq_ofNat_of_zero_le hy
  obtain ⟨c, rfl⟩ := Int.eq_ofNat_of_zero_le hc0
  rw [run_callFunc_extern Tryz.func156 (by kernel_rfl) (by kernel_rfl) (by kernel_rfl) (e := add64Entry) (by kernel_rfl), run_add64 x y c (by omega) (by omega) (by omega) (by omega)]
  simp only [Result.andThen]
end YtijiggkhnpmaiaaGreat
end Go.Proofs


/-
  The walks of parts, bits, cmp: how many digits, how many bits, which is greater.
-/
set_option linter.unusedVariables false
namespace Go.Proofs.YtijiggkhnpmaiaaGreat
open Go.RowKit

/-- How many digits of the first n there are up to the last one that is not 0. -/
def ndTo (v : Nat) : Nat → Nat
  | 0 => 0
  | n + 1 => if dg v n = 0 then ndTo v n else n + 1
def nd (v : Nat) : Nat := ndTo v 16
theorem ndTo_le (v n : Nat) : ndTo v n ≤ n := by
  induction n with
  | zero => exact Nat.le_refl _
  | succ n ih => unfold ndTo; split <;> omega
theorem nd_le (v : Nat) : nd v ≤ 16 := ndTo_le v 16

theorem parts_any (g o v : Nat) (w : World) (hd : Digs w g o v) :
    Calls Tryz.prog 154 #[.pointer (some ⟨g, o, none⟩)] w fun e w' => e = .returned (.int .i64 (nd v)) ∧ w = w' := by
  have HD := Lib.hid hd
  clear hd
  have hle := nd_le v
  go_enter Tryz.func154, Tryz.ntmps154
  go_wp2
  go_loopw [3] (fun i wr => wr = w ∧ ∃ n : Nat, n ≤ 16 ∧ i = .int .i64 n ∧ ndTo v n = nd v) (fun i _ => (intOf i).toNat)
  case atStart => exact ⟨rfl, 16, Nat.le_refl _, rfl, rfl⟩
  case round =>
    obtain ⟨rfl, n, hn, rfl, hq⟩ := hrel
    match n, hn, hq with
    | 0, hn, hq =>
      have hq' : nd v = 0 := hq.symm
      go_wp2_with fail
      go_ret
      exact ⟨by rw [hq']; rfl, rfl⟩
    | n + 1, hn, hq =>
      have hc := HD.out n (by omega)
      have e1 : ((n + 1 : Nat) : Int) - 1 = n := by omega
      by_cases hz : dg v n = 0
      · have hq2 : ndTo v n = nd v := by rw [← hq]; rw [ndTo, if_pos hz]
        rw [hz] at hc
        go_wp2_with fail
        go_roundw
        case rel => exact ⟨by first | trivial | rfl, n, by omega, by go_num, hq2⟩
        case measure => simp [intOf]
      · have hq2 : nd v = n + 1 := by rw [← hq]; rw [ndTo, if_neg hz]
        go_wp2_with fail
        go_ret
        exact ⟨by rw [hq2]; rfl, rfl⟩

/-- The bits of a digit. -/
def lb (n : Nat) : Nat := Lib.bitLen n
theorem lb_le (n : Nat) (h : n < 18446744073709551616) : lb n ≤ 64 := Lib.bitLen_le n 64 (Nat.le_refl _) h

/-- bits.Len64, as a walk meets it. -/
theorem len64_any (n : Nat) (hn : n < 18446744073709551616) (w : World) : Calls Tryz.prog 148 #[.int .u64 n] w fun e w' => e = .returned (.int .i64 (lb n)) ∧ w = w' :=
  (Tryz.bits_Len64 n w (by omega) (by omega)).mono fun e w' h => ⟨h.1, h.2.symm⟩

/-- How many bits. -/
def bl (v : Nat) : Nat := if nd v = 0 then 0 else 64 * (nd v - 1) + lb (dg v (nd v - 1))

theorem bits_any (g o v : Nat) (w : World) (hd : Digs w g o v) :
    Calls Tryz.prog 176 #[.pointer (some ⟨g, o, none⟩)] w fun e w' => e = .returned (.int .i64 (bl v)) ∧ w = w' := by
  have HD := Lib.hid hd
  clear hd
  have hle := nd_le v
  go_enter Tryz.func176, Tryz.ntmps176
  go_wp2_with fail
  refine (parts_any g o v _ HD.out).mono ?_
  rintro e w' ⟨rfl, rfl⟩
  by_cases hz : nd v = 0
  · have hb : bl v = 0 := by unfold bl; rw [if_pos hz]
    rw [hz]
    go_wp2_with fail
    go_ret
    exact ⟨by rw [hb]; rfl, rfl⟩
  · obtain ⟨n, hn⟩ : ∃ n, nd v = n + 1 := ⟨nd v - 1, by omega⟩
    have hb : bl v = 64 * n + lb (dg v n) := by unfold bl; rw [if_neg hz, hn]; rfl
    rw [hn]
    have e1 : ((n + 1 : Nat) : Int) - 1 = n := by omega
    have hc := HD.out n (by omega)
    have hlt := dg_lt v n
    have hlb := lb_le _ hlt
    have hw : wrap64 (64 * (n : Int) + (lb (dg v n) : Int)) = ((64 * n + lb (dg v n) : Nat) : Int) := by unfold wrap64; omega
    go_wp2_with fail
    refine (len64_any _ hlt _).mono ?_
    rintro e w' ⟨rfl, rfl⟩
    go_wp2_with fail
    go_ret
    exact ⟨by rw [hb]; exact ret_int (by omega), rfl⟩

/-- Which is greater. -/
def cm (a b : Nat) : Int := if a < b then -1 else if b < a then 1 else 0

theorem cmp_any (g o a h p b : Nat) (w : World) (hd : Digs w g o a) (he : Digs w h p b) (ha : a < Bs ^ 16) (hb : b < Bs ^ 16) :
    Calls Tryz.prog 177 #[.pointer (some ⟨g, o, none⟩), .pointer (some ⟨h, p, none⟩)] w fun e w' => e = .returned (.int .i64 (cm a b)) ∧ Below w.heap.size w w' ∧ w.heap.size = w'.heap.size := by
  have HD := Lib.hid hd
  have HE := Lib.hid he
  clear hd he
  go_enter Tryz.func177, Tryz.ntmps177
  go_wp2
  go_loopw [5] (fun i wr => (∃ n : Nat, n ≤ 16 ∧ i = .int .i64 (n - 1) ∧ a / Bs ^ n = b / Bs ^ n) ∧ Below w.heap.size w wr ∧ w.heap.size = wr.heap.size) (fun i _ => (intOf i + 1).toNat)
  case atStart => exact ⟨⟨16, by omega, rfl, by rw [Nat.div_eq_of_lt ha, Nat.div_eq_of_lt hb]⟩, Below.refl _ _, rfl⟩
  case round =>
    obtain ⟨⟨n, hn, rfl, hq⟩, hbel, hsz⟩ := hrel
    match n, hn, hq with
    | 0, hn, hq =>
      simp only [Nat.pow_zero, Nat.div_one] at hq
      have hc : cm a b = 0 := by unfold cm; rw [if_neg (by omega), if_neg (by omega)]
      go_wp2_with fail
      go_ret
      exact ⟨by rw [hc]; rfl, hbel, hsz⟩
    | n + 1, hn, hq =>
      have e1 : ((n + 1 : Nat) : Int) - 1 = n := by omega
      rw [e1]
      have c1 : wr.cell? ⟨g, o + n, none⟩ = some (.int .u64 ((dg a n : Nat) : Int)) := (hbel.cell (p := ⟨g, o + n, none⟩) HD.out.lt).trans (HD.out n (by omega))
      have c2 : wr.cell? ⟨h, p + n, none⟩ = some (.int .u64 ((dg b n : Nat) : Int)) := (hbel.cell (p := ⟨h, p + n, none⟩) HE.out.lt).trans (HE.out n (by omega))
      have s1 := dg_step a n
      have s2 := dg_step b n
      rw [hq] at s1
      have hbel1 : Below w.heap.size w wr.drew := hbel.drew
      by_cases hlt : dg a n < dg b n
      · have hcm : cm a b = -1 := by
          unfold cm
          have key : a < b := Nat.lt_of_div_lt_div (c := Bs ^ n) (by omega)
          rw [if_pos key]
        clear s1 s2 hq
        have hlt' : ((dg a n : Nat) : Int) < ((dg b n : Nat) : Int) := by omega
        go_wp2_with fail
        go_region
        go_wp2_with fail
        go_ret
        exact ⟨by rw [hcm]; rfl, by repeat (first | with_reducible exact hbel | with_reducible apply Below.drew | with_reducible apply below_drewN), hsz⟩
      · have hlt' : decide (((dg a n : Nat) : Int) < ((dg b n : Nat) : Int)) = false := decide_eq_false (by omega)
        by_cases hgt : dg b n < dg a n
        · have hcm : cm a b = 1 := by
            unfold cm
            have key : b < a := Nat.lt_of_div_lt_div (c := Bs ^ n) (by omega)
            rw [if_neg (by omega), if_pos key]
          clear s1 s2 hq
          have hgt' : ((dg b n : Nat) : Int) < ((dg a n : Nat) : Int) := by omega
          go_wp2_with fail
          go_region
          go_wp2_with fail
          go_region
          go_wp2_with fail
          go_ret
          exact ⟨by rw [hcm]; rfl, by repeat (first | with_reducible exact hbel | with_reducible apply Below.drew | with_reducible apply below_drewN), hsz⟩
        · have hgt' : decide (((dg b n : Nat) : Int) < ((dg a n : Nat) : Int)) = false := decide_eq_false (by omega)
          have hqq : a / Bs ^ n = b / Bs ^ n := by omega
          clear s1 s2 hq
          go_wp2_with fail
          go_region
          go_wp2_with fail
          go_region
          go_wp2_with fail
          go_roundw
          case rel => exact ⟨⟨n, by omega, by go_num, hqq⟩, by repeat (first | with_reducible exact hbel | with_reducible apply Below.drew | with_reducible apply below_drewN), hsz⟩
          case measure => simp [intOf]
end Go.Proofs.YtijiggkhnpmaiaaGreat


/-
  The walk of add: two numbers of sixteen digits together.
-/
set_option linter.unusedVariables false
namespace Go.Proofs.YtijiggkhnpmaiaaGreat
open Go.RowKit

/-- The digits of a sum, as far as they are reckoned. -/
def addTo (a b i : Nat) : Nat → Nat := fun j => if j < i then dg (a + b) j else 0

set_option maxHeartbeats 1000000 in
theorem add_any (g o a h p b : Nat) (w : World) (hd : Digs w g o a) (he : Digs w h p b) :
    Calls Tryz.prog 159 #[.pointer (some ⟨g, o, none⟩), .pointer (some ⟨h, p, none⟩)] w fun e w' => e = .returned (.tuple #[.agg (sz (a + b)), .int .u64 (cry a b 16)]) ∧ Below w.heap.size w w' := by
  have HD := Lib.hid hd
  have HE := Lib.hid he
  clear hd he
  go_enter Tryz.func159, Tryz.ntmps159
  go_wp2
  go_loopw [7, 9] (fun c i wr => ∃ k : Nat, k ≤ 16 ∧ i = .int .i64 k ∧ c = .int .u64 (cry a b k) ∧ IsRow wr (w.heap.size + 1) 177 (lim 16 (addTo a b k)) ∧ IsRow wr w.heap.size 177 (sz 0) ∧ Below w.heap.size w wr) (fun _ i _ => 16 - (intOf i).toNat)
  case atStart =>
    refine ⟨0, by omega, rfl, by rw [cry_zero]; rfl, ?_, ?_, by repeat (first | with_reducible exact Below.refl _ _ | with_reducible refine Below.alloc ?_ (by first | (simp; done) | (simp; omega) | omega) _)⟩
    · rw [lim_same 16 (addTo a b 0) (dg 0) (fun j _ => by rw [dg_zero]; unfold addTo; rw [if_neg (by omega)])]
      rw [← sz_zero]
      have := IsRow.new (w.alloc (.cells (sz 0) 177)) (sz 0) 177
      rw [show (w.alloc (.cells (sz 0) 177)).heap.size = w.heap.size + 1 from by simp] at this
      exact this
    · rw [← sz_zero]
      exact (IsRow.new _ _ _).alloc _
  case round =>
    obtain ⟨k, hk, rfl, rfl, hrow, hres, hbel⟩ := hrel
    by_cases hlt : k < 16
    · have c1 : wr.cell? ⟨g, o + k, none⟩ = some (.int .u64 ((dg a k : Nat) : Int)) := (hbel.cell (p := ⟨g, o + k, none⟩) HD.out.lt).trans (HD.out k hlt)
      have c2 : wr.cell? ⟨h, p + k, none⟩ = some (.int .u64 ((dg b k : Nat) : Int)) := (hbel.cell (p := ⟨h, p + k, none⟩) HE.out.lt).trans (HE.out k hlt)
      have c3 := hrow.cell (lim_get 16 (addTo a b k) k hlt)
      have f3 := hrow.frozen k
      have hz := hbel.size
      have q1 := dg_lt a k
      have q2 := dg_lt b k
      have q3 := cry_le a b k
      have ha : ∀ w : World, (callFunc 156 #[.int .u64 (dg a k : Nat), .int .u64 (dg b k : Nat), .int .u64 (cry a b k : Nat)]).run Tryz.prog w =
        .ok (.value (.tuple #[.int .u64 (dg (a + b) k : Nat), .int .u64 (cry a b (k + 1) : Nat)])) w := fun w => by
        rw [add64 _ _ _ (by omega) (by omega) (by omega) (by omega) (by omega) (by omega)]
        have e1 := cry_dig a b k
        have e2 := cry_next a b k
        rw [show ((dg a k : Nat) : Int) + (dg b k : Nat) + (cry a b k : Nat) = ((dg a k + dg b k + cry a b k : Nat) : Int) from by omega]
        rw [show (((dg a k + dg b k + cry a b k : Nat) : Int) % 18446744073709551616) = ((dg (a + b) k : Nat) : Int) from by omega]
        rw [show (((dg a k + dg b k + cry a b k : Nat) : Int) / 18446744073709551616) = ((cry a b (k + 1) : Nat) : Int) from by omega]
      go_wp2_with fail
      go_region
      go_wp2_with fail
      go_roundw
      case rel =>
        refine ⟨k + 1, by omega, by go_num, rfl, ?_, ?_, by repeat (first | with_reducible exact hbel | with_reducible apply Below.drew | with_reducible apply below_drewN | with_reducible refine Below.setCell ?_ (by first | (simp; done) | (simp; omega) | omega) _)⟩
        · have := hrow.drew.set k (.int .u64 (dg (a + b) k : Nat))
          rw [lim_set 16 (addTo a b k) (addTo a b (k + 1)) k _ hlt (by unfold addTo; rw [if_pos (by omega)]) (fun j hj hne => by unfold addTo; by_cases hjk : j < k <;> simp [hjk, show j < k + 1 ↔ j < k by omega])] at this
          exact this
        · exact hres.drew.setOther _ _ (by simp)
      case measure => simp [intOf]; omega
    · obtain rfl : k = 16 := by omega
      rw [lim_same 16 (addTo a b 16) (dg (a + b)) (fun j hj => by unfold addTo; rw [if_pos hj])] at hrow
      have hrow' : IsRow wr (w.heap.size + 1) 177 (sz (a + b)) := hrow
      clear hrow
      go_wp2_with (first | (refine wpList_load_row rfl 177 _ rfl (w.heap.size + 1) rfl _ (sz (a + b)) _ _ hrow' Tryz.underlying177 rfl (by rw [sz_size]; kernel_rfl) ?_) | (refine wpList_store_row rfl 177 _ _ rfl w.heap.size (sz (a + b)) rfl rfl _ (sz 0) hres (by rw [sz_size]; kernel_rfl) (by simp) (sz_one _) ?_))
      have hrow2 := hres.row (sz (a + b))
      have hl := run_loadVar_row (P := Tryz.prog) (wr.setRow w.heap.size (sz (a + b))) w.heap.size _ 177 (sz (a + b)) _ _ hrow2 Tryz.underlying177 rfl (by rw [sz_size]; kernel_rfl)
      refine bodyPost_ret (v := .tuple #[.agg (sz (a + b)), .int .u64 (cry a b 16 : Nat)]) (by simp [results, Tryz.results159, asAddr, hl]) rfl ⟨rfl, below_setRow hbel (Nat.le_refl _) _⟩
end Go.Proofs.YtijiggkhnpmaiaaGreat


/-
  Wide numbers as the evaluator has them: a number by its digits, in a value, in memory.
-/
set_option linter.unusedVariables false
set_option linter.unusedSimpArgs false
namespace Go.Proofs.YtijiggkhnpmaiaaGreat
open Go Go.RowKit Sx

/-- n digits of 64 bits. -/
def limL (n : Nat) (f : Nat → Nat) : List Value := (List.range n).map fun j => .int .u64 ((f j : Nat) : Int)
theorem lim_is (n : Nat) (f : Nat → Nat) : lim n f = ⟨limL n f⟩ := rfl
theorem limL_len (n : Nat) (f : Nat → Nat) : (limL n f).length = n := by simp [limL]
theorem limL_get {n : Nat} {f : Nat → Nat} {j : Nat} (h : j < n) : (limL n f).getD j undef = .int .u64 ((f j : Nat) : Int) := by simp [limL, List.getD_eq_getElem?_getD, h]
theorem limL_one (n : Nat) (f : Nat → Nat) : (limL n f).all Value.oneCell' = true := by simp [limL, Value.oneCell']
theorem limL_same {n : Nat} {f g : Nat → Nat} (h : ∀ j, j < n → f j = g j) : limL n f = limL n g := List.map_congr_left fun j hj => by rw [h j (by simpa using hj)]
theorem flat_lim (n : Nat) (f : Nat → Nat) : flatB (.agg ⟨limL n f⟩) n = true := by
  simp [flatB, limL_len, limL_one]
theorem plain_lim (n : Nat) (f : Nat → Nat) : plain2 (.agg ⟨limL n f⟩) = true := by
  simp [plain2, limL, plain1]
/-- A wide number. -/
def wiL (neg over : Bool) (v : Nat) : List Value := .bool neg :: .bool over :: limL 16 (dg v)
theorem wi_is (neg over : Bool) (v : Nat) : wi neg over v = ⟨wiL neg over v⟩ := by
  apply Array.toList_inj.1
  simp [wi, wiL, sz, lim_is]
theorem flat_wi (neg over : Bool) (v : Nat) : flatB (.agg ⟨wiL neg over v⟩) 18 = true := by
  simp [flatB, wiL, limL_len, limL_one, Value.oneCell']
theorem plain_wi (neg over : Bool) (v : Nat) : plain2 (.agg ⟨wiL neg over v⟩) = true := by
  simp [plain2, wiL, limL, plain1]

theorem all2_map {F : Nat → Prop} {ρ : Nat → Nat × Nat} : ∀ {vs xs : List Value}, All2 (Den F ρ) vs xs → xs = vs.map (den ρ)
  | [], [], _ => rfl
  | [], _ :: _, h => h.elim
  | _ :: _, [], h => h.elim
  | v :: vs, x :: xs, h => by rw [List.map_cons, all2_map h.2, h.1.self]
theorem call_heap {P : Program} {g : FuncId} {vs : List Value} {h : List (Option Chunk)} {v : Value} (rh : List Nat) (hv : plain3 v = true) (hr : ∀ xs w, (callFunc g xs).run P w = .ok (.enter g xs) w)
    (hc : ∀ (ρ : Nat → Nat × Nat) (w : World), (∀ i ∈ rh, ∀ c, h[i]? = some (some c) → ∀ j, j < c.n → w.cell? ⟨(ρ i).1, (ρ i).2 + j, none⟩ = some (den1 ρ (c.f j))) → Calls P g ⟨vs.map (den ρ)⟩ w fun e w' => e = .returned v ∧ Below w.heap.size w w') : CallOK P g vs h v [] rh :=
  fun h₂ hrh _ X ρ w xs H hx => by
    have hxs : xs = vs.map (den ρ) := all2_map hx
    subst hxs
    refine .inr ⟨hr _ w, (hc ρ w (fun i hi c hic j hj => ?_)).mono ?_⟩
    · obtain ⟨x, hx, hd⟩ := H.cell i c ((hrh i hi).trans hic) j hj
      rw [hx, hd.self]
    · rintro e w' ⟨rfl, hb⟩
      exact ⟨v, rfl, ρ, AgreeOn.refl _ _, H.frame hb, fun r _ => den_plain3 hv r⟩

/-- The digits of a number lie in a known stretch, from f on. -/
def Has (h : List (Option Chunk)) (i f v : Nat) : Prop := ∃ c, h[i]? = some (some c) ∧ f + 16 ≤ c.n ∧ ∀ j, j < 16 → c.f (f + j) = .int .u64 ((dg v j : Nat) : Int)
theorem Has.digs {h : List (Option Chunk)} {i f v : Nat} (hh : Has h i f v) {ρ : Nat → Nat × Nat} {w : World} {rh : List Nat} (hi : i ∈ rh) (hc : ∀ i ∈ rh, ∀ c, h[i]? = some (some c) → ∀ j, j < c.n → w.cell? ⟨(ρ i).1, (ρ i).2 + j, none⟩ = some (den1 ρ (c.f j))) : Digs w (ρ i).1 ((ρ i).2 + f) v := fun j hj => by
  obtain ⟨c, h1, h2, h3⟩ := hh
  rw [Nat.add_assoc, hc i hi c h1 (f + j) (by omega), h3 j hj]
  rfl
theorem has_wi {h : List (Option Chunk)} {i v : Nat} {o neg over : Bool} (hi : h[i]? = some (some ⟨o, 18, [(0, 18, .agg ⟨wiL neg over v⟩)]⟩)) : Has h i 2 v :=
  ⟨_, hi, Nat.le_refl _, fun j hj => by
    show cellOf _ _ = _
    rw [cellOf_cons, if_pos (by omega)]
    simp only [cellIn, wiL, Nat.sub_zero]
    rw [show 2 + j = j + 1 + 1 from by omega]
    simp only [List.getD_cons_succ]
    exact limL_get hj⟩
theorem cParts (i f v : Nat) (h : List (Option Chunk)) (hh : Has h i f v) : CallOK Tryz.prog 154 [.pointer (some ⟨i, f, some 0⟩)] h (.int .i64 (nd v)) [] [i] :=
  call_heap [i] rfl (Tryz.call154) fun ρ w hc => (parts_any (ρ i).1 ((ρ i).2 + f) v w (hh.digs (by simp) hc)).mono (by rintro e w' ⟨he, rfl⟩; exact ⟨he, Below.refl _ _⟩)

/-! ### Rows read and written at an index -/
theorem reads_lim {o : Bool} {n p q : Nat} {f : Nat → Nat} (hp : p < n) (hq : q = p) : Reads ⟨o, n, [(0, n, .agg ⟨limL n f⟩)]⟩ q false 1 (.int .u64 ((f p : Nat) : Int)) := by
  subst hq
  refine ⟨hp, rfl, ?_⟩
  show cellOf _ _ = _
  rw [cellOf_cons, if_pos (by omega)]
  exact limL_get hp
theorem reads_wi {o neg over : Bool} {v p q : Nat} (hp : p < 16) (hq : q = 2 + p) : Reads ⟨o, 18, [(0, 18, .agg ⟨wiL neg over v⟩)]⟩ q false 1 (.int .u64 ((dg v p : Nat) : Int)) := by
  subst hq
  refine ⟨by show 2 + p < 18; omega, rfl, ?_⟩
  show cellOf _ _ = _
  rw [cellOf_cons, if_pos (by omega)]
  simp only [cellIn, wiL, Nat.sub_zero]
  rw [show 2 + p = p + 1 + 1 from by omega]
  simp only [List.getD_cons_succ]
  exact limL_get hp
theorem writes_lim {n p q : Nat} {f g : Nat → Nat} {x : Int} (hp : p < n) (hq : q = p) (hx : x = ((g p : Nat) : Int)) (hg : ∀ k, k < n → k ≠ p → g k = f k) : Writes ⟨true, n, [(0, n, .agg ⟨limL n f⟩)]⟩ q 1 (.int .u64 x) ⟨true, n, [(0, n, .agg ⟨limL n g⟩)]⟩ := by
  subst hq
  refine ⟨rfl, hp, rfl, fun k hk => ?_⟩
  have hk : k < n := hk
  have e : ∀ f : Nat → Nat, (⟨true, n, [(0, n, .agg ⟨limL n f⟩)]⟩ : Chunk).f k = .int .u64 ((f k : Nat) : Int) := fun f => by
    show cellOf _ _ = _
    rw [cellOf_cons, if_pos (by omega)]
    exact limL_get hk
  rw [e, e]
  by_cases h : k = q
  · subst h; rw [if_pos (by omega), hx]; rfl
  · rw [if_neg (by omega), hg k hk h]

theorem cMul64 (x y : Nat) (h : List (Option Chunk)) (hx : x < 18446744073709551616) (hy : y < 18446744073709551616) : CallOK Tryz.prog 155 [.int .u64 x, .int .u64 y] h (.tuple #[.int .u64 ((x * y / 18446744073709551616 : Nat) : Int), .int .u64 ((x * y % 18446744073709551616 : Nat) : Int)]) [] [] :=
  call_pure rfl rfl (Tryz.call155 _) fun w => (Tryz.bits_Mul64 x y hx hy w).mono (by rintro e w' ⟨he, rfl⟩; exact ⟨he, Below.refl _ _⟩)
theorem cAdd64 (x y c : Int) (h : List (Option Chunk)) (hx : 0 ≤ x) (hx' : x < 18446744073709551616) (hy : 0 ≤ y) (hy' : y < 18446744073709551616) (hc0 : 0 ≤ c) (hc : c ≤ 1) : CallOK Tryz.prog 156 [.int .u64 x, .int .u64 y, .int .u64 c] h (.tuple #[.int .u64 ((x + y + c) % 18446744073709551616), .int .u64 ((x + y + c) / 18446744073709551616)]) [] [] :=
  call_ext rfl rfl fun w => YtijiggkhnpmaiaaGreat.add64 x y c hx hx' hy hy' hc0 hc w
end Go.Proofs.YtijiggkhnpmaiaaGreat
