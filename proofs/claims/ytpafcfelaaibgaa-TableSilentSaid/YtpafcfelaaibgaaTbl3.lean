/-
  The walk of All: all entries, by their nodes.
-/
import Derived.Test.YtpafcfelaaibgaaKeys
import Derived.Test.YtpafcfelaaibgaaRen
import Derived.Test.YtpafcfelaaibgaaArg
set_option linter.unusedVariables false
set_option linter.unusedSimpArgs false
namespace Go.Proofs.Ytpafcfelaaibgaa
open Go Go.RowKit Sx

def encell (x : Ent) : Nat → Value
  | 0 => .int .i64 x.node
  | 1 => .int .i64 x.boot
  | 2 => .int .i64 x.heard
  | 3 => .bool x.has
  | 4 => .int .i64 x.x
  | 5 => .int .i64 x.y
  | 6 => .int .i64 x.a
  | 7 => .int .i64 x.b
  | 8 => .int .i64 x.d
  | _ => .int .i64 x.when_
theorem encell_plain (x : Ent) (k : Nat) : plain1 (encell x k) = true := by unfold encell; split <;> rfl
theorem encell_in (x : Ent) {k : Nat} (h : k < 10) : cellIn (entV x) k = encell x k := by
  match k, h with
  | 0, _ => rfl
  | 1, _ => rfl
  | 2, _ => rfl
  | 3, _ => rfl
  | 4, _ => rfl
  | 5, _ => rfl
  | 6, _ => rfl
  | 7, _ => rfl
  | 8, _ => rfl
  | 9, _ => rfl
theorem encell_zero (j : Nat) : repZ 10 (entV Ent.zero) j = encell (Ent.zero) (j % 10) := by
  unfold repZ
  have h : j % 10 < 10 := Nat.mod_lt _ (by decide)
  generalize j % 10 = k at h
  match k, h with
  | 0, _ => rfl
  | 1, _ => rfl
  | 2, _ => rfl
  | 3, _ => rfl
  | 4, _ => rfl
  | 5, _ => rfl
  | 6, _ => rfl
  | 7, _ => rfl
  | 8, _ => rfl
  | 9, _ => rfl

/-- Elements, with room. -/
abbrev enC (o : Bool) (c : Nat) (T : Nat → Ent) : Chunk := ⟨o, c * 10, [(0, c * 10, .agg ⟨segL (c * 10) (fun j => encell (T (j / 10)) (j % 10))⟩)]⟩
theorem enC_f {o : Bool} {c j : Nat} {T : Nat → Ent} (h : j < c * 10) : (enC o c T).f j = encell (T (j / 10)) (j % 10) := seg_cell h
theorem enC_re {ix : List (Nat × Nat)} {o o' : Bool} {c : Nat} {T T' : Nat → Ent} (h : ∀ i, i < c → T i = T' i) : ChunkRe ix (enC o c T) (enC o' c T') := fun j hj => by
  have hj : j < c * 10 := hj
  rw [seg_cell hj, seg_cell hj, h (j / 10) (by omega)]; exact .plain (encell_plain _ _)
theorem enC_post {ix : List (Nat × Nat)} {c : Nat} {T T' : Nat → Ent} {hp : List (Option Chunk)} {n : Nat} (h : ∀ i, i < c → T i = T' i) (hh : hp[n]? = some (some (enC true c T'))) : PostC ix hp n (enC true c T) := ⟨_, hh, id, Nat.le_refl _, enC_re h⟩
theorem enC_ren {ix : List (Nat × Nat)} {c : Nat} {T T' : Nat → Ent} (h : ∀ i, i < c → T i = T' i) : ChunkReLe ix (enC true c T) (enC true c T') := ⟨id, Nat.le_refl _, enC_re h⟩
theorem rd_en {o : Bool} {c p n : Nat} {T : Nat → Ent} (i : Nat) (hn : n = 10) (h : i < c) (e : p = i * 10) : Reads (enC o c T) p true n (entV (T i)) := by
  subst e hn
  refine ⟨by show i * 10 + 10 ≤ c * 10; omega, _, rfl, rfl, fun j hj => ?_⟩
  rw [seg_cell (by omega), show (i * 10 + j) / 10 = i from by omega, show (i * 10 + j) % 10 = j from by omega]
  exact (encell_in _ hj).symm
def seten (T : Nat → Ent) (l : Nat) (x : Ent) (i : Nat) : Ent := if i = l then x else T i
theorem wr_en {c l p : Nat} {T : Nat → Ent} {x : Ent} (h : l < c) (e : p = l * 10) : Writes (enC true c T) p (1 * 10) (entV x) (enC true c (seten T l x)) := by
  subst e
  refine ⟨rfl, by show l * 10 + 1 * 10 ≤ c * 10; omega, rfl, fun j hj => ?_⟩
  have hj : j < c * 10 := hj
  rw [seg_cell hj, seg_cell hj]
  unfold seten
  by_cases e : l * 10 ≤ j ∧ j < l * 10 + 1 * 10
  · rw [if_pos e, if_pos (by omega), encell_in _ (by omega)]
    congr 1; omega
  · rw [if_neg e, if_neg (by omega)]
def growen (T : Nat → Ent) (l : Nat) (x : Ent) (i : Nat) : Ent := if i < l then T i else if i = l then x else Ent.zero
theorem grown_en {ci : Chunk} {l cap : Nat} {T : Nat → Ent} {x : Ent} (h : l < cap) (hc : ∀ j, j < l * 10 → ci.f j = encell (T (j / 10)) (j % 10)) {j : Nat} (hj : j < cap * 10) : (grown ci l 1 10 (entV x) (entV Ent.zero) cap).f j = encell (growen T l x (j / 10)) (j % 10) := by
  unfold growen
  by_cases h1 : j < l * 10
  · rw [grown_old h1, if_pos (by omega)]; exact hc j h1
  · rw [if_neg (by omega)]
    by_cases h2 : j < (l + 1) * 10
    · have := grown_new (ci := ci) (l := l) (m := 1) (size := 10) (cap := cap) (v := entV x) (z := entV Ent.zero) (j := j - l * 10) (by omega)
      rw [show l * 10 + (j - l * 10) = j from by omega] at this
      rw [this, if_pos (by omega), encell_in _ (by omega)]
      congr 1; omega
    · rw [grown_zero (by omega) hj, if_neg (by omega)]; exact encell_zero j
theorem grownen_post {ix : List (Nat × Nat)} {ci : Chunk} {l cap : Nat} {T : Nat → Ent} {x : Ent} {hp : List (Option Chunk)} {n : Nat} (h : l < cap) (hc : ∀ j, j < l * 10 → ci.f j = encell (T (j / 10)) (j % 10)) (hh : hp[n]? = some (some (grown ci l 1 10 (entV x) (entV Ent.zero) cap))) : PostC ix hp n (enC true cap (growen T l x)) :=
  ⟨_, hh, fun _ => rfl, by show cap * 10 ≤ cap * 10; omega, fun j hj => by
    have hj : j < cap * 10 := hj
    rw [seg_cell hj, grown_en h hc hj]; exact .plain (encell_plain _ _)⟩
theorem grownen_ren {ix : List (Nat × Nat)} {ci : Chunk} {l cap : Nat} {T T' : Nat → Ent} {x : Ent} (h : l < cap) (hc : ∀ j, j < l * 10 → ci.f j = encell (T (j / 10)) (j % 10)) (he : ∀ i, i < cap → T' i = growen T l x i) : ChunkReLe ix (enC true cap T') (grown ci l 1 10 (entV x) (entV Ent.zero) cap) :=
  ⟨fun _ => rfl, by show cap * 10 ≤ cap * 10; omega, fun j hj => by
    have hj : j < cap * 10 := hj
    rw [seg_cell hj, grown_en h hc hj, he _ (by omega)]; exact .plain (encell_plain _ _)⟩
/-- The entries of a table, by their nodes. -/
def entT (E : List (Int × Ent)) (i : Nat) : Ent := match (sortK E)[i]? with
  | some k => (dGet E k).getD Ent.zero
  | none => Ent.zero
theorem entT_in {E : List (Int × Ent)} {i : Nat} {k : Int} {e : Ent} (h : (sortK E)[i]? = some k) (he : dGet E k = some e) : entT E i = e := by
  unfold entT; rw [h]; simp only [he]; rfl
theorem sortK_get {E : List (Int × Ent)} {i : Nat} (h : i < E.length) : ∃ k, (sortK E)[i]? = some k ∧ ∃ e, (k, e) ∈ E := by
  have hl : i < (sortK E).length := by rw [sortK_len]; exact h
  refine ⟨(sortK E)[i], by simp [hl], ?_⟩
  have : (sortK E)[i] ∈ E.map (·.1) := (sortK_perm E).mem_iff.1 (List.getElem_mem hl)
  obtain ⟨q, hq, e⟩ := List.mem_map.1 this
  exact ⟨q.2, by rw [← e]; exact hq⟩
theorem dGet_has {α : Type} {E : List (Int × α)} {k : Int} {e : α} (h : (k, e) ∈ E) : ∃ e', dGet E k = some e' := by
  cases hg : dGet E k with
  | some e' => exact ⟨e', rfl⟩
  | none => exact absurd rfl (dGet_none.1 hg _ h)
abbrev mainG (x : Ext) (o : Bool) (most : Int) (i j : Nat) : Chunk := @Chunk.mk x o 3 [(0, 3, .agg ⟨[.int .i64 most, .map (some i), .map (some j)]⟩)]
abbrev main2 (most : Int) : Chunk := ⟨false, 2, [(0, 2, .agg ⟨[.int .i64 most, .map (some 1)]⟩)]⟩
theorem main2_re {ix : List (Nat × Nat)} {x : Ext} {o : Bool} {most : Int} {i j : Nat} (hi : ixK ix 1 = some i) : ChunkRe ix (mainG x o most i j) (main2 most) := fun l hl => by
  match l, hl with
  | 0, _ => exact .plain rfl
  | 1, _ => exact .map hi
theorem map_re {ix : List (Nat × Nat)} {α : Type} {enc : α → Value} {D D' : List (Int × α)} : ChunkRe ix (mapC enc D) (mapC enc D') := fun j hj => absurd hj (Nat.not_lt_zero j)
theorem map_post {ix : List (Nat × Nat)} {α : Type} {enc : α → Value} {D : List (Int × α)} {h : List (Option Chunk)} {k : Nat} (hh : h[k]? = some (some (mapC enc D))) : PostC ix h k (mapC enc D) := ⟨_, hh, id, Nat.le_refl _, fun j hj => absurd hj (Nat.not_lt_zero j)⟩
/-- What All answers: nothing, or all entries. -/
def allR (E : List (Int × Ent)) (k : Nat) (pre : List (Nat × Chunk)) (v : Value) (ms : List (Nat × Chunk)) : Prop :=
  (E = [] ∧ v = .slice none 0 0 ∧ ms = pre) ∨ ∃ cap, 0 < E.length ∧ E.length ≤ cap ∧ v = .slice (some ⟨k, 0, some 0⟩) E.length cap ∧ ms = pre ++ [(k, enC true cap (fun i => if i < E.length then entT E i else Ent.zero))]
theorem enC_safe {c : Nat} {T : Nat → Ent} {h : List (Option Chunk)} {j : Nat} (hj : j < c * 10) : Safe1 h ((enC true c T).f j) := by
  rw [enC_f hj]
  generalize T (j / 10) = x
  generalize j % 10 = k
  unfold encell
  split <;> trivial
theorem re_eq {ix : List (Nat × Nat)} {v u : Value} (h : v = u) (hp : plain3 v = true) : Re ix v u := by subst h; exact .plain hp
theorem int_eq {k : IntKind} {a b : Int} (h : a = b) : Value.int k a = .int k b := by rw [h]
theorem i64s (n : Int) (h0 : -9223372036854775808 ≤ n) (h1 : n < 9223372036854775808) : IntKind.i64.wrap n = n := by rw [IntKind.wrap_i64]; omega
/-- The entries that are told of by r rounds. -/
def allF (E : List (Int × Ent)) (r i : Nat) : Ent := if i < r then entT E i else Ent.zero
theorem N_loopD {P : Program} {G : Tys} {n0 : Nat} {c : Code} {A : (Exit → St → Prop) → St → Prop} {Q : Exit → St → Prop} {t : List (Option Value)} {h : List (Option Chunk)} (mk : Nat) (hw : updK mk [] t 0 fun t' => wkK n0 ⟨t, h⟩ ⟨t', h⟩ (N True)) (k : updK mk [] t 0 fun t' => N (LoopN P G n0 c A Q ⟨t', h⟩)) : N (LoopN P G n0 c A Q ⟨t, h⟩) := by
  have h1 := (wk_out (updK_iff.1 hw)).1
  obtain ⟨α, mk', inv, μ, nx, p1, ⟨x, p2, p3⟩, p4⟩ := (updK_iff.1 k).out
  exact N.mk ⟨α, mk', inv, μ, nx, p1, ⟨x, p2, fun X ρ a w hn R => p3 X ρ a w hn (by subst hn; exact h1.rel R)⟩, p4⟩
theorem rd_ints {l : List Int} {p n : Nat} {x : Int} (i : Nat) (hn : n = 1) (h : l[i]? = some x) (e : p = i * 1) : Reads (intsC l) p false n (.int .i64 x) := by
  subst e hn
  have hl := (List.getElem?_eq_some_iff.1 h).1
  exact ⟨by show i * 1 < l.length; omega, rfl, by rw [Nat.mul_one]; exact intsC_f h⟩
theorem rd_all {o : Bool} {n m : Nat} {l : List Value} (hl : l.length = n) (hm : m = n) : Reads ⟨o, n, [(0, n, .agg ⟨l⟩)]⟩ 0 true m (.agg ⟨l⟩) := by
  subst hm
  refine ⟨by show 0 + m ≤ m; omega, _, rfl, hl, fun j hj => ?_⟩
  show cellOf [(0, m, .agg ⟨l⟩)] (0 + j) = _
  rw [cellOf_cons, if_pos (by omega)]
  simp [cellIn]
theorem App0_mk {cj : Chunk} {g m size bytes : Nat} {z : Value} {slot : Nat} {K : Value → List (Nat × Chunk) → Prop} (v : Value) (hr : Reads cj g true (m * size) v) (h0 : 0 < m) (h1 : m ≤ 9223372036854775807) (h2 : m * bytes ≤ 140737488355328)
    (k : ∀ cap, m ≤ cap → K (.slice (some ⟨slot, 0, some 0⟩) m cap) [(slot, grown ⟨true, 0, []⟩ 0 m size v z cap)]) : N (App0N cj g m size bytes z slot K) := N.mk ⟨v, hr, h0, h1, h2, k⟩
theorem App_mk {ci : Chunk} {k s l c : Nat} {cj : Chunk} {g m size bytes : Nat} {z : Value} {slot : Nat} {K : Value → List (Nat × Chunk) → Prop} (v : Value) (hr : Reads cj g true (m * size) v) (hf : flatB v (m * size) = true) (hl : l * size ≤ ci.n) (h1 : l + m ≤ 9223372036854775807) (h2 : (l + m) * bytes ≤ 140737488355328)
    (d : Chunk) (hw : l + m ≤ c → Writes ci (l * size) (m * size) v d) (k1 : l + m ≤ c → K (.slice (some ⟨k, 0, some s⟩) (l + m) c) [(k, d)]) (k2 : c < l + m → ∀ cap, l + m ≤ cap → K (.slice (some ⟨slot, 0, some 0⟩) (l + m) cap) [(slot, grown ci l m size v z cap)]) : N (AppN ci k s l c cj g m size bytes z slot K) :=
  N.mk ⟨v, hr, hf, hl, h1, h2, fun h => ⟨d, hw h, k1 h⟩, k2⟩
theorem main_ren {ix : List (Nat × Nat)} {F : List ((Nat × Nat) × Win)} {most : Int} (h1 : ixK ix 1 = some 1) (h2 : ixK ix 2 = some 2) : ChunkReLe ix (mainC F most) (mainC F most) := ⟨id, Nat.le_refl _, fun j hj => by
  match j, hj with
  | 0, _ => exact .plain rfl
  | 1, _ => exact .map h1
  | 2, _ => exact .map h2⟩
theorem main2_ren {ix : List (Nat × Nat)} {most : Int} (h1 : ixK ix 1 = some 1) : ChunkReLe ix (main2 most) (main2 most) := ⟨id, Nat.le_refl _, fun j hj => by
  match j, hj with
  | 0, _ => exact .plain rfl
  | 1, _ => exact .map h1⟩
theorem map_ren {ix : List (Nat × Nat)} {α : Type} {enc : α → Value} {D : List (Int × α)} : ChunkReLe ix (mapC enc D) (mapC enc D) := ⟨id, Nat.le_refl _, fun j hj => absurd hj (Nat.not_lt_zero j)⟩
theorem key_ren {ix : List (Nat × Nat)} (h1 : ixK ix 1 = some 1) : ChunkReLe ix (keyC 1) (keyC 1) := ⟨id, Nat.le_refl _, fun j hj => by
  match j, hj with
  | 0, _ => exact .map h1⟩
theorem ints_ren {ix : List (Nat × Nat)} {l : List Int} : ChunkReLe ix (intsC l) (intsC l) := ⟨id, Nat.le_refl _, fun j hj => by
  have hj : j < l.length := hj
  have e : l[j]? = some l[j] := by simp [hj]
  rw [intsC_f e]; exact .plain rfl⟩
theorem callAll_mono {P : Program} {g : FuncId} {vs : List Value} {h : List (Option Chunk)} {R R' : Value → List (Nat × Chunk) → Prop} (hc : CallAll P g vs h R) (hr : ∀ v ms, R v ms → R' v ms) : CallAll P g vs h R' := fun X ρ w xs H hx => by
  rcases hc X ρ w xs H hx with ⟨x, w', h1, v, ms, ρ', h2, h3⟩ | ⟨h1, h2⟩
  · exact .inl ⟨x, w', h1, v, ms, ρ', hr _ _ h2, h3⟩
  · refine .inr ⟨h1, h2.mono ?_⟩
    rintro e w' ⟨x, he, v, ms, ρ', h3, h4⟩
    exact ⟨x, he, v, ms, ρ', hr _ _ h3, h4⟩
set_option maxRecDepth 100000 in
set_option maxHeartbeats 2000000 in
theorem cAllT (T : Tbl) (hE : T.E.length ≤ 64) (i K : Nat) (h : List (Option Chunk)) (hi : h[i]? = some (some (tblC T))) (hK : h[K]? = some none) :
    CallAll Try.prog 19 [.pointer (some ⟨i, 0, some 0⟩)] h (allR T.E K [(i, tblC T)]) := by
  have key := call_resall (G := tys) (h := h) (vs := [.pointer (some ⟨i, 0, some 0⟩)]) (livesOK T.lives) (tblH T) (α := Option Nat) (fun κ => match κ with | none => T.E = [] | some cap => 0 < T.E.length ∧ T.E.length ≤ cap) (fun κ => match κ with | none => .slice none 0 0 | some cap => .slice (some ⟨K, 0, some 0⟩) T.E.length cap) [⟨i, tblC T, tblC T, tblC T⟩] (fun _ => [tblC T])
    (fun κ => match κ with | none => [] | some cap => [⟨K, 8, enC true cap (fun i => if i < T.E.length then entT T.E i else Ent.zero)⟩]) [.pointer (some ⟨0, 0, some 0⟩)] tysOK mixed Try.func19 (by rfl) (Try.call19) ⟨hi, trivial⟩ ⟨⟨fun h => ⟨rfl, Nat.le_refl _⟩, Nat.le_refl _, fun j hj => absurd hj (Nat.not_lt_zero j)⟩, trivial⟩ (fun κ _ => ⟨⟨fun h => ⟨rfl, Nat.le_refl _⟩, Nat.le_refl _, fun j hj => absurd hj (Nat.not_lt_zero j)⟩, trivial⟩) (by simp [Apart]) ⟨.inr ⟨rfl, rfl⟩, trivial⟩ (fun κ hκ => by
      cases κ with
      | none => exact trivial
      | some cap => exact ⟨⟨hK, rfl, .inl (by show 0 < cap * 10; have := hκ.1; have := hκ.2; omega), by simp⟩, trivial⟩) ⟨.ptr rfl, trivial⟩ pack_opens ?_
  · refine callAll_mono key fun v ms hR => ?_
    obtain ⟨κ, hκ, rfl, rfl⟩ := hR
    cases κ with
    | none => exact .inl ⟨hκ, rfl, rfl⟩
    | some cap => exact .inr ⟨cap, hκ.1, hκ.2, rfl, rfl⟩
  intro β hβ
  repeat' (refine N.go ?_; first | with_reducible refine N.obl (by decide) ?_ | with_reducible refine N.obl (flat_wi _ _ _) ?_ | with_reducible refine N.obl (flat_lim _ _) ?_ | with_reducible refine N.eq ?_ | with_reducible refine N.obl rfl ?_ | with_reducible refine N.obl ⟨by kernel_rfl, by kernel_rfl⟩ ?_ | with_reducible refine N.forkT ?_ | with_reducible refine N.forkF ?_ | refine N.call (cKeysT 1 3 _ _ (by rfl) (by rfl)) ?_ | fail_if_success skip)
  refine N.go ?_
  refine N.callAll (cSortedT T.E 1 3 7 _ _ (by rfl) rfl (by rfl) (by rfl) (by omega)) fun v ms hR => ?_
  rcases hR with ⟨hE0, rfl, rfl⟩ | ⟨kc, hpos, hkc, rfl, rfl⟩
  · repeat' (refine N.go ?_; first | with_reducible refine N.obl (by decide) ?_ | with_reducible refine N.obl (flat_wi _ _ _) ?_ | with_reducible refine N.obl (flat_lim _ _) ?_ | with_reducible refine N.eq ?_ | with_reducible refine N.obl rfl ?_ | with_reducible refine N.obl ⟨by kernel_rfl, by kernel_rfl⟩ ?_ | with_reducible refine N.forkT ?_ | with_reducible refine N.forkF ?_ | refine N.forkYes (by rw [decide_eq_true_eq]; omega) ?_ | refine N.forkNo (by rw [decide_eq_false_iff_not]; omega) ?_ | fail_if_success skip)
    refine N.go ?_
    refine N.roll 1 ?_
    repeat' (refine N.go ?_; first | with_reducible refine N.obl (by decide) ?_ | with_reducible refine N.obl (flat_wi _ _ _) ?_ | with_reducible refine N.obl (flat_lim _ _) ?_ | with_reducible refine N.eq ?_ | with_reducible refine N.obl rfl ?_ | with_reducible refine N.obl ⟨by kernel_rfl, by kernel_rfl⟩ ?_ | with_reducible refine N.forkT ?_ | with_reducible refine N.forkF ?_ | refine N.forkYes (by rw [decide_eq_true_eq]; omega) ?_ | refine N.forkNo (by rw [decide_eq_false_iff_not]; omega) ?_ | fail_if_success skip)
    refine N.go ?_
    refine tblClose T β 0 1 2 [] tbl_piece (fun i hi => .inl (by simpa using hi)) hβ (by rfl) (by rfl) (by rfl) (by rfl) (by rfl) (by rfl) (by rfl) (by rfl) (by rfl) (by decide) (fun k hk => by cases hk) safe0 (plain_sc rfl) ?_
    refine N.some none ⟨hE0, ?_⟩
    refine N.obl (.plain rfl) ?_
    refine N.obl ⟨⟨_, rfl, id, Nat.le_refl _, fun j hj => absurd hj (Nat.not_lt_zero j)⟩, trivial⟩ ?_
    refine N.obl trivial ?_
    refine N.obl ⟨⟨.inr ⟨_, rfl, rfl⟩, trivial⟩, trivial⟩ ?_
    exact N.true
  · repeat' (refine N.go ?_; first | with_reducible refine N.obl (by decide) ?_ | with_reducible refine N.obl (flat_wi _ _ _) ?_ | with_reducible refine N.obl (flat_lim _ _) ?_ | with_reducible refine N.eq ?_ | with_reducible refine N.obl rfl ?_ | with_reducible refine N.obl ⟨by kernel_rfl, by kernel_rfl⟩ ?_ | with_reducible refine N.forkT ?_ | with_reducible refine N.forkF ?_ | refine N.forkYes (by rw [decide_eq_true_eq]; omega) ?_ | refine N.forkNo (by rw [decide_eq_false_iff_not]; omega) ?_ | fail_if_success skip)
    refine N.go ?_
    refine N_loopD 4096 ?_ ?_
    · repeat' (refine N.go ?_; first | with_reducible refine N.obl (by decide) ?_ | with_reducible refine N.obl (flat_wi _ _ _) ?_ | with_reducible refine N.obl (flat_lim _ _) ?_ | with_reducible refine N.eq ?_ | with_reducible refine N.obl rfl ?_ | with_reducible refine N.obl ⟨by kernel_rfl, by kernel_rfl⟩ ?_ | with_reducible refine N.forkT ?_ | with_reducible refine N.forkF ?_ | exact N.true | with_reducible refine N.obl (ChunkLe.refl _) ?_ | fail_if_success skip)
    refine N.go ?_
    refine N.loopR (α := Option (Nat × Nat)) (fun x => match x with | none => True | some q => 1 ≤ q.1 ∧ q.1 ≤ T.E.length ∧ q.1 ≤ q.2) (fun x => match x with | none => T.E.length | some q => T.E.length - q.1) (fun x => match x with | none => [(15, .int .i64 0), (3, .slice none 0 0)] | some q => [(15, .int .i64 (q.1 : Int)), (3, .slice (some ⟨8, 0, some 0⟩) q.1 q.2)]) (fun x => match x with | none => [] | some q => [(8, enC true q.2 (allF T.E q.1))]) none [(0, 0), (1, 1), (2, 2), (3, 3), (7, 7)] trivial ?_ ?_
    · repeat' (refine N.go ?_; first | with_reducible refine N.obl (by decide) ?_ | with_reducible refine N.obl (flat_wi _ _ _) ?_ | with_reducible refine N.obl (flat_lim _ _) ?_ | with_reducible refine N.eq ?_ | with_reducible refine N.obl rfl ?_ | with_reducible refine N.obl ⟨by kernel_rfl, by kernel_rfl⟩ ?_ | with_reducible refine N.forkT ?_ | with_reducible refine N.forkF ?_ | exact N.true | refine N.obl (main2_ren (by rfl)) ?_ | refine N.obl (main_ren (by rfl) (by rfl)) ?_ | refine N.obl map_ren ?_ | refine N.obl (key_ren (by rfl)) ?_ | refine N.obl ints_ren ?_ | refine N.obl (.plain (by rfl)) ?_ | refine N.obl (.one (.ptr rfl)) ?_ | refine N.obl (.one (.map rfl)) ?_ | refine N.obl (.one (.slice rfl)) ?_ | fail_if_success skip)
    · intro x hx
      cases x with
      | none =>
        obtain ⟨k0, hk0, e0, he0⟩ := sortK_get (E := T.E) (i := 0) hpos
        obtain ⟨e1, hg⟩ := dGet_has he0
        repeat' (refine N.go ?_; first | with_reducible refine N.obl (by decide) ?_ | with_reducible refine N.obl (flat_wi _ _ _) ?_ | with_reducible refine N.obl (flat_lim _ _) ?_ | with_reducible refine N.eq ?_ | with_reducible refine N.obl rfl ?_ | with_reducible refine N.obl ⟨by kernel_rfl, by kernel_rfl⟩ ?_ | with_reducible refine N.forkT ?_ | with_reducible refine N.forkF ?_ | refine N.forkYes (by rw [decide_eq_true_eq]; omega) ?_ | refine N.forkNo (by rw [decide_eq_false_iff_not]; omega) ?_ | fail_if_success skip)
        refine N.go ?_
        refine N.idx 0 1 rfl hpos ?_
        repeat' (refine N.go ?_; first | with_reducible refine N.obl (by decide) ?_ | with_reducible refine N.obl (flat_wi _ _ _) ?_ | with_reducible refine N.obl (flat_lim _ _) ?_ | with_reducible refine N.eq ?_ | with_reducible refine N.obl rfl ?_ | with_reducible refine N.obl ⟨by kernel_rfl, by kernel_rfl⟩ ?_ | with_reducible refine N.forkT ?_ | with_reducible refine N.forkF ?_ | refine N.load _ (rd_ints 0 rfl hk0 rfl) ?_ | refine N_look entV T.E rfl Try.underlying64 Try.underlying3 Try.type36 rfl (entV e1) (by rw [hg]; rfl) rfl ?_ | refine N.forkYes (by rw [decide_eq_true_eq]; omega) ?_ | refine N.forkNo (by rw [decide_eq_false_iff_not]; omega) ?_ | fail_if_success skip)
        refine N.go ?_
        refine App0_mk (entV e1) (rd_all (by rfl) (by rfl)) (by decide) (by decide) (by decide) fun cap hcap => ?_
        repeat' (refine N.go ?_; first | with_reducible refine N.obl (by decide) ?_ | with_reducible refine N.obl (flat_wi _ _ _) ?_ | with_reducible refine N.obl (flat_lim _ _) ?_ | with_reducible refine N.eq ?_ | with_reducible refine N.obl rfl ?_ | with_reducible refine N.obl ⟨by kernel_rfl, by kernel_rfl⟩ ?_ | with_reducible refine N.forkT ?_ | with_reducible refine N.forkF ?_ | refine N.forkYes (by rw [decide_eq_true_eq]; omega) ?_ | refine N.forkNo (by rw [decide_eq_false_iff_not]; omega) ?_ | fail_if_success skip)
        refine N.go ?_
        refine N.nextR (some (1, cap)) [(0, 0), (1, 1), (2, 2), (3, 3), (7, 7), (9, 8)] ⟨⟨Nat.le_refl _, hpos, hcap⟩, by show T.E.length - 1 < T.E.length; omega⟩ ?_
        have hgr : ∀ i, i < cap → allF T.E 1 i = growen (fun _ => Ent.zero) 0 e1 i := fun i _ => by
          unfold allF growen
          by_cases h0 : i = 0
          · subst h0; rw [if_pos (by omega), if_neg (by omega), if_pos rfl]; exact entT_in hk0 hg
          · rw [if_neg (by omega), if_neg (by omega), if_neg h0]
        repeat' (refine N.go ?_; first | with_reducible refine N.obl (by decide) ?_ | with_reducible refine N.obl (flat_wi _ _ _) ?_ | with_reducible refine N.obl (flat_lim _ _) ?_ | with_reducible refine N.eq ?_ | with_reducible refine N.obl rfl ?_ | with_reducible refine N.obl ⟨by kernel_rfl, by kernel_rfl⟩ ?_ | with_reducible refine N.forkT ?_ | with_reducible refine N.forkF ?_ | exact N.true | refine N.obl (main2_ren (by rfl)) ?_ | refine N.obl (main_ren (by rfl) (by rfl)) ?_ | refine N.obl map_ren ?_ | refine N.obl (key_ren (by rfl)) ?_ | refine N.obl ints_ren ?_ | refine N.obl (.plain (by rfl)) ?_ | refine N.obl (.one (.ptr rfl)) ?_ | refine N.obl (.one (.map rfl)) ?_ | refine N.obl (.one (.slice rfl)) ?_ | refine N.obl (re_eq (int_eq (by rw [i64s _ (by omega) (by omega)]; omega)) rfl) ?_ | refine N.obl (grownen_ren (l := 0) hcap (fun j hj => absurd hj (by omega)) hgr) ?_ | fail_if_success skip)
      | some q =>
        obtain ⟨r, c⟩ := q
        obtain ⟨q1, q2, q3⟩ := hx
        have q1 : 1 ≤ r := q1
        have q2 : r ≤ T.E.length := q2
        have q3 : r ≤ c := q3
        by_cases hlt : r < T.E.length
        · obtain ⟨k0, hk0, e0, he0⟩ := sortK_get (E := T.E) (i := r) hlt
          obtain ⟨e1, hg⟩ := dGet_has he0
          have hset : allF T.E (r + 1) = seten (allF T.E r) r e1 := by
            funext i
            unfold allF seten
            by_cases h0 : i = r
            · subst h0; rw [if_pos (by omega), if_pos rfl]; exact entT_in hk0 hg
            · rw [if_neg h0]
              by_cases h1 : i < r
              · rw [if_pos (by omega)]; exact (if_pos h1).symm
              · rw [if_neg (by omega)]; exact (if_neg h1).symm
          have hgr : ∀ cap i, i < cap → allF T.E (r + 1) i = growen (allF T.E r) r e1 i := fun cap i _ => by
            rw [hset]
            unfold seten growen
            by_cases h0 : i < r
            · rw [if_neg (by omega), if_pos h0]
            · rw [if_neg h0]
              by_cases h1 : i = r
              · rw [if_pos h1, if_pos h1]
              · rw [if_neg h1, if_neg h1]; unfold allF; rw [if_neg h0]
          repeat' (refine N.go ?_; first | with_reducible refine N.obl (by decide) ?_ | with_reducible refine N.obl (flat_wi _ _ _) ?_ | with_reducible refine N.obl (flat_lim _ _) ?_ | with_reducible refine N.eq ?_ | with_reducible refine N.obl rfl ?_ | with_reducible refine N.obl ⟨by kernel_rfl, by kernel_rfl⟩ ?_ | with_reducible refine N.forkT ?_ | with_reducible refine N.forkF ?_ | refine N.forkYes (by rw [decide_eq_true_eq]; omega) ?_ | refine N.forkNo (by rw [decide_eq_false_iff_not]; omega) ?_ | fail_if_success skip)
          refine N.go ?_
          refine N.idx r 1 rfl hlt ?_
          repeat' (refine N.go ?_; first | with_reducible refine N.obl (by decide) ?_ | with_reducible refine N.obl (flat_wi _ _ _) ?_ | with_reducible refine N.obl (flat_lim _ _) ?_ | with_reducible refine N.eq ?_ | with_reducible refine N.obl rfl ?_ | with_reducible refine N.obl ⟨by kernel_rfl, by kernel_rfl⟩ ?_ | with_reducible refine N.forkT ?_ | with_reducible refine N.forkF ?_ | refine N.load _ (rd_ints r rfl hk0 (by first | rfl | omega)) ?_ | refine N_look entV T.E rfl Try.underlying64 Try.underlying3 Try.type36 rfl (entV e1) (by rw [hg]; rfl) rfl ?_ | refine N.forkYes (by rw [decide_eq_true_eq]; omega) ?_ | refine N.forkNo (by rw [decide_eq_false_iff_not]; omega) ?_ | fail_if_success skip)
          refine N.go ?_
          refine App_mk (entV e1) (rd_all (by rfl) (by rfl)) (by rfl) (by show r * 10 ≤ c * 10; omega) (by omega) (by show (r + 1) * 80 ≤ _; omega) (enC true c (seten (allF T.E r) r e1)) (fun h => wr_en (by omega) rfl) (fun hr => ?_) (fun hg2 cap hcap => ?_)
          · repeat' (refine N.go ?_; first | with_reducible refine N.obl (by decide) ?_ | with_reducible refine N.obl (flat_wi _ _ _) ?_ | with_reducible refine N.obl (flat_lim _ _) ?_ | with_reducible refine N.eq ?_ | with_reducible refine N.obl rfl ?_ | with_reducible refine N.obl ⟨by kernel_rfl, by kernel_rfl⟩ ?_ | with_reducible refine N.forkT ?_ | with_reducible refine N.forkF ?_ | refine N.forkYes (by rw [decide_eq_true_eq]; omega) ?_ | refine N.forkNo (by rw [decide_eq_false_iff_not]; omega) ?_ | fail_if_success skip)
            refine N.go ?_
            refine N.nextR (some (r + 1, c)) [(0, 0), (1, 1), (2, 2), (3, 3), (7, 7), (8, 8)] ⟨⟨by show 1 ≤ r + 1; omega, hlt, hr⟩, by show T.E.length - (r + 1) < T.E.length - r; omega⟩ ?_
            repeat' (refine N.go ?_; first | with_reducible refine N.obl (by decide) ?_ | with_reducible refine N.obl (flat_wi _ _ _) ?_ | with_reducible refine N.obl (flat_lim _ _) ?_ | with_reducible refine N.eq ?_ | with_reducible refine N.obl rfl ?_ | with_reducible refine N.obl ⟨by kernel_rfl, by kernel_rfl⟩ ?_ | with_reducible refine N.forkT ?_ | with_reducible refine N.forkF ?_ | exact N.true | refine N.obl (main2_ren (by rfl)) ?_ | refine N.obl (main_ren (by rfl) (by rfl)) ?_ | refine N.obl map_ren ?_ | refine N.obl (key_ren (by rfl)) ?_ | refine N.obl ints_ren ?_ | refine N.obl (.plain (by rfl)) ?_ | refine N.obl (.one (.ptr rfl)) ?_ | refine N.obl (.one (.map rfl)) ?_ | refine N.obl (.one (.slice rfl)) ?_ | refine N.obl (re_eq (int_eq (by rw [i64s _ (by omega) (by omega)]; omega)) rfl) ?_ | refine N.obl (enC_ren (fun i _ => by rw [hset])) ?_ | fail_if_success skip)
          · repeat' (refine N.go ?_; first | with_reducible refine N.obl (by decide) ?_ | with_reducible refine N.obl (flat_wi _ _ _) ?_ | with_reducible refine N.obl (flat_lim _ _) ?_ | with_reducible refine N.eq ?_ | with_reducible refine N.obl rfl ?_ | with_reducible refine N.obl ⟨by kernel_rfl, by kernel_rfl⟩ ?_ | with_reducible refine N.forkT ?_ | with_reducible refine N.forkF ?_ | refine N.forkYes (by rw [decide_eq_true_eq]; omega) ?_ | refine N.forkNo (by rw [decide_eq_false_iff_not]; omega) ?_ | fail_if_success skip)
            refine N.go ?_
            refine N.nextR (some (r + 1, cap)) [(0, 0), (1, 1), (2, 2), (3, 3), (7, 7), (10, 8)] ⟨⟨by show 1 ≤ r + 1; omega, hlt, hcap⟩, by show T.E.length - (r + 1) < T.E.length - r; omega⟩ ?_
            repeat' (refine N.go ?_; first | with_reducible refine N.obl (by decide) ?_ | with_reducible refine N.obl (flat_wi _ _ _) ?_ | with_reducible refine N.obl (flat_lim _ _) ?_ | with_reducible refine N.eq ?_ | with_reducible refine N.obl rfl ?_ | with_reducible refine N.obl ⟨by kernel_rfl, by kernel_rfl⟩ ?_ | with_reducible refine N.forkT ?_ | with_reducible refine N.forkF ?_ | exact N.true | refine N.obl (main2_ren (by rfl)) ?_ | refine N.obl (main_ren (by rfl) (by rfl)) ?_ | refine N.obl map_ren ?_ | refine N.obl (key_ren (by rfl)) ?_ | refine N.obl ints_ren ?_ | refine N.obl (.plain (by rfl)) ?_ | refine N.obl (.one (.ptr rfl)) ?_ | refine N.obl (.one (.map rfl)) ?_ | refine N.obl (.one (.slice rfl)) ?_ | refine N.obl (re_eq (int_eq (by rw [i64s _ (by omega) (by omega)]; omega)) rfl) ?_ | refine N.obl (grownen_ren (ci := enC true c (allF T.E r)) hcap (fun j hj => enC_f (by omega)) (hgr cap)) ?_ | fail_if_success skip)
        · obtain rfl : r = T.E.length := by omega
          repeat' (refine N.go ?_; first | with_reducible refine N.obl (by decide) ?_ | with_reducible refine N.obl (flat_wi _ _ _) ?_ | with_reducible refine N.obl (flat_lim _ _) ?_ | with_reducible refine N.eq ?_ | with_reducible refine N.obl rfl ?_ | with_reducible refine N.obl ⟨by kernel_rfl, by kernel_rfl⟩ ?_ | with_reducible refine N.forkT ?_ | with_reducible refine N.forkF ?_ | refine N.forkYes (by rw [decide_eq_true_eq]; omega) ?_ | refine N.forkNo (by rw [decide_eq_false_iff_not]; omega) ?_ | fail_if_success skip)
          refine N.go ?_
          refine tblClose T β 0 1 2 [8] tbl_piece (fun i hi => .inl (by simpa using hi)) hβ (by rfl) (by rfl) (by rfl) (by rfl) (by rfl) (by rfl) (by rfl) (by rfl) (by rfl) (by decide) (fun k hk => by simp at hk; omega) (fun k hk d hd l hl => ?_) (fun ρ ρ' ha => by have := ha 8 ⟨_, rfl⟩; simp [den, den2, den1, den0, denA, this]) ?_
          · obtain rfl : k = 8 := by simpa using hk
            obtain rfl : enC true c (allF T.E T.E.length) = d := by simpa using hd
            exact enC_safe hl
          refine N.some (some c) ⟨⟨q1, q3⟩, ?_⟩
          refine N.obl (.one (.slice rfl)) ?_
          refine N.obl ⟨⟨_, rfl, id, Nat.le_refl _, fun j hj => absurd hj (Nat.not_lt_zero j)⟩, trivial⟩ ?_
          refine N.obl ⟨⟨Nat.le_of_ble_eq_true rfl, enC_post (T' := allF T.E T.E.length) (fun _ _ => rfl) (by rfl)⟩, trivial⟩ ?_
          refine N.obl ⟨⟨.inr ⟨_, rfl, rfl⟩, trivial⟩, .inl rfl, trivial⟩ ?_
          exact N.true
set_option maxRecDepth 100000 in
set_option maxHeartbeats 2000000 in
theorem cAllI (x : Ext) (o : Bool) (most : Int) (E : List (Int × Ent)) (hE : E.length ≤ 64) (i i1 i2 K : Nat) (h : List (Option Chunk)) (hi : h[i]? = some (some (mainG x o most i1 i2))) (h1 : h[i1]? = some (some (mapC entV E))) (hii : i ≠ i1) (hK : h[K]? = some none) :
    CallAll Try.prog 19 [.pointer (some ⟨i, 0, some 0⟩)] h (allR E K [(i1, mapC entV E)]) := by
  have key := call_resall (G := tys) (h := h) (vs := [.pointer (some ⟨i, 0, some 0⟩)]) (fun _ : Unit => True) (fun _ => _) (α := Option Nat) (fun κ => match κ with | none => E = [] | some cap => 0 < E.length ∧ E.length ≤ cap) (fun κ => match κ with | none => .slice none 0 0 | some cap => .slice (some ⟨K, 0, some 0⟩) E.length cap) [⟨i, _, main2 most, noC⟩, ⟨i1, mapC entV E, mapC entV E, mapC entV E⟩] (fun _ => [noC, mapC entV E])
    (fun κ => match κ with | none => [] | some cap => [⟨K, 7, enC true cap (fun i => if i < E.length then entT E i else Ent.zero)⟩]) [.pointer (some ⟨0, 0, some 0⟩)] tysOK mixed Try.func19 (by rfl) (Try.call19) ⟨hi, h1, trivial⟩ ⟨⟨fun h => (by cases h), by show 2 ≤ 3; decide, main2_re (by rfl)⟩, ⟨fun h => ⟨rfl, Nat.le_refl _⟩, Nat.le_refl _, map_re⟩, trivial⟩ (fun κ _ => ⟨⟨fun h => (by cases h), by show 2 ≤ 3; decide, main2_re (by rfl)⟩, ⟨fun h => ⟨rfl, Nat.le_refl _⟩, Nat.le_refl _, map_re⟩, trivial⟩) (by simp [Apart, hii]) ⟨.inl rfl, .inr ⟨rfl, rfl⟩, trivial⟩ (fun κ hκ => by
      cases κ with
      | none => exact trivial
      | some cap => exact ⟨⟨hK, rfl, .inl (by show 0 < cap * 10; have := hκ.1; have := hκ.2; omega), by simp⟩, trivial⟩) ⟨.ptr rfl, trivial⟩ Opens.same ?_
  · refine callAll_mono key fun v ms hR => ?_
    obtain ⟨κ, hκ, rfl, rfl⟩ := hR
    cases κ with
    | none => exact .inl ⟨hκ, rfl, rfl⟩
    | some cap => exact .inr ⟨cap, hκ.1, hκ.2, rfl, rfl⟩
  rintro ⟨⟩ -
  repeat' (refine N.go ?_; first | with_reducible refine N.obl (by decide) ?_ | with_reducible refine N.obl (flat_wi _ _ _) ?_ | with_reducible refine N.obl (flat_lim _ _) ?_ | with_reducible refine N.eq ?_ | with_reducible refine N.obl rfl ?_ | with_reducible refine N.obl ⟨by kernel_rfl, by kernel_rfl⟩ ?_ | with_reducible refine N.forkT ?_ | with_reducible refine N.forkF ?_ | refine N.call (cKeysT 1 2 _ _ (by rfl) (by rfl)) ?_ | fail_if_success skip)
  refine N.go ?_
  refine N.callAll (cSortedT E 1 2 6 _ _ (by rfl) rfl (by rfl) (by rfl) (by omega)) fun v ms hR => ?_
  rcases hR with ⟨hE0, rfl, rfl⟩ | ⟨kc, hpos, hkc, rfl, rfl⟩
  · repeat' (refine N.go ?_; first | with_reducible refine N.obl (by decide) ?_ | with_reducible refine N.obl (flat_wi _ _ _) ?_ | with_reducible refine N.obl (flat_lim _ _) ?_ | with_reducible refine N.eq ?_ | with_reducible refine N.obl rfl ?_ | with_reducible refine N.obl ⟨by kernel_rfl, by kernel_rfl⟩ ?_ | with_reducible refine N.forkT ?_ | with_reducible refine N.forkF ?_ | refine N.forkYes (by rw [decide_eq_true_eq]; omega) ?_ | refine N.forkNo (by rw [decide_eq_false_iff_not]; omega) ?_ | fail_if_success skip)
    refine N.go ?_
    refine N.roll 1 ?_
    repeat' (refine N.go ?_; first | with_reducible refine N.obl (by decide) ?_ | with_reducible refine N.obl (flat_wi _ _ _) ?_ | with_reducible refine N.obl (flat_lim _ _) ?_ | with_reducible refine N.eq ?_ | with_reducible refine N.obl rfl ?_ | with_reducible refine N.obl ⟨by kernel_rfl, by kernel_rfl⟩ ?_ | with_reducible refine N.forkT ?_ | with_reducible refine N.forkF ?_ | refine N.forkYes (by rw [decide_eq_true_eq]; omega) ?_ | refine N.forkNo (by rw [decide_eq_false_iff_not]; omega) ?_ | fail_if_success skip)
    refine N.go ?_
    refine N.endSame ?_
    refine N.some none ⟨hE0, ?_⟩
    refine N.obl (.plain rfl) ?_
    refine N.obl ⟨map_post (by rfl), trivial⟩ ?_
    refine N.obl trivial ?_
    refine N.obl ⟨⟨.inl rfl, .inr ⟨_, rfl, rfl⟩, trivial⟩, trivial⟩ ?_
    exact N.true
  · repeat' (refine N.go ?_; first | with_reducible refine N.obl (by decide) ?_ | with_reducible refine N.obl (flat_wi _ _ _) ?_ | with_reducible refine N.obl (flat_lim _ _) ?_ | with_reducible refine N.eq ?_ | with_reducible refine N.obl rfl ?_ | with_reducible refine N.obl ⟨by kernel_rfl, by kernel_rfl⟩ ?_ | with_reducible refine N.forkT ?_ | with_reducible refine N.forkF ?_ | refine N.forkYes (by rw [decide_eq_true_eq]; omega) ?_ | refine N.forkNo (by rw [decide_eq_false_iff_not]; omega) ?_ | fail_if_success skip)
    refine N.go ?_
    refine N_loopD 4096 ?_ ?_
    · repeat' (refine N.go ?_; first | with_reducible refine N.obl (by decide) ?_ | with_reducible refine N.obl (flat_wi _ _ _) ?_ | with_reducible refine N.obl (flat_lim _ _) ?_ | with_reducible refine N.eq ?_ | with_reducible refine N.obl rfl ?_ | with_reducible refine N.obl ⟨by kernel_rfl, by kernel_rfl⟩ ?_ | with_reducible refine N.forkT ?_ | with_reducible refine N.forkF ?_ | exact N.true | with_reducible refine N.obl (ChunkLe.refl _) ?_ | fail_if_success skip)
    refine N.go ?_
    refine N.loopR (α := Option (Nat × Nat)) (fun x => match x with | none => True | some q => 1 ≤ q.1 ∧ q.1 ≤ E.length ∧ q.1 ≤ q.2) (fun x => match x with | none => E.length | some q => E.length - q.1) (fun x => match x with | none => [(15, .int .i64 0), (3, .slice none 0 0)] | some q => [(15, .int .i64 (q.1 : Int)), (3, .slice (some ⟨7, 0, some 0⟩) q.1 q.2)]) (fun x => match x with | none => [] | some q => [(7, enC true q.2 (allF E q.1))]) none [(0, 0), (1, 1), (2, 2), (6, 6)] trivial ?_ ?_
    · repeat' (refine N.go ?_; first | with_reducible refine N.obl (by decide) ?_ | with_reducible refine N.obl (flat_wi _ _ _) ?_ | with_reducible refine N.obl (flat_lim _ _) ?_ | with_reducible refine N.eq ?_ | with_reducible refine N.obl rfl ?_ | with_reducible refine N.obl ⟨by kernel_rfl, by kernel_rfl⟩ ?_ | with_reducible refine N.forkT ?_ | with_reducible refine N.forkF ?_ | exact N.true | refine N.obl (main2_ren (by rfl)) ?_ | refine N.obl (main_ren (by rfl) (by rfl)) ?_ | refine N.obl map_ren ?_ | refine N.obl (key_ren (by rfl)) ?_ | refine N.obl ints_ren ?_ | refine N.obl (.plain (by rfl)) ?_ | refine N.obl (.one (.ptr rfl)) ?_ | refine N.obl (.one (.map rfl)) ?_ | refine N.obl (.one (.slice rfl)) ?_ | fail_if_success skip)
    · intro x hx
      cases x with
      | none =>
        obtain ⟨k0, hk0, e0, he0⟩ := sortK_get (E := E) (i := 0) hpos
        obtain ⟨e1, hg⟩ := dGet_has he0
        repeat' (refine N.go ?_; first | with_reducible refine N.obl (by decide) ?_ | with_reducible refine N.obl (flat_wi _ _ _) ?_ | with_reducible refine N.obl (flat_lim _ _) ?_ | with_reducible refine N.eq ?_ | with_reducible refine N.obl rfl ?_ | with_reducible refine N.obl ⟨by kernel_rfl, by kernel_rfl⟩ ?_ | with_reducible refine N.forkT ?_ | with_reducible refine N.forkF ?_ | refine N.forkYes (by rw [decide_eq_true_eq]; omega) ?_ | refine N.forkNo (by rw [decide_eq_false_iff_not]; omega) ?_ | fail_if_success skip)
        refine N.go ?_
        refine N.idx 0 1 rfl hpos ?_
        repeat' (refine N.go ?_; first | with_reducible refine N.obl (by decide) ?_ | with_reducible refine N.obl (flat_wi _ _ _) ?_ | with_reducible refine N.obl (flat_lim _ _) ?_ | with_reducible refine N.eq ?_ | with_reducible refine N.obl rfl ?_ | with_reducible refine N.obl ⟨by kernel_rfl, by kernel_rfl⟩ ?_ | with_reducible refine N.forkT ?_ | with_reducible refine N.forkF ?_ | refine N.load _ (rd_ints 0 rfl hk0 rfl) ?_ | refine N_look entV E rfl Try.underlying64 Try.underlying3 Try.type36 rfl (entV e1) (by rw [hg]; rfl) rfl ?_ | refine N.forkYes (by rw [decide_eq_true_eq]; omega) ?_ | refine N.forkNo (by rw [decide_eq_false_iff_not]; omega) ?_ | fail_if_success skip)
        refine N.go ?_
        refine App0_mk (entV e1) (rd_all (by rfl) (by rfl)) (by decide) (by decide) (by decide) fun cap hcap => ?_
        repeat' (refine N.go ?_; first | with_reducible refine N.obl (by decide) ?_ | with_reducible refine N.obl (flat_wi _ _ _) ?_ | with_reducible refine N.obl (flat_lim _ _) ?_ | with_reducible refine N.eq ?_ | with_reducible refine N.obl rfl ?_ | with_reducible refine N.obl ⟨by kernel_rfl, by kernel_rfl⟩ ?_ | with_reducible refine N.forkT ?_ | with_reducible refine N.forkF ?_ | refine N.forkYes (by rw [decide_eq_true_eq]; omega) ?_ | refine N.forkNo (by rw [decide_eq_false_iff_not]; omega) ?_ | fail_if_success skip)
        refine N.go ?_
        refine N.nextR (some (1, cap)) [(0, 0), (1, 1), (2, 2), (6, 6), (8, 7)] ⟨⟨Nat.le_refl _, hpos, hcap⟩, by show E.length - 1 < E.length; omega⟩ ?_
        have hgr : ∀ i, i < cap → allF E 1 i = growen (fun _ => Ent.zero) 0 e1 i := fun i _ => by
          unfold allF growen
          by_cases h0 : i = 0
          · subst h0; rw [if_pos (by omega), if_neg (by omega), if_pos rfl]; exact entT_in hk0 hg
          · rw [if_neg (by omega), if_neg (by omega), if_neg h0]
        repeat' (refine N.go ?_; first | with_reducible refine N.obl (by decide) ?_ | with_reducible refine N.obl (flat_wi _ _ _) ?_ | with_reducible refine N.obl (flat_lim _ _) ?_ | with_reducible refine N.eq ?_ | with_reducible refine N.obl rfl ?_ | with_reducible refine N.obl ⟨by kernel_rfl, by kernel_rfl⟩ ?_ | with_reducible refine N.forkT ?_ | with_reducible refine N.forkF ?_ | exact N.true | refine N.obl (main2_ren (by rfl)) ?_ | refine N.obl (main_ren (by rfl) (by rfl)) ?_ | refine N.obl map_ren ?_ | refine N.obl (key_ren (by rfl)) ?_ | refine N.obl ints_ren ?_ | refine N.obl (.plain (by rfl)) ?_ | refine N.obl (.one (.ptr rfl)) ?_ | refine N.obl (.one (.map rfl)) ?_ | refine N.obl (.one (.slice rfl)) ?_ | refine N.obl (re_eq (int_eq (by rw [i64s _ (by omega) (by omega)]; omega)) rfl) ?_ | refine N.obl (grownen_ren (l := 0) hcap (fun j hj => absurd hj (by omega)) hgr) ?_ | fail_if_success skip)
      | some q =>
        obtain ⟨r, c⟩ := q
        obtain ⟨q1, q2, q3⟩ := hx
        have q1 : 1 ≤ r := q1
        have q2 : r ≤ E.length := q2
        have q3 : r ≤ c := q3
        by_cases hlt : r < E.length
        · obtain ⟨k0, hk0, e0, he0⟩ := sortK_get (E := E) (i := r) hlt
          obtain ⟨e1, hg⟩ := dGet_has he0
          have hset : allF E (r + 1) = seten (allF E r) r e1 := by
            funext i
            unfold allF seten
            by_cases h0 : i = r
            · subst h0; rw [if_pos (by omega), if_pos rfl]; exact entT_in hk0 hg
            · rw [if_neg h0]
              by_cases h1 : i < r
              · rw [if_pos (by omega)]; exact (if_pos h1).symm
              · rw [if_neg (by omega)]; exact (if_neg h1).symm
          have hgr : ∀ cap i, i < cap → allF E (r + 1) i = growen (allF E r) r e1 i := fun cap i _ => by
            rw [hset]
            unfold seten growen
            by_cases h0 : i < r
            · rw [if_neg (by omega), if_pos h0]
            · rw [if_neg h0]
              by_cases h1 : i = r
              · rw [if_pos h1, if_pos h1]
              · rw [if_neg h1, if_neg h1]; unfold allF; rw [if_neg h0]
          repeat' (refine N.go ?_; first | with_reducible refine N.obl (by decide) ?_ | with_reducible refine N.obl (flat_wi _ _ _) ?_ | with_reducible refine N.obl (flat_lim _ _) ?_ | with_reducible refine N.eq ?_ | with_reducible refine N.obl rfl ?_ | with_reducible refine N.obl ⟨by kernel_rfl, by kernel_rfl⟩ ?_ | with_reducible refine N.forkT ?_ | with_reducible refine N.forkF ?_ | refine N.forkYes (by rw [decide_eq_true_eq]; omega) ?_ | refine N.forkNo (by rw [decide_eq_false_iff_not]; omega) ?_ | fail_if_success skip)
          refine N.go ?_
          refine N.idx r 1 rfl hlt ?_
          repeat' (refine N.go ?_; first | with_reducible refine N.obl (by decide) ?_ | with_reducible refine N.obl (flat_wi _ _ _) ?_ | with_reducible refine N.obl (flat_lim _ _) ?_ | with_reducible refine N.eq ?_ | with_reducible refine N.obl rfl ?_ | with_reducible refine N.obl ⟨by kernel_rfl, by kernel_rfl⟩ ?_ | with_reducible refine N.forkT ?_ | with_reducible refine N.forkF ?_ | refine N.load _ (rd_ints r rfl hk0 (by first | rfl | omega)) ?_ | refine N_look entV E rfl Try.underlying64 Try.underlying3 Try.type36 rfl (entV e1) (by rw [hg]; rfl) rfl ?_ | refine N.forkYes (by rw [decide_eq_true_eq]; omega) ?_ | refine N.forkNo (by rw [decide_eq_false_iff_not]; omega) ?_ | fail_if_success skip)
          refine N.go ?_
          refine App_mk (entV e1) (rd_all (by rfl) (by rfl)) (by rfl) (by show r * 10 ≤ c * 10; omega) (by omega) (by show (r + 1) * 80 ≤ _; omega) (enC true c (seten (allF E r) r e1)) (fun h => wr_en (by omega) rfl) (fun hr => ?_) (fun hg2 cap hcap => ?_)
          · repeat' (refine N.go ?_; first | with_reducible refine N.obl (by decide) ?_ | with_reducible refine N.obl (flat_wi _ _ _) ?_ | with_reducible refine N.obl (flat_lim _ _) ?_ | with_reducible refine N.eq ?_ | with_reducible refine N.obl rfl ?_ | with_reducible refine N.obl ⟨by kernel_rfl, by kernel_rfl⟩ ?_ | with_reducible refine N.forkT ?_ | with_reducible refine N.forkF ?_ | refine N.forkYes (by rw [decide_eq_true_eq]; omega) ?_ | refine N.forkNo (by rw [decide_eq_false_iff_not]; omega) ?_ | fail_if_success skip)
            refine N.go ?_
            refine N.nextR (some (r + 1, c)) [(0, 0), (1, 1), (2, 2), (6, 6), (7, 7)] ⟨⟨by show 1 ≤ r + 1; omega, hlt, hr⟩, by show E.length - (r + 1) < E.length - r; omega⟩ ?_
            repeat' (refine N.go ?_; first | with_reducible refine N.obl (by decide) ?_ | with_reducible refine N.obl (flat_wi _ _ _) ?_ | with_reducible refine N.obl (flat_lim _ _) ?_ | with_reducible refine N.eq ?_ | with_reducible refine N.obl rfl ?_ | with_reducible refine N.obl ⟨by kernel_rfl, by kernel_rfl⟩ ?_ | with_reducible refine N.forkT ?_ | with_reducible refine N.forkF ?_ | exact N.true | refine N.obl (main2_ren (by rfl)) ?_ | refine N.obl (main_ren (by rfl) (by rfl)) ?_ | refine N.obl map_ren ?_ | refine N.obl (key_ren (by rfl)) ?_ | refine N.obl ints_ren ?_ | refine N.obl (.plain (by rfl)) ?_ | refine N.obl (.one (.ptr rfl)) ?_ | refine N.obl (.one (.map rfl)) ?_ | refine N.obl (.one (.slice rfl)) ?_ | refine N.obl (re_eq (int_eq (by rw [i64s _ (by omega) (by omega)]; omega)) rfl) ?_ | refine N.obl (enC_ren (fun i _ => by rw [hset])) ?_ | fail_if_success skip)
          · repeat' (refine N.go ?_; first | with_reducible refine N.obl (by decide) ?_ | with_reducible refine N.obl (flat_wi _ _ _) ?_ | with_reducible refine N.obl (flat_lim _ _) ?_ | with_reducible refine N.eq ?_ | with_reducible refine N.obl rfl ?_ | with_reducible refine N.obl ⟨by kernel_rfl, by kernel_rfl⟩ ?_ | with_reducible refine N.forkT ?_ | with_reducible refine N.forkF ?_ | refine N.forkYes (by rw [decide_eq_true_eq]; omega) ?_ | refine N.forkNo (by rw [decide_eq_false_iff_not]; omega) ?_ | fail_if_success skip)
            refine N.go ?_
            refine N.nextR (some (r + 1, cap)) [(0, 0), (1, 1), (2, 2), (6, 6), (9, 7)] ⟨⟨by show 1 ≤ r + 1; omega, hlt, hcap⟩, by show E.length - (r + 1) < E.length - r; omega⟩ ?_
            repeat' (refine N.go ?_; first | with_reducible refine N.obl (by decide) ?_ | with_reducible refine N.obl (flat_wi _ _ _) ?_ | with_reducible refine N.obl (flat_lim _ _) ?_ | with_reducible refine N.eq ?_ | with_reducible refine N.obl rfl ?_ | with_reducible refine N.obl ⟨by kernel_rfl, by kernel_rfl⟩ ?_ | with_reducible refine N.forkT ?_ | with_reducible refine N.forkF ?_ | exact N.true | refine N.obl (main2_ren (by rfl)) ?_ | refine N.obl (main_ren (by rfl) (by rfl)) ?_ | refine N.obl map_ren ?_ | refine N.obl (key_ren (by rfl)) ?_ | refine N.obl ints_ren ?_ | refine N.obl (.plain (by rfl)) ?_ | refine N.obl (.one (.ptr rfl)) ?_ | refine N.obl (.one (.map rfl)) ?_ | refine N.obl (.one (.slice rfl)) ?_ | refine N.obl (re_eq (int_eq (by rw [i64s _ (by omega) (by omega)]; omega)) rfl) ?_ | refine N.obl (grownen_ren (ci := enC true c (allF E r)) hcap (fun j hj => enC_f (by omega)) (hgr cap)) ?_ | fail_if_success skip)
        · obtain rfl : r = E.length := by omega
          repeat' (refine N.go ?_; first | with_reducible refine N.obl (by decide) ?_ | with_reducible refine N.obl (flat_wi _ _ _) ?_ | with_reducible refine N.obl (flat_lim _ _) ?_ | with_reducible refine N.eq ?_ | with_reducible refine N.obl rfl ?_ | with_reducible refine N.obl ⟨by kernel_rfl, by kernel_rfl⟩ ?_ | with_reducible refine N.forkT ?_ | with_reducible refine N.forkF ?_ | refine N.forkYes (by rw [decide_eq_true_eq]; omega) ?_ | refine N.forkNo (by rw [decide_eq_false_iff_not]; omega) ?_ | fail_if_success skip)
          refine N.go ?_
          refine N.endSame ?_
          refine N.some (some c) ⟨⟨q1, q3⟩, ?_⟩
          refine N.obl (.one (.slice rfl)) ?_
          refine N.obl ⟨map_post (by rfl), trivial⟩ ?_
          refine N.obl ⟨⟨Nat.le_of_ble_eq_true rfl, enC_post (T' := allF E E.length) (fun _ _ => rfl) (by rfl)⟩, trivial⟩ ?_
          refine N.obl ⟨⟨.inl rfl, .inr ⟨_, rfl, rfl⟩, trivial⟩, .inl rfl, trivial⟩ ?_
          exact N.true
end Go.Proofs.Ytpafcfelaaibgaa
