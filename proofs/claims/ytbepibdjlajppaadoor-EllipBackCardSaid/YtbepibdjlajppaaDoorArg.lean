
/-
  Arguments that lie in memory: slices of cells that hold no addresses, aas the evaluator takes them.
-/
import Derived.Test.YtbepibdjlajppaaDoorEngB
import Derived.Test.YtbepibdjlajppaaDoorBase
set_option linter.unusedVariables false
set_option linter.unusedSimpArgs false
namespace Go.Proofs.YtbepibdjlajppaaDoor.Sx
open Go Go.RowKit

/-- A stretch that is only read. -/
abbrev segC (n : Nat) (f : Nat → Value) : Chunk := ⟨false, n, [(0, n, .agg ⟨segL n f⟩)]⟩
theorem seg_cell {o : Bool} {n : Nat} {f : Nat → Value} {j : Nat} (h : j < n) : (⟨o, n, [(0, n, .agg ⟨segL n f⟩)]⟩ : Chunk).f j = f j := by
  show cellOf _ _ = _
  rw [cellOf_cons, if_pos (by omega)]
  exact segL_get h
theorem reads_seg {o : Bool} {m p k : Nat} {f : Nat → Value} (vs : List Value) (hp : p + k ≤ m) (hl : vs.length = k) (hv : ∀ j, j < k → f (p + j) = vs.getD j undef) : Reads ⟨o, m, [(0, m, .agg ⟨segL m f⟩)]⟩ p true k (.agg ⟨vs⟩) :=
  ⟨hp, _, rfl, hl, fun j hj => by rw [seg_cell (by omega)]; exact hv j hj⟩
theorem reads_seg1 {o : Bool} {m p : Nat} {f : Nat → Value} {v : Value} (hp : p < m) (h1 : v.oneCell' = true) (hv : f p = v) : Reads ⟨o, m, [(0, m, .agg ⟨segL m f⟩)]⟩ p false 1 v :=
  ⟨hp, h1, by rw [seg_cell hp]; exact hv⟩

/-! ### Values without addresses: they stay what they are when a stretch is forgotten -/
def lit1 (v : Value) : Bool :=
  match v with
  | .int _ _ | .bool _ | .string _ | .float _ _ | .complex _ _ _ | .nilFunc | .nilIface => true
  | .pointer none | .slice none _ _ => true
  | _ => false
theorem lit1_plain {v : Value} (h : lit1 v = true) : plain1 v = true := by
  cases v with
  | pointer a => cases a <;> first | rfl | (simp [lit1] at h)
  | slice a l c => cases a <;> first | rfl | (simp [lit1] at h)
  | _ => first | rfl | (simp [lit1] at h)
theorem lit1_safe {h : List (Option Chunk)} {v : Value} (hv : lit1 v = true) : Safe1 h v := by
  cases v with
  | pointer a => cases a <;> first | trivial | (simp [lit1] at hv)
  | slice a l c => cases a <;> first | trivial | (simp [lit1] at hv)
  | _ => first | trivial | (simp [lit1] at hv)
theorem safe_agg {h : List (Option Chunk)} {l : List Value} (hl : l.all lit1 = true) : Safe h (.agg ⟨l⟩) := fun x hx => lit1_safe (List.all_eq_true.1 hl x hx)
theorem safe_seg {h : List (Option Chunk)} {o : Bool} {n : Nat} {f : Nat → Value} (hl : ∀ j, j < n → lit1 (f j) = true) : ∀ j, j < (⟨o, n, [(0, n, .agg ⟨segL n f⟩)]⟩ : Chunk).n → Safe1 h ((⟨o, n, [(0, n, .agg ⟨segL n f⟩)]⟩ : Chunk).f j) := fun j hj => by
  rw [seg_cell hj]; exact lit1_safe (hl j hj)
theorem safe_row {h : List (Option Chunk)} {o : Bool} {n : Nat} {l : List Value} (hn : l.length = n) (hl : l.all lit1 = true) : ∀ j, j < (⟨o, n, [(0, n, .agg ⟨l⟩)]⟩ : Chunk).n → Safe1 h ((⟨o, n, [(0, n, .agg ⟨l⟩)]⟩ : Chunk).f j) := fun j hj => by
  have hj : j < n := hj
  show Safe1 h (cellOf _ _)
  rw [cellOf_cons, if_pos (by omega)]
  simp only [cellIn, Nat.sub_zero, List.getD_eq_getElem?_getD]
  rw [List.getElem?_eq_getElem (by omega)]
  exact lit1_safe (List.all_eq_true.1 hl _ (List.getElem_mem _))
theorem rows_lit {n k : Nat} {f : Nat → Value} (hk : 0 < k) (h : ∀ i, i < n → ∀ j, j < k → lit1 (f (i * k + j)) = true) : ∀ j, j < n * k → lit1 (f j) = true := fun j hj => by
  have := h (j / k) ((Nat.div_lt_iff_lt_mul hk).2 hj) (j % k) (Nat.mod_lt _ hk)
  rwa [show j / k * k + j % k = j from by rw [Nat.mul_comm]; exact Nat.div_add_mod j k] at this

structure Seen where
  a : Addr
  n : Nat
  f : Nat → Value
def SeenIn (w : World) (s : Seen) : Prop := s.a.spot = none ∧ s.a.block < w.heap.size ∧ ∀ j, j < s.n → w.cell? (s.a.add j) = some (s.f j) ∧ plain1 (s.f j) = true
theorem SeenIn.of {w : World} {A : Option Addr} {m : Nat} {f : Nat → Value} (h : Seg w w.heap.size A m f) (hm : 0 < m) (hp : ∀ j, j < m → plain1 (f j) = true) : ∃ a, A = some a ∧ SeenIn w ⟨a, m, f⟩ := by
  obtain ⟨a, rfl, hb, hc⟩ := h hm
  refine ⟨a, rfl, ?_, hb, fun j hj => ⟨hc j hj, hp j hj⟩⟩
  have := hc 0 hm
  cases e : a.spot with
  | none => rfl
  | some s =>
    exfalso
    have e0 : a.add 0 = a := rfl
    rw [e0] at this
    unfold World.cell? at this
    rw [e] at this
    simp at this
    split at this <;> simp at this
theorem okWide_seen {P : Program} {W : World} {r : Reach} {base : Nat} {t e : TypeId} {a : Addr} {len cap : Nat} (ht : P.underlying t = some (.slice e)) (hv : Value.okWide P W r base t (.slice (some a) len cap)) : a.spot = none ∧ a.block < W.heap.size ∧ len ≤ cap := by
  simp only [Value.okWide, ht, Cell.okWide, Cell.ok, World.has] at hv
  obtain ⟨h1, h2, h3, h4, row, cells, h5, _⟩ := hv
  refine ⟨h4, ?_, h1⟩
  unfold World.shape? at h5
  cases e : W.heap[a.block]? with
  | none => rw [e] at h5; simp at h5
  | some o => exact (Array.getElem?_eq_some_iff.1 e).1
theorem okWide_nil {P : Program} {W : World} {r : Reach} {base : Nat} {t e : TypeId} {len cap : Nat} (ht : P.underlying t = some (.slice e)) (hv : Value.okWide P W r base t (.slice none len cap)) : len = 0 ∧ cap = 0 := by
  simp only [Value.okWide, ht, Cell.okWide, Cell.ok] at hv
  split at hv <;> simp_all
theorem SeenIn.some {P : Program} {w : World} {r : Reach} {base : Nat} {t e : TypeId} {a : Addr} {len cap m : Nat} {f : Nat → Value} (ht : P.underlying t = Option.some (.slice e)) (hv : Value.okWide P w r base t (.slice (Option.some a) len cap))
    (h : Seg w w.heap.size (Option.some a) m f) (hp : ∀ j, j < m → lit1 (f j) = true) : SeenIn w ⟨a, m, f⟩ := by
  obtain ⟨h1, h2, _⟩ := okWide_seen ht hv
  refine ⟨h1, h2, fun j hj => ⟨?_, lit1_plain (hp j hj)⟩⟩
  obtain ⟨x, hx, _, hc⟩ := h (Nat.lt_of_le_of_lt (Nat.zero_le _) hj)
  obtain rfl : a = x := by simpa using hx
  exact hc j hj
inductive ArgIs (sg : List Seen) : Value → Value → Prop
  | plain {v : Value} (h : plain2 v = true) : ArgIs sg v v
  | slice {k l c s0 n : Nat} {a : Addr} {f : Nat → Value} (h : sg[k]? = some ⟨a, n, f⟩) : ArgIs sg (.slice (some ⟨k, 0, some s0⟩) l c) (.slice (some a) l c)
def seenH (sg : List Seen) : List (Option Chunk) := sg.map fun s => some (segC s.n s.f)

section
variable {P : Program} {G : Tys}
theorem calls_args {f : FuncId} {fn : Func} {c : Code} {vs xs : List Value} {V : Value} (sg : List Seen) (w : World) (hG : TysOK P G) (hm : P.follows .mixedOrders = true) (hf : P.funcs[f]? = some fn) (hb : fn.body = some c)
    (hs : ∀ s ∈ sg, SeenIn w s) (hx : All2 (ArgIs sg) vs xs) (hV : plain3 V = true)
    (hwp : initK vs fn.ntmps fun t => wpC P G 0 c (bodyQ P G fn fun v _ => N (v = V)) ⟨t, seenH sg⟩) : Calls P f ⟨xs⟩ w fun e w' => e = .returned V ∧ Below w.heap.size w w' := by
  let ρ : Nat → Nat × Nat := fun k => match sg[k]? with
    | some s => (s.a.block, s.a.off)
    | none => (0, 0)
  have hρ : ∀ k s, sg[k]? = some s → ρ k = (s.a.block, s.a.off) := fun k s hk => by show (match sg[k]? with | some s => _ | none => _) = _; rw [hk]
  have getP : ∀ (k : Nat) (c : Chunk), (seenH sg)[k]? = some (some c) → ∃ s : Seen, sg[k]? = some s ∧ segC s.n s.f = c := fun k c hk => by
    simp only [seenH, List.getElem?_map] at hk
    cases e : sg[k]? with
    | none => rw [e] at hk; cases hk
    | some s => rw [e] at hk; exact ⟨s, rfl, by simpa using hk⟩
  have filH : ∀ (k : Nat) (s : Seen), sg[k]? = some s → Fil (seenH sg) k := fun k s hk => ⟨_, by simp only [seenH, List.getElem?_map, hk]; rfl⟩
  have addr : ∀ s ∈ sg, ∀ j, (⟨s.a.block, s.a.off + j, none⟩ : Addr) = s.a.add j := fun s hs' j => by
    obtain ⟨h1, _⟩ := hs s hs'
    obtain ⟨⟨b, o, sp⟩, n, f⟩ := s
    simp only at h1
    subst h1
    rw [add_at]
  have H : HOK ⟨w, fun _ => False, 0, ρ⟩ ρ (seenH sg) w := by
    refine ⟨Evo.refl _ _, fun i hi => absurd hi (by simp), fun k c hk => ?_, fun k c hk j hj => ?_, fun k c hk ho => ?_, fun k c l d hk ho => ?_, ExtOK.nil fun k c hk => ?_⟩
    · obtain ⟨s, hs', rfl⟩ := getP k c hk
      rw [hρ k s hs']; exact (hs s (List.mem_of_getElem? hs')).2.1
    · obtain ⟨s, hs', rfl⟩ := getP k c hk
      have hm' := List.mem_of_getElem? hs'
      have hj : j < s.n := hj
      obtain ⟨h1, h2⟩ := (hs s hm').2.2 j hj
      rw [hρ k s hs']
      refine ⟨s.f j, by rw [addr s hm']; exact h1, ?_⟩
      rw [seg_cell hj]
      exact Den1.plain h2
    · obtain ⟨s, hs', rfl⟩ := getP k c hk; cases ho
    · obtain ⟨s, hs', rfl⟩ := getP k c hk; cases ho
    · obtain ⟨s, hs', rfl⟩ := getP k c hk; rfl
  have hargs : ∀ (aas ys : List Value), All2 (ArgIs sg) aas ys → All2 (Den (Fil (seenH sg)) ρ) aas ys := by
    intro aas
    induction aas with
    | nil => intro ys h; cases ys with
      | nil => exact trivial
      | cons _ _ => exact h.elim
    | cons a aas ih => intro ys h; cases ys with
      | nil => exact h.elim
      | cons y ys =>
        refine ⟨?_, ih ys h.2⟩
        have h1 := h.1
        cases h1 with
        | plain hp => exact Den.plain hp
        | slice hk =>
          rename_i k l c s0 n a f
          intro r hr
          have e := hr k (filH k _ hk)
          rw [hρ k _ hk] at e
          simp only [den, den2, den1, den0, denA, e]
          rw [addr _ (List.mem_of_getElem? hk) 0]
          rfl
  refine (calls_sx (X := ⟨w, fun _ => False, 0, ρ⟩) (args := ⟨xs⟩) hG hm hf hb H (hargs _ _ hx) hwp).mono ?_
  rintro e w' ⟨ρ', v, st, x, rfl, H', hd, hv⟩
  have hv := hv.out
  subst hv
  refine ⟨?_, H'.evo.below⟩
  rw [← hd.self, den_plain3 hV]
end
end Go.Proofs.YtbepibdjlajppaaDoor.Sx
