
/-
  Words for memory that the walks of this claim use: a stretch of cells that reads as a function; what is kept when blocks are laid; the frame of a law's row; a struct argument read cell by cell.
-/
import Derived.WalkKit
import Derived.WalkSpells
import Derived.WalkLawsBesides
import Derived.ProofKit
import Derived.OpenShut
import Derived.ChangeOld
import Derived.SizedLaws
import Derived.Lib.Hide
import Derived.Deep.Slices
set_option linter.unusedVariables false
namespace Go.Proofs.YtbepibdjlajppaaDoor
open Go.ChangeShapes Go.WideShapes Go.ChangeAt Go.RowKit

theorem ret_bool {a b : Bool} (h : a = b) : Ending.returned (.bool a) = .returned (.bool b) := by rw [h]
theorem ret_int {k : IntKind} {a b : Int} (h : a = b) : Ending.returned (.int k a) = .returned (.int k b) := by rw [h]

theorem add_block (a : Addr) (n : Nat) : (a.add n).block = a.block := by unfold Addr.add; split <;> rfl
theorem add_add (a : Addr) (i j : Nat) : (a.add i).add j = a.add (i + j) := by
  unfold Addr.add
  by_cases hi : i = 0
  · by_cases hj : j = 0 <;> simp [hi, hj]
  · by_cases hj : j = 0
    · simp [hi, hj]
    · simp [hi, hj, Nat.add_assoc]
theorem add_zero_at (b i : Nat) : (⟨b, 0, none⟩ : Addr).add i = ⟨b, i, none⟩ := by
  unfold Addr.add
  split
  · subst i; rfl
  · simp

/-- The first m cells at A hold f, and they lie below block B (of no cells nothing is said). -/
def Seg (w : World) (B : Nat) (A : Option Addr) (m : Nat) (f : Nat → Value) : Prop :=
  0 < m → ∃ x, A = some x ∧ x.block < B ∧ ∀ j, j < m → w.cell? (x.add j) = some (f j)

section
variable {w w' : World} {B B' m : Nat} {A : Option Addr} {f : Nat → Value}
theorem Seg.zero : Seg w B A 0 f := fun h => absurd h (by omega)
theorem Seg.keep (h : Seg w B A m f) (hk : ∀ p : Addr, p.block < B → w'.cell? p = w.cell? p) : Seg w' B A m f := fun hm => by
  obtain ⟨x, e, hb, hc⟩ := h hm
  exact ⟨x, e, hb, fun j hj => (hk _ (by rw [add_block]; exact hb)).trans (hc j hj)⟩
theorem Seg.below (h : Seg w B A m f) (hb : Below B w w') : Seg w' B A m f := h.keep fun _ hp => hb.cell hp
theorem Seg.more (h : Seg w B A m f) (hB : B ≤ B') : Seg w B' A m f := fun hm => by
  obtain ⟨x, e, hb, hc⟩ := h hm
  exact ⟨x, e, by omega, hc⟩
theorem Seg.same {g : Nat → Value} (h : Seg w B A m f) (e : ∀ j, j < m → f j = g j) : Seg w B A m g := fun hm => by
  obtain ⟨x, ex, hb, hc⟩ := h hm
  exact ⟨x, ex, hb, fun j hj => by rw [hc j hj, e j hj]⟩
theorem Seg.less {n : Nat} (h : Seg w B A m f) (e : n ≤ m) : Seg w B A n f := fun hm => by
  obtain ⟨x, ex, hb, hc⟩ := h (by omega)
  exact ⟨x, ex, hb, fun j hj => hc j (by omega)⟩
theorem Seg.alloc (h : Seg w B A m f) (hB : B ≤ w.heap.size) (o : Obj) : Seg (w.alloc o) B A m f := h.below ((Below.refl _ _).alloc hB o)
theorem Seg.drew (h : Seg w B A m f) : Seg w.drew B A m f := h
end

/-- A new block of cells. -/
theorem Seg.new (w : World) (ty : TypeId) (vs : Array Value) (b : Nat) (hb : b = w.heap.size) (f : Nat → Value) (hf : ∀ j, j < vs.size → vs[j]? = some (f j)) :
    Seg (w.alloc (.cells vs ty)) (w.heap.size + 1) (some ⟨b, 0, none⟩) vs.size f := fun _ =>
  ⟨_, rfl, by simp [hb], fun j hj => by rw [add_zero_at, World.cell?_alloc_at _ _ _ _ hb]; exact hf j hj⟩

/-- A row of the call's own. -/
theorem Seg.of_own {w : World} {base : Nat} {e : TypeId} {size n c : Nat} {A : Option Addr} {xs : List Value} (h : w.ownsRow base e size (.slice A n c) n xs) :
    Seg w w.heap.size A xs.length (fun j => xs.getD j undef) := fun hm => by
  obtain ⟨h1, h2⟩ := h
  rcases h2 with ⟨_, rfl⟩ | ⟨g, cap, cur, hv, _, hh, hnc, _, hcs, hx⟩
  · simp at h1; rw [h1] at hm; exact absurd hm (by simp)
  have hA : A = some ⟨g, 0, none⟩ := by injection hv
  subst hA
  have hlt : g < w.heap.size := by
    rcases Nat.lt_or_ge g w.heap.size with hlt | hge
    · exact hlt
    · rw [Array.getElem?_eq_none hge] at hh; cases hh
  refine ⟨_, rfl, hlt, fun j hj => ?_⟩
  have hj' : j < n * size := by omega
  rw [add_zero_at]
  have hc : w.cell? ⟨g, j, none⟩ = cur[j]? := by simp [World.cell?, hh]
  show _ = some (xs.getD j undef)
  rw [hc, List.getD_eq_getElem?_getD, List.getElem?_eq_getElem hj]
  have : cur.toList[j]? = xs[j]? := by rw [← hx, List.getElem?_take, if_pos hj']
  rw [List.getElem?_eq_getElem hj] at this
  simpa using this

theorem own_slice {w : World} {base : Nat} {e : TypeId} {size n : Nat} {v : Value} {xs : List Value} (h : w.ownsRow base e size v n xs) : ∃ A c, v = .slice A n c := by
  rcases h.2 with ⟨rfl, rfl⟩ | ⟨g, cap, cur, rfl, _⟩
  · exact ⟨_, _, rfl⟩
  · exact ⟨_, _, rfl⟩
theorem own_block_ge {w : World} {base : Nat} {e : TypeId} {size n : Nat} {v : Value} {xs : List Value} (h : w.ownsRow base e size v n xs) : ∀ g, v.ownBlock = some g → base ≤ g := by
  intro g hg
  rcases h.2 with ⟨rfl, _⟩ | ⟨g', cap', cur, rfl, hge, _⟩
  · simp [Value.ownBlock] at hg
  · simp [Value.ownBlock] at hg; omega

/-- The one cell of a new block. -/
theorem cell_one_at (w : World) (x : Value) (t : TypeId) (b : Nat) (hb : b = w.heap.size) : ∀ j u, [x][j]? = some u → (w.alloc (.cells #[x] t)).cell? ((⟨b, 0, none⟩ : Addr).add j) = some u := by
  subst hb; exact cell_one_new w x t

/-- The integers of a slice. -/
def ints (k : IntKind) (zs : List Int) : Nat → Value := fun j => .int k (zs.getD j 0)

theorem Seg.ints_of_own {w : World} {base : Nat} {e : TypeId} {n c : Nat} {A : Option Addr} {k : IntKind} {zs : List Int} (h : w.ownsRow base e 1 (.slice A n c) n (zs.map (Value.int k))) :
    Seg w w.heap.size A zs.length (ints k zs) := by
  have := Seg.of_own h
  rw [List.length_map] at this
  refine this.same fun j hj => ?_
  simp [ints, List.getD_eq_getElem?_getD, hj]

/-- A literal slice of integers. -/
theorem Seg.ints_new (w : World) (ty : TypeId) (k : IntKind) (zs : List Int) (vs : Array Value) (b : Nat) (hb : b = w.heap.size) (hv : vs = (zs.map (Value.int k)).toArray) :
    Seg (w.alloc (.cells vs ty)) (w.heap.size + 1) (some ⟨b, 0, none⟩) zs.length (ints k zs) := by
  subst hv
  have := Seg.new w ty ((zs.map (Value.int k)).toArray) b hb (ints k zs) (fun j hj => by
    simp at hj
    simp [ints, List.getD_eq_getElem?_getD, hj])
  simpa using this

/-! ### The frame of a law: it answers true and writes nothing that was there -/

section
variable {H : Type} {enc : TypeId × Value → H} {P : Program}

theorem trodAll_kept (hl : laidOutB P = true) {W W' : World} (bel : Below W.heap.size W W') : ∀ (ts : List TypeId) (vs : List Value) (ds : List (DataW H)) (p : List MemPlace),
    (∀ t ∈ ts, P.readableRec t = true ∧ t < P.types.size) → DataW.TrodAll enc P W 0 (fun _ => true) true ts vs ds p → DataW.TrodAll enc P W' 0 (fun b => decide (b < W.heap.size)) true ts vs ds p
  | [], vs, ds, p, _, h => by
    obtain ⟨rfl, rfl, rfl⟩ := trodAll_nil h
    exact trodAll_mk0
  | t :: ts, vs, ds, p, ht, h => by
    obtain ⟨v, vs, d, ds, p, q, rfl, rfl, rfl, h0, hr⟩ := trodAll_cons h
    have lt : ∀ x ∈ p, x.block < W.heap.size := by obtain ⟨m, hm⟩ := h0; exact DataW.trod_lt m _ _ _ hm
    exact trodAll_cons_mk (Below.trod hl (ht t (by simp)).1 (ht t (by simp)).2 h0 bel lt) (trodAll_kept hl bel ts vs ds q (fun x hx => ht x (by simp [hx])) hr)

theorem trodAll_len : ∀ (ts : List TypeId) (vs : List Value) (ds : List (DataW H)) (p : List MemPlace) {w : World} {base : Nat} {sp : Nat → Bool} {hd : Bool}, DataW.TrodAll enc P w base sp hd ts vs ds p → ds.length = ts.length
  | [], vs, ds, p, _, _, _, _, h => by
    obtain ⟨rfl, rfl, rfl⟩ := trodAll_nil h
    rfl
  | t :: ts, vs, ds, p, _, _, _, _, h => by
    obtain ⟨v, vs, d, ds, p, q, rfl, rfl, rfl, h0, hr⟩ := trodAll_cons h
    simp [trodAll_len ts vs ds q hr]
end

/-- A law's row, from its walk: for whatever arguments that read as data the call answers true and nothing that was there has turned. -/
theorem law_lifted {H : Type} {enc : TypeId × Value → H} {C : Checked} {os : Os} {f : FuncId} {fn : Func} {s : ChangeSpec} {tb : TypeId}
    (own : ownKnob C.prog.godebug = none) (started : os.Started) (noInit : C.prog.inits.idxOf? f = none) (hfn : C.prog.funcs[f]? = some fn)
    (hl : laidOutB C.prog = true) (hr : fn.params.toList.all (fun t => C.prog.readableRec t && decide (t < C.prog.types.size)) = true)
    (hres : fn.resultTypes = #[tb]) (hb : C.prog.underlying tb = some .bool) (hvars : s.vars = [])
    (hspec : ∀ ds : List (DataW H), ds.length = fn.params.toList.length → s.fn H ds = { results := [.lit (.bool true)], args := ds })
    (witness : ∃ (w : World) (tape : Tape) (i : Input), w.os = os ∧ (w.forCall tape i).Shaped C.prog ∧ i.vars = [] ∧ Input.okWide C.prog (w.forCall tape i) .any w.heap.size f i ∧
      s.pre6 enc C.prog fn [] false (w.forCall tape i).memory i.args ∧ ({} : Assume).holds C.prog (lone (Frame.enter C.prog f i.args .normal) [] (w.forCall tape i)))
    (walk : ∀ (W : World) (base : Nat) (args : Array Value) (ds : List (DataW H)) (p : List MemPlace),
      (∀ (j : Nat) t v, fn.params[j]? = some t → args[j]? = some v → Value.okWide C.prog W .any base t v) →
      DataW.TrodAll enc C.prog W 0 (fun _ => true) true fn.params.toList args.toList ds p →
      (DataW.weightsEach C.prog fn.params.toList ds).all (· ≤ reachBytes) = true →
      Calls C.prog f args W fun e W' => e = .returned (.bool true) ∧ Below W.heap.size W W') :
    ReturnsInHanded {} C os f .any (s.pre6 enc C.prog fn [] false) (s.post enc C.prog fn false true false false) := by
  refine returnsInHanded_of_change_sized (C := C) own started noInit hfn witness ?_
  intro W base args ds gs before hval hW _ hsz _
  have hW' := hW
  obtain ⟨p, q, hA, hV, rfl, hfz, hnd⟩ := hW
  rw [hvars] at hV
  obtain ⟨rfl, rfl⟩ := trodVars_none hV
  have hvt : s.plain.varTypes C.prog = [] := by simp [ChangeSpec.plain, DataSpec.varTypes, hvars]
  rw [hvt] at hsz
  simp only [List.append_nil] at hsz
  refine (walk W base args ds p hval hA hsz).mono fun e W' ⟨he, bel⟩ => ?_
  subst he
  have hlen : ds.length = fn.params.toList.length := trodAll_len _ _ _ _ hA
  have hs := hspec ds hlen
  refine ⟨_, rfl, ds, [], p ++ [], [], p, [], hW', ?_, ?_, ?_, bel.frame _, fun h => by cases h⟩
  · rw [List.append_nil, hs, hres]
    exact trodAll_mk1 (shut_bool hb _)
  · rw [List.append_nil, hs]
    refine trodAll_kept hl bel _ _ _ _ (fun t ht => ?_) hA
    have := List.all_eq_true.1 hr t ht
    simpa using this
  · rw [List.append_nil, hs, hvars]
    simp [DataW.TrodVars]

/-! ### A struct (of structs, of arrays) read cell by cell -/

/-- The type of the cell j of a value of type t. -/
def leafAt (P : Program) : Nat → TypeId → Nat → Option TypeId
  | 0, _, _ => none
  | d + 1, t, j =>
    match P.underlying t with
    | some (.struct fs) => (fs.toList.find? fun f => decide (f.offset ≤ j) && decide (j < f.offset + P.cellsOf f.type)).bind fun f => leafAt P d f.type (j - f.offset)
    | some (.array n e) => if j < n * P.cellsOf e then leafAt P d e (j % P.cellsOf e) else none
    | _ => if j = 0 then some t else none

section
variable {H : Type} {enc : TypeId × Value → H} {P : Program} {w : World} {base : Nat} {spare : Nat → Bool} {held : Bool}

theorem leaf_read : ∀ (d : Nat) (t : TypeId) (j : Nat) (l : TypeId) (fuel : Nat) (cs : List Value) (x : DataW H × List MemPlace), leafAt P d t j = some l → j < cs.length → DataW.trod enc P w base spare held fuel t cs = some x →
    ∃ (v : Value) (y : DataW H × List MemPlace) (n : Nat), cs[j]? = some v ∧ DataW.trod enc P w base spare held n l [v] = some y
  | 0, _, _, _, _, _, _, h, _, _ => by simp [leafAt] at h
  | d + 1, t, j, l, fuel, cs, x, h, hj, ht => by
    unfold leafAt at h
    split at h
    · rename_i fs hu
      obtain ⟨f, hf, hl⟩ := Option.bind_eq_some_iff.1 h
      obtain ⟨xs, n, hn, hx, hlen, hxl, hg⟩ := DataW.trod_struct hu ht
      have hp := List.find?_some hf
      simp only [Bool.and_eq_true, decide_eq_true_eq] at hp
      obtain ⟨i, hi, hie⟩ := List.getElem_of_mem (List.mem_of_find?_eq_some hf)
      have hfi : fs[i]? = some f := by simp at hi; rw [Array.getElem?_eq_getElem hi]; simpa using hie
      have hgi := hg i f hfi
      have hxi : i < xs.length := by rw [hxl]; simpa using hi
      rw [List.getElem?_eq_getElem hxi] at hgi
      obtain ⟨v, y, n', hv, hy⟩ := leaf_read d f.type (j - f.offset) l n _ _ hl (by simp; omega) hgi
      refine ⟨v, y, n', ?_, hy⟩
      rw [List.getElem?_take, List.getElem?_drop] at hv
      split at hv
      · rwa [show f.offset + (j - f.offset) = j from by omega] at hv
      · cases hv
    · rename_i n e hu
      split at h
      · rename_i hjn
        obtain ⟨xs, n', hn, hx, hlen, hxl, hg⟩ := DataW.trod_array hu ht
        have hc : 0 < P.cellsOf e := by
          rcases Nat.eq_zero_or_pos (P.cellsOf e) with h0 | h0
          · rw [h0] at hjn; omega
          · exact h0
        have hq : j / P.cellsOf e < n := (Nat.div_lt_iff_lt_mul hc).2 hjn
        have hgi := hg (j / P.cellsOf e) hq
        rw [List.getElem?_eq_getElem (by omega)] at hgi
        have hm := Nat.mod_lt j hc
        have hd := Nat.div_add_mod j (P.cellsOf e)
        have hd' : j / P.cellsOf e * P.cellsOf e + j % P.cellsOf e = j := by rw [Nat.mul_comm]; exact hd
        obtain ⟨v, y, n'', hv, hy⟩ := leaf_read d e (j % P.cellsOf e) l n' _ _ h (by simp; omega) hgi
        refine ⟨v, y, n'', ?_, hy⟩
        rw [List.getElem?_take, if_pos hm, List.getElem?_drop, hd'] at hv
        exact hv
      · cases h
    · split at h
      · rename_i hj0
        subst hj0
        obtain rfl : t = l := by simpa using h
        match cs, hj with
        | [v], _ => exact ⟨v, x, fuel, rfl, ht⟩
        | v :: v' :: r, _ =>
          exfalso
          cases fuel with
          | zero => simp [DataW.trod] at ht
          | succ n =>
            unfold DataW.trod at ht
            split at ht <;> simp_all
      · cases h
end

/-! ### A slice of structs that came in -/
section
variable {H : Type} {enc : TypeId × Value → H} {P : Program} {w : World}

theorem open_rows {t e : TypeId} {C : Nat} {v : Value} {d : DataW H} {p : List MemPlace} (ht : P.underlying t = some (.slice e)) (hC : P.cellsOf e = C) (h : DataW.Trod enc P w 0 (fun _ => true) true t v d p) (hsh : ∃ A len cap, v = .slice A len cap) :
    ∃ (A : Option Addr) (len cap : Nat) (f : Nat → Value), v = .slice A len cap ∧ len ≤ cap ∧ cap ≤ maxLen ∧ ((len = 0 ∧ d = .nil) ∨ ∃ el sp, d = .slice el sp ∧ el.length = len) ∧ Seg w w.heap.size A (len * C) f ∧
      ∀ i, i < len → ∃ (x : DataW H × List MemPlace) (n : Nat) (cs : List Value), DataW.trod enc P w 0 (fun _ => true) true n e cs = some x ∧ cs.length = C ∧ ∀ j, j < C → cs[j]? = some (f (i * C + j)) := by
  obtain ⟨A, len, cap, rfl⟩ := hsh
  obtain ⟨fuel, hf⟩ := h
  rcases Deep.open_slice ht hf with ⟨hcs, hx⟩ | ⟨a, len', cap', m, n, D, Pl, hcs, hb, hl, hm, hmm, hx, hi⟩
  · simp [Value.cells] at hcs
    obtain ⟨rfl, rfl, rfl⟩ := hcs
    simp only [Prod.mk.injEq] at hx
    exact ⟨none, 0, 0, fun _ => undef, rfl, Nat.le_refl _, by simp, .inl ⟨rfl, hx.1⟩, by rw [Nat.zero_mul]; exact Seg.zero, fun i hi => absurd hi (by omega)⟩
  · simp [Value.cells] at hcs
    obtain ⟨rfl, rfl, rfl⟩ := hcs
    simp only [Prod.mk.injEq] at hx
    have hmc : m = cap := by simpa using hmm
    subst hmc
    rw [hC] at hi
    have hrow : ∀ i, i < len → ∃ cs', (cs'.length = C ∧ ∀ j, j < C → w.cell? ((a.add (i * C)).add j) = cs'[j]?) ∧ DataW.trod enc P w 0 (fun _ => true) true n e cs' = some (D i, Pl i) := fun i hil => by
      obtain ⟨cs', hc, ht'⟩ := hi i (by omega)
      obtain ⟨_, hcl, hat⟩ := World.cells?_some hc
      exact ⟨cs', ⟨hcl, hat⟩, ht'⟩
    refine ⟨some a, len, m, fun j => (w.cell? (a.add j)).getD undef, rfl, hl, hm, .inr ⟨_, _, hx.1, by simp⟩, ?_, ?_⟩
    · intro hpos
      have hcell : ∀ j, j < len * C → w.cell? (a.add j) = some ((w.cell? (a.add j)).getD undef) := by
        intro j hj
        have hC0 : 0 < C := by
          rcases Nat.eq_zero_or_pos C with h0 | h0
          · rw [h0] at hj; omega
          · exact h0
        obtain ⟨cs', ⟨hcl, hat⟩, _⟩ := hrow (j / C) ((Nat.div_lt_iff_lt_mul hC0).2 hj)
        have hr := Nat.mod_lt j hC0
        have hd := Nat.div_add_mod j C
        have := hat (j % C) hr
        rw [add_add, show j / C * C + j % C = j from by rw [Nat.mul_comm]; exact hd, List.getElem?_eq_getElem (by omega)] at this
        rw [this]; rfl
      refine ⟨a, rfl, ?_, hcell⟩
      have := World.block_lt_of_cell? _ _ (hcell 0 hpos)
      rwa [add_block] at this
    · intro i hil
      obtain ⟨cs', ⟨hcl, hat⟩, ht'⟩ := hrow i hil
      refine ⟨_, n, cs', ht', hcl, fun j hj => ?_⟩
      have := hat j hj
      rw [add_add, List.getElem?_eq_getElem (by omega)] at this
      show cs'[j]? = some ((w.cell? (a.add (i * C + j))).getD undef)
      rw [this, List.getElem?_eq_getElem (by omega)]; rfl
end

theorem slice_shape {P : Program} {W : World} {r : Reach} {base : Nat} {t e : TypeId} {v : Value} (ht : P.underlying t = some (.slice e)) (hv : Value.okWide P W r base t v) : ∃ A len cap, v = .slice A len cap := okWide_slice ht hv

/-- The number, the truth value of a cell. -/
def boolOf : Value → Bool | .bool b => b | _ => false

section
variable {H : Type} {enc : TypeId × Value → H} {P : Program} {w : World} {base : Nat} {spare : Nat → Bool} {held : Bool}
theorem leaf_int {d : Nat} {t : TypeId} {j : Nat} {l : TypeId} {fuel : Nat} {cs : List Value} {x : DataW H × List MemPlace} {k : IntKind} {u : Value} (hl : leafAt P d t j = some l) (hu : P.underlying l = some (.int k)) (hj : cs[j]? = some u)
    (h : DataW.trod enc P w base spare held fuel t cs = some x) : u = .int k (intOf u) ∧ (Lit.int k (intOf u)).wf = true := by
  have hjl : j < cs.length := (List.getElem?_eq_some_iff.1 hj).1
  obtain ⟨v, y, n, hv, hy⟩ := leaf_read d t j l fuel cs x hl hjl h
  rw [hj] at hv
  obtain rfl := Option.some.inj hv
  obtain ⟨z, hz, _, hw⟩ := DataW.trod_int hu hy
  obtain rfl : u = .int k z := by simpa using hz
  exact ⟨rfl, hw⟩
theorem leaf_bool {d : Nat} {t : TypeId} {j : Nat} {l : TypeId} {fuel : Nat} {cs : List Value} {x : DataW H × List MemPlace} {u : Value} (hl : leafAt P d t j = some l) (hu : P.underlying l = some .bool) (hj : cs[j]? = some u)
    (h : DataW.trod enc P w base spare held fuel t cs = some x) : u = .bool (boolOf u) := by
  have hjl : j < cs.length := (List.getElem?_eq_some_iff.1 hj).1
  obtain ⟨v, y, n, hv, hy⟩ := leaf_read d t j l fuel cs x hl hjl h
  rw [hj] at hv
  obtain rfl := Option.some.inj hv
  obtain ⟨z, hz, _⟩ := DataW.trod_bool hu hy
  obtain rfl : u = .bool z := by simpa using hz
  rfl
end

/-- A slice of integers that came in. -/
theorem open_intsl {H : Type} {enc : TypeId × Value → H} {P : Program} {w : World} {t e : TypeId} {k : IntKind} {v : Value} {d : DataW H} {p : List MemPlace} (ht : P.underlying t = some (.slice e)) (he : P.underlying e = some (.int k)) (hC : P.cellsOf e = 1)
    (h : DataW.Trod enc P w 0 (fun _ => true) true t v d p) (hsh : ∃ A len cap, v = .slice A len cap) :
    ∃ (A : Option Addr) (cap : Nat) (zs : List Int), v = .slice A zs.length cap ∧ ((zs = [] ∧ d = .nil) ∨ ∃ el sp, d = .slice el sp ∧ el.length = zs.length) ∧ Seg w w.heap.size A zs.length (ints k zs) ∧ ∀ n ∈ zs, (Lit.int k n).wf = true := by
  obtain ⟨A, len, cap, f, rfl, hl, hm, hd, hs, hrow⟩ := open_rows (C := 1) ht hC h hsh
  have key : ∀ i, i < len → f i = .int k (intOf (f i)) ∧ (Lit.int k (intOf (f i))).wf = true := by
    intro i hi
    obtain ⟨x, n, cs, ht', hcl, hc⟩ := hrow i hi
    have h0 := hc 0 (by omega)
    rw [Nat.mul_one, Nat.add_zero] at h0
    obtain ⟨z, hz, _, hw⟩ := DataW.trod_int he ht'
    rw [hz] at h0
    have : f i = .int k z := by simpa using h0.symm
    rw [this]
    exact ⟨rfl, hw⟩
  refine ⟨A, cap, (List.range len).map (fun i => intOf (f i)), by simp, ?_, ?_, ?_⟩
  · rcases hd with ⟨rfl, rfl⟩ | ⟨el, sp, rfl, he⟩
    · exact .inl ⟨rfl, rfl⟩
    · exact .inr ⟨el, sp, rfl, by simpa using he⟩
  · simp only [List.length_map, List.length_range]
    rw [Nat.mul_one] at hs
    refine hs.same fun j hj => ?_
    rw [(key j hj).1]
    simp [ints, List.getD_eq_getElem?_getD, hj, intOf]
  · intro n hn
    obtain ⟨i, hi, rfl⟩ := List.mem_map.1 hn
    exact (key i (by simpa using hi)).2

/-! ### What a cell holds behind a block, a draw, a store elsewhere -/
theorem cell_alloc_keep {w : World} {a : Addr} {o : Obj} {v : Value} (h : w.cell? a = some v) : (w.alloc o).cell? a = some v := by
  rw [World.cell?_alloc_lt w o a (World.block_lt_of_cell? _ _ h)]; exact h
theorem cell_drew_keep {w : World} {a : Addr} {v : Value} (h : w.cell? a = some v) : w.drew.cell? a = some v := h
theorem cell_set_keep {w : World} {a b : Addr} {u v : Value} (h : w.cell? a = some v) (hne : b ≠ a) : (w.setCell b u).cell? a = some v := by
  rw [World.cell?_setCell_other w b a u hne]; exact h
theorem cell_set_same {w : World} {b : Addr} {u v : Value} (h : w.cell? b = some v) : (w.setCell b u).cell? b = some u := World.cell?_setCell_same w b u h
theorem cell_below_keep {w w' : World} {B : Nat} {a : Addr} {v : Value} (h : w.cell? a = some v) (hb : Below B w w') (hB : w.heap.size ≤ B) : w'.cell? a = some v :=
  (hb.cell (Nat.lt_of_lt_of_le (World.block_lt_of_cell? _ _ h) hB)).trans h
theorem frozen_drew_keep {w : World} {a : Addr} (h : w.frozen? a = false) : w.drew.frozen? a = false := h

theorem below_drewN {B : Nat} {a w : World} (h : Below B a w) (n : Nat) : Below B a (w.drewN n) := ⟨h.os, h.tape, h.output, h.size, h.block⟩

theorem cell_alloc_at {w : World} {cs : Array Value} {t : TypeId} {b i : Nat} {v : Value} (hb : b = w.heap.size) (hv : cs[i]? = some v) : (w.alloc (.cells cs t)).cell? ⟨b, i, none⟩ = some v := by
  rw [World.cell?_alloc_at _ _ _ _ hb]; exact hv

end Go.Proofs.YtbepibdjlajppaaDoor
