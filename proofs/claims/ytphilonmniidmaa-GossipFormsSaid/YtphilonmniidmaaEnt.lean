/-
  Entries (structs of ten cells) as plain data, and what a walk is told of a slice of them.
-/
import Derived.Test.YtphilonmniidmaaRows
import Derived.Test.YtphilonmniidmaaBase
set_option linter.unusedVariables false
namespace Go.Proofs.Ytphilonmniidmaa
open Go.RowKit

structure Ent where
  node : Int
  boot : Int
  heard : Int
  has : Bool
  cx : Int
  cy : Int
  pa : Int
  pb : Int
  pd : Int
  stamp : Int

def Ent.zero : Ent := ⟨0, 0, 0, false, 0, 0, 0, 0, 0, 0⟩

def Ent.cell (e : Ent) (j : Nat) : Value :=
  if j = 0 then .int .i64 e.node else if j = 1 then .int .i64 e.boot else if j = 2 then .int .i64 e.heard else if j = 3 then .bool e.has else
  if j = 4 then .int .i64 e.cx else if j = 5 then .int .i64 e.cy else if j = 6 then .int .i64 e.pa else if j = 7 then .int .i64 e.pb else if j = 8 then .int .i64 e.pd else .int .i64 e.stamp

/-- The cells of a slice of entries. -/
def ents (es : List Ent) : Nat → Value := fun j => (es.getD (j / 10) Ent.zero).cell (j % 10)

theorem cell_field {w : World} {y : Addr} {j : Nat} {v : Value} (h : w.cell? (y.add j) = some v) (hj : j ≠ 0) : w.cell? ⟨y.block, y.off + j, none⟩ = some v := by
  unfold Addr.add at h
  rwa [if_neg hj] at h

theorem ents_at (es : List Ent) (k j : Nat) (hj : j < 10) : ents es (k * 10 + j) = (es.getD k Ent.zero).cell j := by
  unfold ents
  rw [show (k * 10 + j) / 10 = k from by omega, show (k * 10 + j) % 10 = j from by omega]

/-- The ten cells of the k-th entry, in the walk's own spelling. -/
theorem ents_cells {w : World} {B : Nat} {A : Option Addr} {es : List Ent} (h : Seg w B A (es.length * 10) (ents es)) (k : Nat) (hk : k < es.length) (e : Ent) (he : e = es.getD k Ent.zero) :
    ∃ x, A = some x ∧ x.block < B ∧ w.cell? (x.add (k * 10)) = some (.int .i64 e.node) ∧
      w.cell? ⟨(x.add (k * 10)).block, (x.add (k * 10)).off + 1, none⟩ = some (.int .i64 e.boot) ∧
      w.cell? ⟨(x.add (k * 10)).block, (x.add (k * 10)).off + 2, none⟩ = some (.int .i64 e.heard) ∧
      w.cell? ⟨(x.add (k * 10)).block, (x.add (k * 10)).off + 3, none⟩ = some (.bool e.has) ∧
      w.cell? ⟨(x.add (k * 10)).block, (x.add (k * 10)).off + 4, none⟩ = some (.int .i64 e.cx) ∧
      w.cell? ⟨(x.add (k * 10)).block, (x.add (k * 10)).off + 5, none⟩ = some (.int .i64 e.cy) ∧
      w.cell? ⟨(x.add (k * 10)).block, (x.add (k * 10)).off + 6, none⟩ = some (.int .i64 e.pa) ∧
      w.cell? ⟨(x.add (k * 10)).block, (x.add (k * 10)).off + 7, none⟩ = some (.int .i64 e.pb) ∧
      w.cell? ⟨(x.add (k * 10)).block, (x.add (k * 10)).off + 8, none⟩ = some (.int .i64 e.pd) ∧
      w.cell? ⟨(x.add (k * 10)).block, (x.add (k * 10)).off + 9, none⟩ = some (.int .i64 e.stamp) := by
  subst he
  obtain ⟨x, ex, hb, hc⟩ := h (by omega)
  have hat : ∀ j, j < 10 → w.cell? ((x.add (k * 10)).add j) = some ((es.getD k Ent.zero).cell j) := fun j hj => by
    rw [add_add, hc _ (by omega), ents_at es k j hj]
  refine ⟨x, ex, hb, ?_, cell_field (hat 1 (by omega)) (by omega), cell_field (hat 2 (by omega)) (by omega), cell_field (hat 3 (by omega)) (by omega), cell_field (hat 4 (by omega)) (by omega), cell_field (hat 5 (by omega)) (by omega), cell_field (hat 6 (by omega)) (by omega), cell_field (hat 7 (by omega)) (by omega), cell_field (hat 8 (by omega)) (by omega), cell_field (hat 9 (by omega)) (by omega)⟩
  have h0 := hat 0 (by omega)
  have e0 : (x.add (k * 10)).add 0 = x.add (k * 10) := rfl
  rw [e0] at h0
  exact h0

def entOf (f : Nat → Value) (i : Nat) : Ent :=
  ⟨intOf (f (i * 10)), intOf (f (i * 10 + 1)), intOf (f (i * 10 + 2)), boolOf (f (i * 10 + 3)), intOf (f (i * 10 + 4)), intOf (f (i * 10 + 5)), intOf (f (i * 10 + 6)), intOf (f (i * 10 + 7)), intOf (f (i * 10 + 8)), intOf (f (i * 10 + 9))⟩

theorem Try.bytesEntry : Try.prog.bytesOf 37 = 80 := by kernel_rfl

/-- A slice of entries that came in. -/
theorem open_ents {H : Type} {enc : TypeId × Value → H} {w : World} {v : Value} {d : DataW H} {p : List MemPlace} (h : DataW.Trod enc Try.prog w 0 (fun _ => true) true 28 v d p) (hsh : ∃ A len cap, v = .slice A len cap) :
    ∃ (A : Option Addr) (cap : Nat) (es : List Ent), v = .slice A es.length cap ∧ ((es = [] ∧ d = .nil) ∨ ∃ el sp, d = .slice el sp ∧ el.length = es.length) ∧ Seg w w.heap.size A (es.length * 10) (ents es) := by
  obtain ⟨A, len, cap, f, rfl, hl, hm, hd, hs, hrow⟩ := open_rows (C := 10) Try.underlying28 (by kernel_rfl) h hsh
  have key : ∀ i, i < len → ∀ j, j < 10 → f (i * 10 + j) = (entOf f i).cell j := by
    intro i hi j hj
    obtain ⟨x, n, cs, ht, hcl, hc⟩ := hrow i hi
    have i64 := @Try.underlying2
    have int := @Try.underlying3
    have bool := @Try.underlying4
    have k0 := (leaf_int (d := 5) (l := 3) (by kernel_rfl) int (hc 0 (by omega)) ht).1
    have k1 := (leaf_int (d := 5) (l := 3) (by kernel_rfl) int (hc 1 (by omega)) ht).1
    have k2 := (leaf_int (d := 5) (l := 2) (by kernel_rfl) i64 (hc 2 (by omega)) ht).1
    have k3 := leaf_bool (d := 5) (l := 4) (by kernel_rfl) bool (hc 3 (by omega)) ht
    have k4 := (leaf_int (d := 5) (l := 2) (by kernel_rfl) i64 (hc 4 (by omega)) ht).1
    have k5 := (leaf_int (d := 5) (l := 2) (by kernel_rfl) i64 (hc 5 (by omega)) ht).1
    have k6 := (leaf_int (d := 5) (l := 2) (by kernel_rfl) i64 (hc 6 (by omega)) ht).1
    have k7 := (leaf_int (d := 5) (l := 2) (by kernel_rfl) i64 (hc 7 (by omega)) ht).1
    have k8 := (leaf_int (d := 5) (l := 2) (by kernel_rfl) i64 (hc 8 (by omega)) ht).1
    have k9 := (leaf_int (d := 5) (l := 2) (by kernel_rfl) i64 (hc 9 (by omega)) ht).1
    match j, hj with
    | 0, _ => exact k0
    | 1, _ => exact k1
    | 2, _ => exact k2
    | 3, _ => exact k3
    | 4, _ => exact k4
    | 5, _ => exact k5
    | 6, _ => exact k6
    | 7, _ => exact k7
    | 8, _ => exact k8
    | 9, _ => exact k9
  refine ⟨A, cap, (List.range len).map (entOf f), by simp, ?_, ?_⟩
  · rcases hd with ⟨rfl, rfl⟩ | ⟨el, sp, rfl, he⟩
    · exact .inl ⟨rfl, rfl⟩
    · exact .inr ⟨el, sp, rfl, by simpa using he⟩
  · simp only [List.length_map, List.length_range]
    refine hs.same fun j hj => ?_
    have h1 : j / 10 < len := by omega
    have := key (j / 10) h1 (j % 10) (by omega)
    rw [show j / 10 * 10 + j % 10 = j from by omega] at this
    rw [this]
    unfold ents
    simp [List.getD_eq_getElem?_getD, h1]
end Go.Proofs.Ytphilonmniidmaa
