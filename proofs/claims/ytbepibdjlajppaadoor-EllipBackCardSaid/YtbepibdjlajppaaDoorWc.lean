
/-
  Wide numbers as the evaluator has them: a number by its digits, in a value, in memory.
-/
import Derived.Test.YtbepibdjlajppaaDoorTy
import Derived.Test.YtbepibdjlajppaaDoorWide2
set_option linter.unusedVariables false
set_option linter.unusedSimpArgs false
namespace Go.Proofs.YtbepibdjlajppaaDoor
open Go Go.RowKit Sx

/-- n digits of 64 bits. -/
def limL (n : Nat) (f : Nat → Nat) : List Value := (List.range n).map fun j => .int .u64 ((f j : Nat) : Int)
theorem lim_is (n : Nat) (f : Nat → Nat) : lim n f = ⟨limL n f⟩ := rfl
theorem limL_len (n : Nat) (f : Nat → Nat) : (limL n f).length = n := by simp [limL]
theorem limL_get {n : Nat} {f : Nat → Nat} {j : Nat} (h : j < n) : (limL n f).getD j undef = .int .u64 ((f j : Nat) : Int) := by simp [limL, List.getD_eq_getElem?_getD, h]
theorem limL_one (n : Nat) (f : Nat → Nat) : (limL n f).all Value.oneCell' = true := by simp [limL, Value.oneCell']
theorem limL_same {n : Nat} {f g : Nat → Nat} (h : ∀ j, j < n → f j = g j) : limL n f = limL n g := List.map_congr_left fun j hj => by rw [h j (by simpa using hj)]
theorem flat_lim (n : Nat) (f : Nat → Nat) : flatB (.agg ⟨limL n f⟩) n = true := by
  simp [flatB, limL_len, limL_one]
theorem plain_lim (n : Nat) (f : Nat → Nat) : plain2 (.agg ⟨limL n f⟩) = true := by
  simp [plain2, limL, plain1]
/-- A wide number. -/
def wiL (neg over : Bool) (v : Nat) : List Value := .bool neg :: .bool over :: limL 16 (dg v)
theorem wi_is (neg over : Bool) (v : Nat) : wi neg over v = ⟨wiL neg over v⟩ := by
  apply Array.toList_inj.1
  simp [wi, wiL, sz, lim_is]
theorem flat_wi (neg over : Bool) (v : Nat) : flatB (.agg ⟨wiL neg over v⟩) 18 = true := by
  simp [flatB, wiL, limL_len, limL_one, Value.oneCell']
theorem plain_wi (neg over : Bool) (v : Nat) : plain2 (.agg ⟨wiL neg over v⟩) = true := by
  simp [plain2, wiL, limL, plain1]

theorem all2_map {F : Nat → Prop} {ρ : Nat → Nat × Nat} : ∀ {vs xs : List Value}, All2 (Den F ρ) vs xs → xs = vs.map (den ρ)
  | [], [], _ => rfl
  | [], _ :: _, h => h.elim
  | _ :: _, [], h => h.elim
  | v :: vs, x :: xs, h => by rw [List.map_cons, all2_map h.2, h.1.self]
theorem call_heap {P : Program} {g : FuncId} {vs : List Value} {h : List (Option Chunk)} {v : Value} (rh : List Nat) (hv : plain3 v = true) (hr : ∀ xs w, (callFunc g xs).run P w = .ok (.enter g xs) w)
    (hc : ∀ (ρ : Nat → Nat × Nat) (w : World), (∀ i ∈ rh, ∀ c, h[i]? = some (some c) → ∀ j, j < c.n → w.cell? ⟨(ρ i).1, (ρ i).2 + j, none⟩ = some (den1 ρ (c.f j))) → Calls P g ⟨vs.map (den ρ)⟩ w fun e w' => e = .returned v ∧ Below w.heap.size w w') : CallOK P g vs h v [] rh :=
  fun h₂ hrh _ X ρ w xs H hx => by
    have hxs : xs = vs.map (den ρ) := all2_map hx
    subst hxs
    refine .inr ⟨hr _ w, (hc ρ w (fun i hi c hic j hj => ?_)).mono ?_⟩
    · obtain ⟨x, hx, hd⟩ := H.cell i c ((hrh i hi).trans hic) j hj
      rw [hx, hd.self]
    · rintro e w' ⟨rfl, hb⟩
      exact ⟨v, rfl, ρ, AgreeOn.refl _ _, H.frame hb, fun r _ => den_plain3 hv r⟩

/-- The digits of a number lie in a known stretch, from f on. -/
def Has (h : List (Option Chunk)) (i f v : Nat) : Prop := ∃ c, h[i]? = some (some c) ∧ f + 16 ≤ c.n ∧ ∀ j, j < 16 → c.f (f + j) = .int .u64 ((dg v j : Nat) : Int)
theorem Has.digs {h : List (Option Chunk)} {i f v : Nat} (hh : Has h i f v) {ρ : Nat → Nat × Nat} {w : World} {rh : List Nat} (hi : i ∈ rh) (hc : ∀ i ∈ rh, ∀ c, h[i]? = some (some c) → ∀ j, j < c.n → w.cell? ⟨(ρ i).1, (ρ i).2 + j, none⟩ = some (den1 ρ (c.f j))) : Digs w (ρ i).1 ((ρ i).2 + f) v := fun j hj => by
  obtain ⟨c, h1, h2, h3⟩ := hh
  rw [Nat.add_assoc, hc i hi c h1 (f + j) (by omega), h3 j hj]
  rfl
theorem has_wi {h : List (Option Chunk)} {i v : Nat} {o neg over : Bool} (hi : h[i]? = some (some ⟨o, 18, [(0, 18, .agg ⟨wiL neg over v⟩)]⟩)) : Has h i 2 v :=
  ⟨_, hi, Nat.le_refl _, fun j hj => by
    show cellOf _ _ = _
    rw [cellOf_cons, if_pos (by omega)]
    simp only [cellIn, wiL, Nat.sub_zero]
    rw [show 2 + j = j + 1 + 1 from by omega]
    simp only [List.getD_cons_succ]
    exact limL_get hj⟩
theorem cParts (i f v : Nat) (h : List (Option Chunk)) (hh : Has h i f v) : CallOK Tryd.prog 59 [.pointer (some ⟨i, f, some 0⟩)] h (.int .i64 (nd v)) [] [i] :=
  call_heap [i] rfl (Tryd.call59) fun ρ w hc => (parts_any (ρ i).1 ((ρ i).2 + f) v w (hh.digs (by simp) hc)).mono (by rintro e w' ⟨he, rfl⟩; exact ⟨he, Below.refl _ _⟩)

/-! ### Rows read and written at an index -/
theorem reads_lim {o : Bool} {n p q : Nat} {f : Nat → Nat} (hp : p < n) (hq : q = p) : Reads ⟨o, n, [(0, n, .agg ⟨limL n f⟩)]⟩ q false 1 (.int .u64 ((f p : Nat) : Int)) := by
  subst hq
  refine ⟨hp, rfl, ?_⟩
  show cellOf _ _ = _
  rw [cellOf_cons, if_pos (by omega)]
  exact limL_get hp
theorem reads_wi {o neg over : Bool} {v p q : Nat} (hp : p < 16) (hq : q = 2 + p) : Reads ⟨o, 18, [(0, 18, .agg ⟨wiL neg over v⟩)]⟩ q false 1 (.int .u64 ((dg v p : Nat) : Int)) := by
  subst hq
  refine ⟨by show 2 + p < 18; omega, rfl, ?_⟩
  show cellOf _ _ = _
  rw [cellOf_cons, if_pos (by omega)]
  simp only [cellIn, wiL, Nat.sub_zero]
  rw [show 2 + p = p + 1 + 1 from by omega]
  simp only [List.getD_cons_succ]
  exact limL_get hp
theorem writes_lim {n p q : Nat} {f g : Nat → Nat} {x : Int} (hp : p < n) (hq : q = p) (hx : x = ((g p : Nat) : Int)) (hg : ∀ k, k < n → k ≠ p → g k = f k) : Writes ⟨true, n, [(0, n, .agg ⟨limL n f⟩)]⟩ q 1 (.int .u64 x) ⟨true, n, [(0, n, .agg ⟨limL n g⟩)]⟩ := by
  subst hq
  refine ⟨rfl, hp, rfl, fun k hk => ?_⟩
  have hk : k < n := hk
  have e : ∀ f : Nat → Nat, (⟨true, n, [(0, n, .agg ⟨limL n f⟩)]⟩ : Chunk).f k = .int .u64 ((f k : Nat) : Int) := fun f => by
    show cellOf _ _ = _
    rw [cellOf_cons, if_pos (by omega)]
    exact limL_get hk
  rw [e, e]
  by_cases h : k = q
  · subst h; rw [if_pos (by omega), hx]; rfl
  · rw [if_neg (by omega), hg k hk h]

theorem cMul64 (x y : Nat) (h : List (Option Chunk)) (hx : x < 18446744073709551616) (hy : y < 18446744073709551616) : CallOK Tryd.prog 60 [.int .u64 x, .int .u64 y] h (.tuple #[.int .u64 ((x * y / 18446744073709551616 : Nat) : Int), .int .u64 ((x * y % 18446744073709551616 : Nat) : Int)]) [] [] :=
  call_pure rfl rfl (Tryd.call60 _) fun w => (Tryd.bits_Mul64 x y hx hy w).mono (by rintro e w' ⟨he, rfl⟩; exact ⟨he, Below.refl _ _⟩)
theorem cAdd64 (x y c : Int) (h : List (Option Chunk)) (hx : 0 ≤ x) (hx' : x < 18446744073709551616) (hy : 0 ≤ y) (hy' : y < 18446744073709551616) (hc0 : 0 ≤ c) (hc : c ≤ 1) : CallOK Tryd.prog 61 [.int .u64 x, .int .u64 y, .int .u64 c] h (.tuple #[.int .u64 ((x + y + c) % 18446744073709551616), .int .u64 ((x + y + c) / 18446744073709551616)]) [] [] :=
  call_ext rfl rfl fun w => YtbepibdjlajppaaDoor.add64 x y c hx hx' hy hy' hc0 hc w
end Go.Proofs.YtbepibdjlajppaaDoor
