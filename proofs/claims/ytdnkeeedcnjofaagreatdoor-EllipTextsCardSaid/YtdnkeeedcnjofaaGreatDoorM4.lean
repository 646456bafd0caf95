import Derived.Lib.EndianBits
import Derived.Deep.RegionHeld3
import Derived.IntWalk
import Derived.KernelRfl
import Derived.Test.YtdnkeeedcnjofaaGreatDoorM3

/-
  Wide numbers as the evaluator has them: a number by its digits, in a value, in memory.
-/
set_option linter.unusedVariables false
set_option linter.unusedSimpArgs false
namespace Go.Proofs.YtdnkeeedcnjofaaGreatDoor
open Go Go.RowKit Sx

/-- n digits of 64 bits. -/
def limL (n : Nat) (f : Nat → Nat) : List Value := (List.range n).map fun j => .int .u64 ((f j : Nat) : Int)
theorem lim_is (n : Nat) (f : Nat → Nat) : lim n f = ⟨limL n f⟩ := rfl
theorem limL_len (n : Nat) (f : Nat → Nat) : (limL n f).length = n := by simp [limL]
theorem limL_get {n : Nat} {f : Nat → Nat} {j : Nat} (h : j < n) : (limL n f).getD j undef = .int .u64 ((f j : Nat) : Int) := by simp [limL, List.getD_eq_getElem?_getD, h]
theorem limL_one (n : Nat) (f : Nat → Nat) : (limL n f).all Value.oneCell' = true := by simp [limL, Value.oneCell']
theorem limL_same {n : Nat} {f g : Nat → Nat} (h : ∀ j, j < n → f j = g j) : limL n f = limL n g := List.map_congr_left fun j hj => by rw [h j (by simpa using hj)]
theorem flat_lim (n : Nat) (f : Nat → Nat) : flatB (.agg ⟨limL n f⟩) n = true := by
  simp [flatB, limL_len, limL_one]
theorem plain_lim (n : Nat) (f : Nat → Nat) : plain2 (.agg ⟨limL n f⟩) = true := by
  simp [plain2, limL, plain1]
/-- A wide number. -/
def wiL (neg over : Bool) (v : Nat) : List Value := .bool neg :: .bool over :: limL 16 (dg v)
theorem wi_is (neg over : Bool) (v : Nat) : wi neg over v = ⟨wiL neg over v⟩ := by
  apply Array.toList_inj.1
  simp [wi, wiL, sz, lim_is]
theorem flat_wi (neg over : Bool) (v : Nat) : flatB (.agg ⟨wiL neg over v⟩) 18 = true := by
  simp [flatB, wiL, limL_len, limL_one, Value.oneCell']
theorem plain_wi (neg over : Bool) (v : Nat) : plain2 (.agg ⟨wiL neg over v⟩) = true := by
  simp [plain2, wiL, limL, plain1]

theorem all2_map {F : Nat → Prop} {ρ : Nat → Nat × Nat} : ∀ {vs xs : List Value}, All2 (Den F ρ) vs xs → xs = vs.map (den ρ)
  | [], [], _ => rfl
  | [], _ :: _, h => h.elim
  | _ :: _, [], h => h.elim
  | v :: vs, x :: xs, h => by rw [List.map_cons, all2_map h.2, h.1.self]
theorem call_heap {P : Program} {g : FuncId} {vs : List Value} {h : List (Option Chunk)} {v : Value} (rh : List Nat) (hv : plain3 v = true) (hr : ∀ xs w, (callFunc g xs).run P w = .ok (.enter g xs) w)
    (hc : ∀ (ρ : Nat → Nat × Nat) (w : World), (∀ i ∈ rh, ∀ c, h[i]? = some (some c) → ∀ j, j < c.n → w.cell? ⟨(ρ i).1, (ρ i).2 + j, none⟩ = some (den1 ρ (c.f j))) → Calls P g ⟨vs.map (den ρ)⟩ w fun e w' => e = .returned v ∧ Below w.heap.size w w') : CallOK P g vs h v [] rh :=
  fun h₂ hrh _ X ρ w xs H hx => by
    have hxs : xs = vs.map (den ρ) := all2_map hx
    subst hxs
    refine .inr ⟨hr _ w, (hc ρ w (fun i hi c hic j hj => ?_)).mono ?_⟩
    · obtain ⟨x, hx, hd⟩ := H.cell i c ((hrh i hi).trans hic) j hj
      rw [hx, hd.self]
    · rintro e w' ⟨rfl, hb⟩
      exact ⟨v, rfl, ρ, AgreeOn.refl _ _, H.frame hb, fun r _ => den_plain3 hv r⟩

/-- The digits of a number lie in a known stretch, from f on. -/
def Has (h : List (Option Chunk)) (i f v : Nat) : Prop := ∃ c, h[i]? = some (some c) ∧ f + 16 ≤ c.n ∧ ∀ j, j < 16 → c.f (f + j) = .int .u64 ((dg v j : Nat) : Int)
theorem Has.digs {h : List (Option Chunk)} {i f v : Nat} (hh : Has h i f v) {ρ : Nat → Nat × Nat} {w : World} {rh : List Nat} (hi : i ∈ rh) (hc : ∀ i ∈ rh, ∀ c, h[i]? = some (some c) → ∀ j, j < c.n → w.cell? ⟨(ρ i).1, (ρ i).2 + j, none⟩ = some (den1 ρ (c.f j))) : Digs w (ρ i).1 ((ρ i).2 + f) v := fun j hj => by
  obtain ⟨c, h1, h2, h3⟩ := hh
  rw [Nat.add_assoc, hc i hi c h1 (f + j) (by omega), h3 j hj]
  rfl
theorem has_wi {h : List (Option Chunk)} {i v : Nat} {o neg over : Bool} (hi : h[i]? = some (some ⟨o, 18, [(0, 18, .agg ⟨wiL neg over v⟩)]⟩)) : Has h i 2 v :=
  ⟨_, hi, Nat.le_refl _, fun j hj => by
    show cellOf _ _ = _
    rw [cellOf_cons, if_pos (by omega)]
    simp only [cellIn, wiL, Nat.sub_zero]
    rw [show 2 + j = j + 1 + 1 from by omega]
    simp only [List.getD_cons_succ]
    exact limL_get hj⟩
theorem cParts (i f v : Nat) (h : List (Option Chunk)) (hh : Has h i f v) : CallOK Tryz.prog 76 [.pointer (some ⟨i, f, some 0⟩)] h (.int .i64 (nd v)) [] [i] :=
  call_heap [i] rfl (Tryz.call76) fun ρ w hc => (parts_any (ρ i).1 ((ρ i).2 + f) v w (hh.digs (by simp) hc)).mono (by rintro e w' ⟨he, rfl⟩; exact ⟨he, Below.refl _ _⟩)

/-! ### Rows read and written at an index -/
theorem reads_lim {o : Bool} {n p q : Nat} {f : Nat → Nat} (hp : p < n) (hq : q = p) : Reads ⟨o, n, [(0, n, .agg ⟨limL n f⟩)]⟩ q false 1 (.int .u64 ((f p : Nat) : Int)) := by
  subst hq
  refine ⟨hp, rfl, ?_⟩
  show cellOf _ _ = _
  rw [cellOf_cons, if_pos (by omega)]
  exact limL_get hp
theorem reads_wi {o neg over : Bool} {v p q : Nat} (hp : p < 16) (hq : q = 2 + p) : Reads ⟨o, 18, [(0, 18, .agg ⟨wiL neg over v⟩)]⟩ q false 1 (.int .u64 ((dg v p : Nat) : Int)) := by
  subst hq
  refine ⟨by show 2 + p < 18; omega, rfl, ?_⟩
  show cellOf _ _ = _
  rw [cellOf_cons, if_pos (by omega)]
  simp only [cellIn, wiL, Nat.sub_zero]
  rw [show 2 + p = p + 1 + 1 from by omega]
  simp only [List.getD_cons_succ]
  exact limL_get hp
theorem writes_lim {n p q : Nat} {f g : Nat → Nat} {x : Int} (hp : p < n) (hq : q = p) (hx : x = ((g p : Nat) : Int)) (hg : ∀ k, k < n → k ≠ p → g k = f k) : Writes ⟨true, n, [(0, n, .agg ⟨limL n f⟩)]⟩ q 1 (.int .u64 x) ⟨true, n, [(0, n, .agg ⟨limL n g⟩)]⟩ := by
  subst hq
  refine ⟨rfl, hp, rfl, fun k hk => ?_⟩
  have hk : k < n := hk
  have e : ∀ f : Nat → Nat, (⟨true, n, [(0, n, .agg ⟨limL n f⟩)]⟩ : Chunk).f k = .int .u64 ((f k : Nat) : Int) := fun f => by
    show cellOf _ _ = _
    rw [cellOf_cons, if_pos (by omega)]
    exact limL_get hk
  rw [e, e]
  by_cases h : k = q
  · subst h; rw [if_pos (by omega), hx]; rfl
  · rw [if_neg (by omega), hg k hk h]

theorem cMul64 (x y : Nat) (h : List (Option Chunk)) (hx : x < 18446744073709551616) (hy : y < 18446744073709551616) : CallOK Tryz.prog 77 [.int .u64 x, .int .u64 y] h (.tuple #[.int .u64 ((x * y / 18446744073709551616 : Nat) : Int), .int .u64 ((x * y % 18446744073709551616 : Nat) : Int)]) [] [] :=
  call_pure rfl rfl (Tryz.call77 _) fun w => (Tryz.bits_Mul64 x y hx hy w).mono (by rintro e w' ⟨he, rfl⟩; exact ⟨he, Below.refl _ _⟩)
theorem cAdd64 (x y c : Int) (h : List (Option Chunk)) (hx : 0 ≤ x) (hx' : x < 18446744073709551616) (hy : 0 ≤ y) (hy' : y < 18446744073709551616) (hc0 : 0 ≤ c) (hc : c ≤ 1) : CallOK Tryz.prog 78 [.int .u64 x, .int .u64 y, .int .u64 c] h (.tuple #[.int .u64 ((x + y + c) % 18446744073709551616), .int .u64 ((x + y + c) / 18446744073709551616)]) [] [] :=
  call_ext rfl rfl fun w => YtdnkeeedcnjofaaGreatDoor.add64 x y c hx hx' hy hy' hc0 hc w
end Go.Proofs.YtdnkeeedcnjofaaGreatDoor


/-
  The walks of tooGreat, made, Of: numbers with their signs.
-/
set_option linter.unusedVariables false
namespace Go.Proofs.YtdnkeeedcnjofaaGreatDoor
open Go.RowKit

theorem Tryz.info_u64 : (Tryz.prog.info? 59).isSome = true := by kernel_rfl
theorem Tryz.cells_u64 : Tryz.prog.cellsOf 59 = 1 := by kernel_rfl

theorem run_part_u64 (w : World) {xs : Array Value} {off : Nat} {v : Value} (hx : xs[off]? = some v) : (part 59 xs off).run Tryz.prog w = .ok v w := by
  have ha : (isAgg 59).run Tryz.prog w = .ok false w := by
    unfold isAgg
    rw [Sem.run_bind, run_underlying Tryz.underlying59 w]
    rfl
  simp [part, Sem.run_bind, ha, hx]

theorem eqItems_lim (d n : Nat) (f g : Nat → Nat) (w : World) : ∀ is : List Nat, (∀ i ∈ is, i < n) → (Op.eqItems (d + 1) 59 1 (lim n f) (lim n g) is).run Tryz.prog w = .ok (is.all fun i => f i == g i) w
  | [], _ => by simp [Op.eqItems]
  | i :: is, h => by
    have ih := eqItems_lim d n f g w is (fun j hj => h j (by simp [hj]))
    have hi := h i (by simp)
    have e1 := run_part_u64 w (lim_get n f i hi)
    have e2 := run_part_u64 w (lim_get n g i hi)
    have e3 := run_equalIn_int (P := Tryz.prog) w d 59 .u64 .u64 (f i) (g i) Tryz.underlying59
    simp only [Op.eqItems, Sem.run_bind, Nat.mul_one, e1, e2, e3, Result.andThen_ok]
    by_cases hfg : f i = g i
    · simp [hfg, ih]
    · have : ((f i : Nat) : Int) ≠ (g i : Nat) := by omega
      simp [hfg, this]

set_option maxRecDepth 100000 in
theorem equal_sz (u v : Nat) (hu : u < Bs ^ 16) (hv : v < Bs ^ 16) (w : World) : (Op.equalIn 10000 61 (.agg (sz u)) (.agg (sz v))).run Tryz.prog w = .ok (decide (u = v)) w := by
  obtain ⟨i, hi⟩ := Option.isSome_iff_exists.1 Tryz.info_u64
  rw [run_equalIn_array (P := Tryz.prog) w 9999 (sz u) (sz v) Tryz.underlying61 hi, Tryz.cells_u64]
  unfold sz
  rw [eqItems_lim 9998 16 _ _ w (List.range 16) (fun i hi => by simpa using hi)]
  congr 1
  by_cases h : u = v
  · subst h; simp
  · simp only [h, decide_false]
    rw [← Bool.not_eq_true, List.all_eq_true]
    intro hall
    exact h (eq_of_dg 16 u v hu hv fun j hj => by simpa using hall j (by simpa using hj))

theorem equal_zero (u : Nat) (hu : u < Bs ^ 16) (w : World) : (Op.equalIn 10000 61 (.agg (sz u)) (.agg #[.int .u64 0, .int .u64 0, .int .u64 0, .int .u64 0, .int .u64 0, .int .u64 0, .int .u64 0, .int .u64 0, .int .u64 0, .int .u64 0, .int .u64 0, .int .u64 0, .int .u64 0, .int .u64 0, .int .u64 0, .int .u64 0])).run Tryz.prog w = .ok (decide (u = 0)) w := by
  rw [← sz_zero]
  exact equal_sz u 0 hu (bsp_pos 16) w

theorem lim_lit (f : Nat → Nat) : lim 16 f = #[.int .u64 (f 0 : Nat), .int .u64 (f 1 : Nat), .int .u64 (f 2 : Nat), .int .u64 (f 3 : Nat), .int .u64 (f 4 : Nat), .int .u64 (f 5 : Nat), .int .u64 (f 6 : Nat), .int .u64 (f 7 : Nat), .int .u64 (f 8 : Nat), .int .u64 (f 9 : Nat), .int .u64 (f 10 : Nat), .int .u64 (f 11 : Nat), .int .u64 (f 12 : Nat), .int .u64 (f 13 : Nat), .int .u64 (f 14 : Nat), .int .u64 (f 15 : Nat)] := by
  unfold lim
  rw [show List.range 16 = [0, 1, 2, 3, 4, 5, 6, 7, 8, 9, 10, 11, 12, 13, 14, 15] from rfl]
  rfl
theorem sz_lit (v : Nat) : sz v = #[.int .u64 (dg v 0 : Nat), .int .u64 (dg v 1 : Nat), .int .u64 (dg v 2 : Nat), .int .u64 (dg v 3 : Nat), .int .u64 (dg v 4 : Nat), .int .u64 (dg v 5 : Nat), .int .u64 (dg v 6 : Nat), .int .u64 (dg v 7 : Nat), .int .u64 (dg v 8 : Nat), .int .u64 (dg v 9 : Nat), .int .u64 (dg v 10 : Nat), .int .u64 (dg v 11 : Nat), .int .u64 (dg v 12 : Nat), .int .u64 (dg v 13 : Nat), .int .u64 (dg v 14 : Nat), .int .u64 (dg v 15 : Nat)] := lim_lit (dg v)
theorem wi_of (neg over : Bool) (f : Nat → Nat) : #[Value.bool neg, Value.bool over] ++ lim 16 f = #[.bool neg, .bool over, .int .u64 (f 0 : Nat), .int .u64 (f 1 : Nat), .int .u64 (f 2 : Nat), .int .u64 (f 3 : Nat), .int .u64 (f 4 : Nat), .int .u64 (f 5 : Nat), .int .u64 (f 6 : Nat), .int .u64 (f 7 : Nat), .int .u64 (f 8 : Nat), .int .u64 (f 9 : Nat), .int .u64 (f 10 : Nat), .int .u64 (f 11 : Nat), .int .u64 (f 12 : Nat), .int .u64 (f 13 : Nat), .int .u64 (f 14 : Nat), .int .u64 (f 15 : Nat)] := by
  rw [lim_lit]; simp
theorem wi_lit (neg over : Bool) (v : Nat) : wi neg over v = #[.bool neg, .bool over, .int .u64 (dg v 0 : Nat), .int .u64 (dg v 1 : Nat), .int .u64 (dg v 2 : Nat), .int .u64 (dg v 3 : Nat), .int .u64 (dg v 4 : Nat), .int .u64 (dg v 5 : Nat), .int .u64 (dg v 6 : Nat), .int .u64 (dg v 7 : Nat), .int .u64 (dg v 8 : Nat), .int .u64 (dg v 9 : Nat), .int .u64 (dg v 10 : Nat), .int .u64 (dg v 11 : Nat), .int .u64 (dg v 12 : Nat), .int .u64 (dg v 13 : Nat), .int .u64 (dg v 14 : Nat), .int .u64 (dg v 15 : Nat)] := wi_of neg over (dg v)
theorem wi_zero (neg over : Bool) : wi neg over 0 = #[.bool neg, .bool over, .int .u64 0, .int .u64 0, .int .u64 0, .int .u64 0, .int .u64 0, .int .u64 0, .int .u64 0, .int .u64 0, .int .u64 0, .int .u64 0, .int .u64 0, .int .u64 0, .int .u64 0, .int .u64 0, .int .u64 0, .int .u64 0] := by
  unfold wi; rw [sz_zero]; rfl

/-- What may be: less than 2^1023. -/
def TopBits : Nat := 1023
def Top : Nat := 2 ^ TopBits
theorem bs_two (n : Nat) : Bs ^ n = 2 ^ (64 * n) := by
  rw [Nat.pow_mul]
theorem pow_up (a b : Nat) (h : a < b) : 2 ^ a < 2 ^ b := Nat.pow_lt_pow_right (by decide) h
theorem top_of (n : Nat) (h : TopBits < 64 * n) : Top < Bs ^ n := by
  rw [bs_two]; exact pow_up _ _ h
theorem top_lt : Top < Bs ^ 16 := top_of 16 (by decide)

theorem ndTo_lt (v : Nat) : ∀ n, v < Bs ^ n → v < Bs ^ ndTo v n
  | 0, h => h
  | n + 1, h => by
    rw [ndTo]
    split
    · rename_i hz
      refine ndTo_lt v n ?_
      have s := dg_step v n
      rw [hz, Nat.div_eq_of_lt h] at s
      exact (Nat.div_eq_zero_iff_lt (bsp_pos n)).1 (by omega)
    · exact h
theorem ndTo_top (v : Nat) : ∀ n, ndTo v n = 0 ∨ dg v (ndTo v n - 1) ≠ 0
  | 0 => .inl rfl
  | n + 1 => by
    rw [ndTo]
    split
    · exact ndTo_top v n
    · rename_i h; exact .inr h

theorem bitLenAux_spec : ∀ (f x : Nat), x < 2 ^ f → x < 2 ^ Lib.bitLenAux f x ∧ (x ≠ 0 → 2 ^ (Lib.bitLenAux f x - 1) ≤ x ∧ 0 < Lib.bitLenAux f x)
  | 0, x, h => by
    have : x = 0 := by simpa using h
    subst this
    exact ⟨by simp [Lib.bitLenAux], fun h => absurd rfl h⟩
  | f + 1, x, h => by
    rw [Lib.bitLenAux]
    split
    · rename_i hz; subst hz; exact ⟨by decide, fun h => absurd rfl h⟩
    · rename_i hz
      obtain ⟨h1, h2⟩ := bitLenAux_spec f (x / 2) (by rw [Nat.pow_succ] at h; omega)
      refine ⟨by rw [Nat.add_comm, Nat.pow_succ]; omega, fun _ => ⟨?_, by omega⟩⟩
      rw [show 1 + Lib.bitLenAux f (x / 2) - 1 = Lib.bitLenAux f (x / 2) from by omega]
      by_cases hh : x / 2 = 0
      · have : Lib.bitLenAux f (x / 2) = 0 := by rw [hh]; cases f <;> simp [Lib.bitLenAux]
        rw [this]; simp; omega
      · obtain ⟨h3, h4⟩ := h2 hh
        obtain ⟨m, hm⟩ : ∃ m, Lib.bitLenAux f (x / 2) = m + 1 := ⟨_, (Nat.succ_pred_eq_of_pos h4).symm⟩
        rw [hm] at h3 ⊢
        rw [Nat.pow_succ]
        simp at h3
        omega

/-- The bits of a number. -/
theorem bl_spec (v : Nat) (hv : v < Bs ^ 16) : v < 2 ^ bl v ∧ (v ≠ 0 → 2 ^ (bl v - 1) ≤ v ∧ 0 < bl v) := by
  have hlt := ndTo_lt v 16 hv
  have htop := ndTo_top v 16
  have e0 : ndTo v 16 = nd v := rfl
  rw [e0] at hlt htop
  rcases htop with h0 | h0
  · have hb : bl v = 0 := by unfold bl; rw [if_pos h0]
    rw [h0] at hlt
    have : v = 0 := by simpa using hlt
    subst this
    exact ⟨by rw [hb]; decide, fun h => absurd rfl h⟩
  · by_cases hz : nd v = 0
    · rw [hz] at hlt
      have : v = 0 := by simpa using hlt
      subst this
      exact absurd (dg_zero _) h0
    obtain ⟨n, hn⟩ : ∃ n, nd v = n + 1 := ⟨nd v - 1, by omega⟩
    have hb : bl v = 64 * n + lb (dg v n) := by unfold bl; rw [if_neg hz, hn]; rfl
    rw [hn] at hlt h0
    have h0' : dg v n ≠ 0 := h0
    have hd : v / Bs ^ n = dg v n := by
      have s := dg_step v n
      rw [Nat.div_eq_of_lt hlt] at s
      omega
    obtain ⟨b1, b2⟩ := bitLenAux_spec 64 (dg v n) (dg_lt v n)
    obtain ⟨b3, b4⟩ := b2 h0'
    have e1 : Lib.bitLenAux 64 (dg v n) = lb (dg v n) := rfl
    rw [e1] at b1 b3 b4
    have eB := bs_two n
    rw [hb]
    refine ⟨?_, fun _ => ⟨?_, by omega⟩⟩
    · rw [Nat.pow_add, ← eB, Nat.mul_comm, ← Nat.div_lt_iff_lt_mul (bsp_pos n), hd]; exact b1
    · rw [show 64 * n + lb (dg v n) - 1 = 64 * n + (lb (dg v n) - 1) from by omega, Nat.pow_add, ← eB, Nat.mul_comm, ← Nat.le_div_iff_mul_le (bsp_pos n), hd]
      exact b3
theorem bl_small (v k : Nat) (hv : v < Bs ^ 16) (h : v < 2 ^ k) : bl v ≤ k := by
  obtain ⟨h1, h2⟩ := bl_spec v hv
  by_cases hz : v = 0
  · subst hz
    have : bl 0 = 0 := by decide
    omega
  · obtain ⟨h3, h4⟩ := h2 hz
    have : bl v - 1 < k := (Nat.pow_lt_pow_iff_right (by decide)).1 (Nat.lt_of_le_of_lt h3 h)
    omega

theorem great_any (w : World) : Calls Tryz.prog 71 #[] w fun e w' => e = .returned (.agg (wi false true 0)) ∧ Below w.heap.size w w' := by
  have hB : Below w.heap.size w w := Below.refl _ _
  have hr := IsRow.new w #[.bool false, .bool false, .int .u64 0, .int .u64 0, .int .u64 0, .int .u64 0, .int .u64 0, .int .u64 0, .int .u64 0, .int .u64 0, .int .u64 0, .int .u64 0, .int .u64 0, .int .u64 0, .int .u64 0, .int .u64 0, .int .u64 0, .int .u64 0] 63
  go_enter Tryz.func71, Tryz.ntmps71
  go_wp2_with (refine wpList_store_row rfl 63 _ _ rfl w.heap.size #[.bool false, .bool true, .int .u64 0, .int .u64 0, .int .u64 0, .int .u64 0, .int .u64 0, .int .u64 0, .int .u64 0, .int .u64 0, .int .u64 0, .int .u64 0, .int .u64 0, .int .u64 0, .int .u64 0, .int .u64 0, .int .u64 0, .int .u64 0] rfl rfl _ #[.bool false, .bool false, .int .u64 0, .int .u64 0, .int .u64 0, .int .u64 0, .int .u64 0, .int .u64 0, .int .u64 0, .int .u64 0, .int .u64 0, .int .u64 0, .int .u64 0, .int .u64 0, .int .u64 0, .int .u64 0, .int .u64 0, .int .u64 0] hr (by kernel_rfl) rfl (by simp [Value.oneCell']) ?_)
  exact bodyPost_ret (results_cell_row Tryz.results71 _ _ w.heap.size _ _ _ _ rfl (hr.row _) Tryz.underlying63 rfl (by kernel_rfl)) rfl ⟨by rw [wi_zero], below_setRow (hB.alloc (Nat.le_refl _) _) (Nat.le_refl _) _⟩
end Go.Proofs.YtdnkeeedcnjofaaGreatDoor


/-
  The walks of Of, made: numbers with their signs.
-/
set_option linter.unusedVariables false
namespace Go.Proofs.YtdnkeeedcnjofaaGreatDoor
open Go.RowKit

theorem built_of (x : Int) : Tryz.prog.built 61 [(0, .int .u64 x)] = some #[.int .u64 x, .int .u64 0, .int .u64 0, .int .u64 0, .int .u64 0, .int .u64 0, .int .u64 0, .int .u64 0, .int .u64 0, .int .u64 0, .int .u64 0, .int .u64 0, .int .u64 0, .int .u64 0, .int .u64 0, .int .u64 0] := by kernel_rfl
theorem built_sz (v : Nat) (h : v < 18446744073709551616) : Tryz.prog.built 61 [(0, .int .u64 v)] = some (sz v) := by
  rw [sz_small v h]; exact built_of _
theorem built_0 : Tryz.prog.built 61 [] = some (sz 0) := by
  rw [sz_zero]; kernel_rfl
theorem built_wi (neg : Bool) (v : Nat) : Tryz.prog.built 63 [(0, .bool neg), (2, .agg (sz v))] = some (wi neg false v) := by
  rw [sz_lit, wi_lit]; kernel_rfl

/-- A whole number as a number. -/
def zi (z : Int) : Array Value := wi (decide (z < 0)) false z.natAbs
@[simp] theorem zi_size (z : Int) : (zi z).size = 18 := wi_size _ _ _

set_option maxRecDepth 100000 in
theorem wof_neg (v : Nat) (h : 0 < v ∧ v ≤ 9223372036854775808) (w : World) : Calls Tryz.prog 34 #[.int .i64 (-(v : Int))] w fun e w' => e = .returned (.agg (wi true false v)) ∧ Below w.heap.size w w' := by
  have hB : Below w.heap.size w w := Below.refl _ _
  have hr := IsRow.new w (wi false false 0) 63
  rw [wi_zero] at hr
  obtain ⟨h0, h1⟩ := h
  have hwr : IntKind.u64.wrap (-IntKind.u64.wrap (-(v : Int))) = v := by
    show ((-((-(v : Int)) % 18446744073709551616)) % 18446744073709551616 : Int) = v
    omega
  have hb1 : Tryz.prog.built 61 [(0, .int .u64 (IntKind.u64.wrap (-IntKind.u64.wrap (-(v : Int)))))] = some (sz v) := by rw [hwr]; exact built_sz v (by omega)
  clear hwr
  have hn : -(v : Int) < 0 := by omega
  have hb2 := built_wi true v
  go_enter Tryz.func34, Tryz.ntmps34
  go_wp2_with (first | (refine isBuildL (ty := 61) rfl ?_; refine wpList_build1 ?_ 61 0 _ rfl (.int .u64 (IntKind.u64.wrap (-IntKind.u64.wrap (-(v : Int))))) rfl (sz v) (hb1) ?_; (focus rfl)) | (refine isBuildL (ty := 63) rfl ?_; refine wpList_build2 ?_ 63 0 2 _ _ rfl (.bool true) (.agg (sz v)) rfl rfl (wi true false v) (hb2) ?_; (focus rfl)) | (refine isStoreL (ty := 63) rfl ?_; refine wpList_store_row ?_ 63 _ _ rfl (w.heap.size) (wi true false v) rfl rfl _ (_) (hr) (by rw [wi_size]; kernel_rfl) (by simp) (wi_one _ _ _) ?_; (focus rfl)) | fail)
  exact bodyPost_ret (results_cell_row Tryz.results34 _ _ w.heap.size _ _ _ _ rfl (hr.row _) Tryz.underlying63 rfl (by rw [wi_size]; kernel_rfl)) rfl ⟨rfl, below_setRow (hB.alloc (Nat.le_refl _) _) (Nat.le_refl _) _⟩

set_option maxRecDepth 100000 in
theorem wof_pos (v : Nat) (h : v < 9223372036854775808) (w : World) : Calls Tryz.prog 34 #[.int .i64 ((v : Int))] w fun e w' => e = .returned (.agg (wi false false v)) ∧ Below w.heap.size w w' := by
  have hB : Below w.heap.size w w := Below.refl _ _
  have hr := IsRow.new w (wi false false 0) 63
  rw [wi_zero] at hr
  have hwr : IntKind.u64.wrap (v : Int) = v := by
    show ((v : Int) % 18446744073709551616 : Int) = v
    omega
  have hb1 : Tryz.prog.built 61 [(0, .int .u64 (v : Int))] = some (sz v) := built_sz v (by omega)
  have hn : ¬ (v : Int) < 0 := by omega
  have hb2 := built_wi false v
  go_enter Tryz.func34, Tryz.ntmps34
  go_wp2_with (first | (refine isBuildL (ty := 61) rfl ?_; refine wpList_build1 ?_ 61 0 _ rfl (.int .u64 (v : Int)) rfl (sz v) (hb1) ?_; (focus rfl)) | (refine isBuildL (ty := 63) rfl ?_; refine wpList_build2 ?_ 63 0 2 _ _ rfl (.bool false) (.agg (sz v)) rfl rfl (wi false false v) (hb2) ?_; (focus rfl)) | (refine isStoreL (ty := 63) rfl ?_; refine wpList_store_row ?_ 63 _ _ rfl (w.heap.size) (wi false false v) rfl rfl _ (_) (hr) (by rw [wi_size]; kernel_rfl) (by simp) (wi_one _ _ _) ?_; (focus rfl)) | fail)
  exact bodyPost_ret (results_cell_row Tryz.results34 _ _ w.heap.size _ _ _ _ rfl (hr.row _) Tryz.underlying63 rfl (by rw [wi_size]; kernel_rfl)) rfl ⟨rfl, below_setRow (hB.alloc (Nat.le_refl _) _) (Nat.le_refl _) _⟩

theorem wof_any (n : Int) (h0 : -9223372036854775808 ≤ n) (h1 : n < 9223372036854775808) (w : World) : Calls Tryz.prog 34 #[.int .i64 n] w fun e w' => e = .returned (.agg (zi n)) ∧ Below w.heap.size w w' := by
  by_cases hn : n < 0
  · have := wof_neg n.natAbs (by omega) w
    rw [show -(n.natAbs : Int) = n from by omega] at this
    unfold zi; rw [decide_eq_true hn]; exact this
  · have := wof_pos n.natAbs (by omega) w
    rw [show (n.natAbs : Int) = n from by omega] at this
    unfold zi; rw [decide_eq_false hn]; exact this

set_option maxHeartbeats 1000000 in
set_option maxRecDepth 100000 in
theorem made_any (neg : Bool) (v : Nat) (hv : v < Top) (w : World) : Calls Tryz.prog 73 #[.bool neg, .agg (sz v)] w fun e w' => e = .returned (.agg (wi (neg && decide (v ≠ 0)) false v)) ∧ Below w.heap.size w w' := by
  have hv16 : v < Bs ^ 16 := Nat.lt_trans hv top_lt
  have hbl : bl v ≤ 1023 := bl_small v TopBits hv16 hv
  have hB : Below w.heap.size w w := Below.refl _ _
  have hr := (IsRow.new w (sz v) 61).alloc (.cells (wi false false 0) 63)
  have hr2 := IsRow.new (w.alloc (.cells (sz v) 61)) (wi false false 0) 63
  have hdg := Digs.of_sz hr
  rw [wi_zero] at hdg hr hr2
  have HD := Lib.hid hdg
  clear hdg
  have hB2 : Below w.heap.size w ((w.alloc (.cells (sz v) 61)).alloc (.cells #[.bool false, .bool false, .int .u64 0, .int .u64 0, .int .u64 0, .int .u64 0, .int .u64 0, .int .u64 0, .int .u64 0, .int .u64 0, .int .u64 0, .int .u64 0, .int .u64 0, .int .u64 0, .int .u64 0, .int .u64 0, .int .u64 0, .int .u64 0] 63)) := by
    refine Below.alloc (Below.alloc hB ?_ _) ?_ _
    · exact Nat.le_refl _
    · simp
  go_enter Tryz.func73, Tryz.ntmps73
  go_wp2_with fail
  refine (bits_any w.heap.size 0 v _ HD.out).mono ?_
  rintro e w' ⟨rfl, rfl⟩
  clear HD
  cases neg
  · go_wp2_with fail
    rw [show (w.alloc (.cells (sz v) 61)).heap.size = w.heap.size + 1 from by simp] at hr2
    generalize hW : ((w.alloc (.cells (sz v) 61)).alloc (.cells #[.bool false, .bool false, .int .u64 0, .int .u64 0, .int .u64 0, .int .u64 0, .int .u64 0, .int .u64 0, .int .u64 0, .int .u64 0, .int .u64 0, .int .u64 0, .int .u64 0, .int .u64 0, .int .u64 0, .int .u64 0, .int .u64 0, .int .u64 0] 63)) = W at hr hr2 hB2 ⊢
    clear hW
    have heq := equal_sz v 0 hv16 (bsp_pos 16) W.drew
    clear heq
    refine wp_region_still_tail 8 (by kernel_rfl) (by kernel_rfl) ?_
    simp only [List.take_succ_cons, List.take_zero, List.drop_succ_cons, List.drop_zero]
    repeat (first | (refine isLoadS (ty := 61) rfl ?_; refine wpStill_load_row ?_ 61 _ rfl (w.heap.size) rfl _ (sz v) _ _ (hr.drew) Tryz.underlying61 rfl (by rw [sz_size]; kernel_rfl) ?_; (focus (first | rfl | (go_simp; done)))) | (refine isBuildS (ty := 61) rfl ?_; refine wpStill_build0 ?_ 61 rfl (sz 0) (built_0) ?_; (focus (first | rfl | (go_simp; done)))) | (refine isBuildS (ty := 63) rfl ?_; refine wpStill_build2 ?_ 63 0 2 _ _ rfl (.bool false) (.agg (sz v)) rfl rfl (wi false false v) (built_wi _ _) ?_; (focus (first | rfl | (go_simp; done)))) | still_step)
    refine wpStill_nil ?_
    change wpList _ _ _ _ _ W.drew
    go_wp2_with (refine isStoreL (ty := 63) rfl ?_; refine wpList_store_row ?_ 63 _ _ rfl (w.heap.size + 1) (wi false false v) rfl rfl _ (_) (hr2.drew) (by rw [wi_size]; kernel_rfl) (by simp) (wi_one _ _ _) ?_; (focus rfl))
    exact bodyPost_ret (results_cell_row Tryz.results73 _ _ (w.heap.size + 1) _ _ _ _ rfl (hr2.drew.row _) Tryz.underlying63 rfl (by rw [wi_size]; kernel_rfl)) rfl ⟨by rw [show (false && decide (v ≠ 0)) = false from by simp], below_setRow hB2.drew (by omega) _⟩
  · by_cases hz : v = 0
    · have HZ := Lib.hid hz
      clear hz
      go_wp2_with fail
      rw [show (w.alloc (.cells (sz v) 61)).heap.size = w.heap.size + 1 from by simp] at hr2
      generalize hW : ((w.alloc (.cells (sz v) 61)).alloc (.cells #[.bool false, .bool false, .int .u64 0, .int .u64 0, .int .u64 0, .int .u64 0, .int .u64 0, .int .u64 0, .int .u64 0, .int .u64 0, .int .u64 0, .int .u64 0, .int .u64 0, .int .u64 0, .int .u64 0, .int .u64 0, .int .u64 0, .int .u64 0] 63)) = W at hr hr2 hB2 ⊢
      clear hW
      have heq := equal_sz v 0 hv16 (bsp_pos 16) W.drew
      rw [decide_eq_true HZ.out] at heq
      refine wp_region_still_tail 8 (by kernel_rfl) (by kernel_rfl) ?_
      simp only [List.take_succ_cons, List.take_zero, List.drop_succ_cons, List.drop_zero]
      repeat (first | (refine isLoadS (ty := 61) rfl ?_; refine wpStill_load_row ?_ 61 _ rfl (w.heap.size) rfl _ (sz v) _ _ (hr.drew) Tryz.underlying61 rfl (by rw [sz_size]; kernel_rfl) ?_; (focus (first | rfl | (go_simp; done)))) | (refine isBuildS (ty := 61) rfl ?_; refine wpStill_build0 ?_ 61 rfl (sz 0) (built_0) ?_; (focus (first | rfl | (go_simp; done)))) | (refine isBuildS (ty := 63) rfl ?_; refine wpStill_build2 ?_ 63 0 2 _ _ rfl (.bool false) (.agg (sz v)) rfl rfl (wi false false v) (built_wi _ _) ?_; (focus (first | rfl | (go_simp; done)))) | still_step)
      refine wpStill_nil ?_
      change wpList _ _ _ _ _ W.drew
      go_wp2_with (refine isStoreL (ty := 63) rfl ?_; refine wpList_store_row ?_ 63 _ _ rfl (w.heap.size + 1) (wi false false v) rfl rfl _ (_) (hr2.drew) (by rw [wi_size]; kernel_rfl) (by simp) (wi_one _ _ _) ?_; (focus rfl))
      exact bodyPost_ret (results_cell_row Tryz.results73 _ _ (w.heap.size + 1) _ _ _ _ rfl (hr2.drew.row _) Tryz.underlying63 rfl (by rw [wi_size]; kernel_rfl)) rfl ⟨by rw [show (true && decide (v ≠ 0)) = false from by simp [HZ.out]], below_setRow hB2.drew (by omega) _⟩
    · have HZ := Lib.hid hz
      clear hz
      go_wp2_with fail
      rw [show (w.alloc (.cells (sz v) 61)).heap.size = w.heap.size + 1 from by simp] at hr2
      generalize hW : ((w.alloc (.cells (sz v) 61)).alloc (.cells #[.bool false, .bool false, .int .u64 0, .int .u64 0, .int .u64 0, .int .u64 0, .int .u64 0, .int .u64 0, .int .u64 0, .int .u64 0, .int .u64 0, .int .u64 0, .int .u64 0, .int .u64 0, .int .u64 0, .int .u64 0, .int .u64 0, .int .u64 0] 63)) = W at hr hr2 hB2 ⊢
      clear hW
      have heq := equal_sz v 0 hv16 (bsp_pos 16) W.drew
      rw [decide_eq_false HZ.out] at heq
      refine wp_region_still_tail 8 (by kernel_rfl) (by kernel_rfl) ?_
      simp only [List.take_succ_cons, List.take_zero, List.drop_succ_cons, List.drop_zero]
      repeat (first | (refine isLoadS (ty := 61) rfl ?_; refine wpStill_load_row ?_ 61 _ rfl (w.heap.size) rfl _ (sz v) _ _ (hr.drew) Tryz.underlying61 rfl (by rw [sz_size]; kernel_rfl) ?_; (focus (first | rfl | (go_simp; done)))) | (refine isBuildS (ty := 61) rfl ?_; refine wpStill_build0 ?_ 61 rfl (sz 0) (built_0) ?_; (focus (first | rfl | (go_simp; done)))) | (refine isBuildS (ty := 63) rfl ?_; refine wpStill_build2 ?_ 63 0 2 _ _ rfl (.bool true) (.agg (sz v)) rfl rfl (wi true false v) (built_wi _ _) ?_; (focus (first | rfl | (go_simp; done)))) | still_step)
      refine wpStill_nil ?_
      change wpList _ _ _ _ _ W.drew
      go_wp2_with (refine isStoreL (ty := 63) rfl ?_; refine wpList_store_row ?_ 63 _ _ rfl (w.heap.size + 1) (wi true false v) rfl rfl _ (_) (hr2.drew) (by rw [wi_size]; kernel_rfl) (by simp) (wi_one _ _ _) ?_; (focus rfl))
      exact bodyPost_ret (results_cell_row Tryz.results73 _ _ (w.heap.size + 1) _ _ _ _ rfl (hr2.drew.row _) Tryz.underlying63 rfl (by rw [wi_size]; kernel_rfl)) rfl ⟨by rw [show (true && decide (v ≠ 0)) = true from by simp [HZ.out]], below_setRow hB2.drew (by omega) _⟩
end Go.Proofs.YtdnkeeedcnjofaaGreatDoor


/-
  Digits behind a shift, and 'or' of parts that do not meet.
-/
set_option linter.unusedVariables false
namespace Go.Proofs.YtdnkeeedcnjofaaGreatDoor

theorem gen_shl (v p q M : Nat) (hp : 0 < p) (hq : 0 < q) (hM : 0 < M) : v * p / (M * (p * q)) = v / (M * (p * q)) * p + v / M % (p * q) / q := by
  have h1 : v / (M * (p * q)) = v / M / (p * q) := by rw [Nat.div_div_eq_div_mul]
  have h2 := Nat.div_add_mod v M
  have h3 := Nat.div_add_mod (v / M) (p * q)
  have h4 : v * p / (M * (p * q)) = v / M / q := by
    rw [show M * (p * q) = M * q * p from by rw [Nat.mul_comm p q, Nat.mul_assoc], Nat.mul_div_mul_right _ _ hp, Nat.div_div_eq_div_mul]
  rw [h4, h1]
  generalize v / M = x at *
  have h5 : x = x / (p * q) * (p * q) + x % (p * q) := by rw [Nat.mul_comm]; exact h3.symm
  conv => lhs; rw [h5]
  rw [show x / (p * q) * (p * q) = q * (x / (p * q) * p) from by rw [← Nat.mul_assoc, Nat.mul_comm q, Nat.mul_assoc]]
  rw [Nat.mul_add_div hq]

theorem pow_split (k : Nat) (hk : k < 64) : Bs = 2 ^ k * 2 ^ (64 - k) := by rw [← Nat.pow_add, show k + (64 - k) = 64 from by omega]

/-- The shift by less than a digit, up. -/
theorem shl_zero (v k : Nat) : dg (v * 2 ^ k) 0 = dg v 0 * 2 ^ k % 18446744073709551616 := by
  unfold dg
  rw [Nat.pow_zero, Nat.div_one, Nat.div_one]
  show _ = v % Bs * 2 ^ k % Bs
  rw [Nat.mod_mul_mod]
theorem shl_step (v k n : Nat) (hk : k < 64) (hn : 0 < n) : dg (v * 2 ^ k) n = dg v n * 2 ^ k % 18446744073709551616 + dg v (n - 1) / 2 ^ (64 - k) := by
  obtain ⟨m, rfl⟩ : ∃ m, n = m + 1 := ⟨n - 1, by omega⟩
  have hM := bsp_pos m
  have hp : 0 < 2 ^ k := Nat.pow_pos (by decide)
  have hq : 0 < 2 ^ (64 - k) := Nat.pow_pos (by decide)
  have g := gen_shl v (2 ^ k) (2 ^ (64 - k)) (Bs ^ m) hp hq hM
  have e := pow_split k hk
  have hd0 := Nat.mod_lt (v / Bs ^ m) bs_pos
  rw [show m + 1 - 1 = m from rfl]
  unfold dg
  show v * 2 ^ k / Bs ^ (m + 1) % Bs = v / Bs ^ (m + 1) % Bs * 2 ^ k % Bs + v / Bs ^ m % Bs / 2 ^ (64 - k)
  rw [Nat.pow_succ]
  generalize 2 ^ k = p at *
  generalize 2 ^ (64 - k) = q at *
  rw [← e] at g
  rw [g]
  generalize v / (Bs ^ m * Bs) = x at *
  generalize v / Bs ^ m % Bs = d at *
  generalize Bs = B at *
  subst e
  have h1 : d / q < p := by rw [Nat.div_lt_iff_lt_mul hq]; exact hd0
  have h2 : x % (p * q) * p % (p * q) = x % q * p := by
    rw [Nat.mod_mul_mod, Nat.mul_comm x p, Nat.mul_mod_mul_left, Nat.mul_comm]
  have h3 := Nat.div_add_mod x q
  rw [h2]
  have h4 : x * p + d / q = p * q * (x / q) + (x % q * p + d / q) := by
    have : x * p = p * q * (x / q) + x % q * p := by
      conv => lhs; rw [← h3]
      rw [Nat.add_mul, Nat.mul_comm (q * (x / q)) p, ← Nat.mul_assoc]
    omega
  rw [h4, Nat.mul_add_mod, Nat.mod_eq_of_lt]
  have h5 := Nat.mod_lt x hq
  have h6 : (x % q + 1) * p ≤ q * p := Nat.mul_le_mul_right _ h5
  rw [Nat.add_mul] at h6
  rw [Nat.mul_comm p q]
  omega

theorem u64_shl (x k : Nat) : IntKind.u64.wrap ((x : Int) * 2 ^ k) = ((x * 2 ^ k % 18446744073709551616 : Nat) : Int) := by
  rw [IntKind.wrap_u64]
  generalize h : x * 2 ^ k = y
  have : (x : Int) * 2 ^ k = (y : Nat) := by rw [← h]; exact_mod_cast rfl
  rw [this]; omega
theorem int_shr (x k : Nat) : (x : Int) / 2 ^ k = ((x / 2 ^ k : Nat) : Int) := by exact_mod_cast rfl
theorem or_nat (a b : Nat) (ha : a < 18446744073709551616) (hb : b < 18446744073709551616) : bits .or .u64 (a : Int) (b : Int) = ((a ||| b : Nat) : Int) :=
  (bits_nat .u64 64 (by decide) (fun n h0 h1 => by rw [IntKind.wrap_u64]; omega) a b ha hb).2
theorem or_up (x y k : Nat) (hk0 : 0 < k) (hk : k < 64) (hy : y < 18446744073709551616) :
    bits .or .u64 (IntKind.u64.wrap ((x : Int) * 2 ^ k)) ((y : Int) / 2 ^ (64 - k)) = ((x * 2 ^ k % 18446744073709551616 + y / 2 ^ (64 - k) : Nat) : Int) := by
  have h1 := Nat.mod_lt (x * 2 ^ k) bs_pos
  have h2 : y / 2 ^ (64 - k) < 2 ^ k := by
    rw [Nat.div_lt_iff_lt_mul (Nat.pow_pos (by decide)), ← pow_split k hk]; exact hy
  have h3 : 2 ^ k ≤ 2 ^ 63 := Nat.pow_le_pow_right (by decide) (by omega)
  rw [u64_shl, int_shr, or_nat _ _ h1 (by omega)]
  have h4 : x * 2 ^ k % 18446744073709551616 = 2 ^ k * (x % 2 ^ (64 - k)) := by
    show x * 2 ^ k % Bs = _
    rw [pow_split k hk, Nat.mul_comm x, Nat.mul_mod_mul_left]
  rw [h4, Nat.two_pow_add_eq_or_of_lt h2]
theorem or_down (x y k : Nat) (hk0 : 0 < k) (hk : k < 64) (hx : x < 18446744073709551616) :
    bits .or .u64 ((x : Int) / 2 ^ k) (IntKind.u64.wrap ((y : Int) * 2 ^ (64 - k))) = ((x / 2 ^ k + y * 2 ^ (64 - k) % 18446744073709551616 : Nat) : Int) := by
  have h1 := Nat.mod_lt (y * 2 ^ (64 - k)) bs_pos
  have e : Bs = 2 ^ (64 - k) * 2 ^ k := by rw [Nat.mul_comm]; exact pow_split k hk
  have h2 : x / 2 ^ k < 2 ^ (64 - k) := by
    rw [Nat.div_lt_iff_lt_mul (Nat.pow_pos (by decide)), ← e]; exact hx
  have h3 : 2 ^ (64 - k) ≤ 2 ^ 63 := Nat.pow_le_pow_right (by decide) (by omega)
  rw [u64_shl, int_shr, or_nat _ _ (by omega) h1]
  have h4 : y * 2 ^ (64 - k) % 18446744073709551616 = 2 ^ (64 - k) * (y % 2 ^ k) := by
    show y * 2 ^ (64 - k) % Bs = _
    rw [e, Nat.mul_comm y, Nat.mul_mod_mul_left]
  rw [h4, Nat.or_comm, ← Nat.two_pow_add_eq_or_of_lt h2, Nat.add_comm]
end Go.Proofs.YtdnkeeedcnjofaaGreatDoor


/-
  The walks of up, down: a number shifted by less than a digit.
-/
set_option linter.unusedVariables false
namespace Go.Proofs.YtdnkeeedcnjofaaGreatDoor
open Go.RowKit

theorem lim_set2 (m : Nat) (f g : Nat → Nat) (i : Nat) (u : Value) (x : Int) (hi : i < m) (hv : x = ((g i : Nat) : Int)) (h : ∀ j, j < m → j ≠ i → f j = g j) : ((lim m f).setIfInBounds i u).setIfInBounds i (.int .u64 x) = lim m g := by
  rw [← lim_set m f g i x hi hv h]
  apply Array.ext_getElem?
  intro j
  simp only [Array.getElem?_setIfInBounds, Array.size_setIfInBounds]
  split <;> simp_all

/-- The digits of what is shifted up, as far as they are reckoned (from the top). -/
def upTo (v k n : Nat) : Nat → Nat := fun j => if n ≤ j then dg (v * 2 ^ k) j else 0
theorem upTo_step (v k n j : Nat) (h : j ≠ n) : upTo v k (n + 1) j = upTo v k n j := by
  unfold upTo; by_cases hj : n ≤ j <;> simp [hj, show n + 1 ≤ j ↔ n < j from Iff.rfl] <;> omega
theorem upTo_at (v k n : Nat) : upTo v k n n = dg (v * 2 ^ k) n := by unfold upTo; rw [if_pos (Nat.le_refl _)]

end Go.Proofs.YtdnkeeedcnjofaaGreatDoor


/-
  The walk of down: a number shifted down by less than a digit.
-/
set_option linter.unusedVariables false
namespace Go.Proofs.YtdnkeeedcnjofaaGreatDoor
open Go.RowKit

/-- The digits of what is shifted down, as far as they are reckoned. -/
def downTo (v k n : Nat) : Nat → Nat := fun j => if j < n then dg (v / 2 ^ k) j else 0
theorem downTo_step (v k n j : Nat) (h : j ≠ n) : downTo v k n j = downTo v k (n + 1) j := by
  unfold downTo; by_cases hj : j < n <;> simp [hj] <;> omega
theorem downTo_at (v k n : Nat) : downTo v k (n + 1) n = dg (v / 2 ^ k) n := by unfold downTo; rw [if_pos (by omega)]

end Go.Proofs.YtdnkeeedcnjofaaGreatDoor


/-
  The walk of divide, by a divisor of one digit.
-/
set_option linter.unusedVariables false
namespace Go.Proofs.YtdnkeeedcnjofaaGreatDoor
open Go.RowKit

/-- The digits of a quotient, as far as they are reckoned (from the top). -/
def dvTo (a b n : Nat) : Nat → Nat := fun j => if n ≤ j then dg (a / b) j else 0
theorem dvTo_step (a b n j : Nat) (h : j ≠ n) : dvTo a b (n + 1) j = dvTo a b n j := by
  unfold dvTo; by_cases hj : n ≤ j <;> simp [hj, show n + 1 ≤ j ↔ n < j from Iff.rfl] <;> omega
theorem dvTo_at (a b n : Nat) : dvTo a b n n = dg (a / b) n := by unfold dvTo; rw [if_pos (Nat.le_refl _)]

/-- What is left of a division, behind so many digits. -/
def rm (a b i : Nat) : Nat := a / Bs ^ i % b
theorem cm_neg (a b : Nat) : cm a b < 0 ↔ a < b := by unfold cm; split <;> (try split) <;> omega
theorem nd_one (b : Nat) (h0 : 0 < b) (h : b < 18446744073709551616) : nd b = 1 := by
  have key : ∀ n, ndTo b (n + 1) = 1 := by
    intro n
    induction n with
    | zero =>
      rw [ndTo]
      rw [if_neg (by rw [dg_small b h]; simp; omega)]
    | succ n ih => rw [ndTo, if_pos (by rw [dg_small b h]; simp), ih]
  exact key 15

end Go.Proofs.YtdnkeeedcnjofaaGreatDoor


/-
  A digit of a quotient of two by one (to the base 2^32), as bits.Div64 reckons it.
-/
set_option linter.unusedVariables false
namespace Go.Proofs.YtdnkeeedcnjofaaGreatDoor.Knuth

/-- The half base. -/
abbrev h : Nat := 4294967296

variable {y1 y0 u d q r : Nat}

/-- What holds while a guessed digit is brought down: it is not below the digit. -/
structure Guess (y1 y0 u d q r : Nat) : Prop where
  sum : q * y1 + r = u
  ge : (u * h + d) / (y1 * h + y0) ≤ q
  le : q ≤ h + 1

theorem digit_lt (hd : d < h) (hu : u < y1 * h + y0) : (u * h + d) / (y1 * h + y0) < h := by
  rw [Nat.div_lt_iff_lt_mul (by omega)]
  have : (u + 1) * h ≤ (y1 * h + y0) * h := Nat.mul_le_mul_right _ hu
  rw [Nat.add_mul] at this
  rw [Nat.mul_comm h]
  simp only [h] at *
  omega

theorem first (hy1 : 2147483648 ≤ y1) (hy1' : y1 < h) (hy0 : y0 < h) (hd : d < h) (hu : u < y1 * h + y0) : Guess y1 y0 u d (u / y1) (u % y1) := by
  have hp : 0 < y1 := by omega
  refine ⟨by rw [Nat.mul_comm]; exact Nat.div_add_mod u y1, ?_, ?_⟩
  · -- the digit is at most u / y1
    have e1 : (u * h + d) / (y1 * h + y0) ≤ (u * h + d) / (y1 * h) := Nat.div_le_div_left (by omega) (by simp only [h]; omega)
    have e2 : (u * h + d) / (y1 * h) = u / y1 := by
      rw [Nat.mul_comm y1, ← Nat.div_div_eq_div_mul, Nat.mul_comm u, Nat.mul_add_div (by decide), Nat.div_eq_of_lt hd, Nat.add_zero]
    omega
  · have : u / y1 < h + 2 := by
      rw [Nat.div_lt_iff_lt_mul hp, Nat.add_mul]
      simp only [h] at *
      omega
    omega

theorem too_great (hp : 0 < y1 * h + y0) (hs : q * y1 + r = u) (hg : h * r + d < q * y0) : (u * h + d) / (y1 * h + y0) < q := by
  rw [Nat.div_lt_iff_lt_mul hp]
  have e : q * (y1 * h + y0) = q * y1 * h + q * y0 := by rw [Nat.mul_add, Nat.mul_assoc]
  rw [e, ← hs, Nat.add_mul, Nat.mul_comm r h]
  omega
theorem fits (hp : 0 < y1 * h + y0) (hs : q * y1 + r = u) (hg : q * y0 ≤ h * r + d) : q ≤ (u * h + d) / (y1 * h + y0) := by
  rw [Nat.le_div_iff_mul_le hp]
  have e : q * (y1 * h + y0) = q * y1 * h + q * y0 := by rw [Nat.mul_add, Nat.mul_assoc]
  rw [e, ← hs, Nat.add_mul, Nat.mul_comm r h]
  omega

/-- One down. -/
theorem down (hd : d < h) (hu : u < y1 * h + y0) (g : Guess y1 y0 u d q r) (ht : h ≤ q ∨ h * r + d < q * y0) : 0 < q ∧ Guess y1 y0 u d (q - 1) (r + y1) := by
  have hp : 0 < y1 * h + y0 := by omega
  have hlt := digit_lt hd hu
  have hq : (u * h + d) / (y1 * h + y0) < q := by
    rcases ht with h1 | h1
    · exact Nat.lt_of_lt_of_le hlt h1
    · exact too_great hp g.sum h1
  have h0 : 0 < q := Nat.lt_of_le_of_lt (Nat.zero_le _) hq
  obtain ⟨k, rfl⟩ : ∃ k, q = k + 1 := ⟨q - 1, by omega⟩
  refine ⟨h0, ⟨?_, by simp only [Nat.add_sub_cancel]; omega, by have := g.le; simp only [Nat.add_sub_cancel]; omega⟩⟩
  have := g.sum
  rw [Nat.add_mul, Nat.one_mul] at this
  simp only [Nat.add_sub_cancel]
  omega
/-- It is the digit: where it fits. -/
theorem stop (hd : d < h) (hu : u < y1 * h + y0) (g : Guess y1 y0 u d q r) (hq : q < h) (ht : q * y0 ≤ h * r + d) : q = (u * h + d) / (y1 * h + y0) := by
  have := fits (by omega) g.sum ht
  have := g.ge
  omega
/-- It is the digit: where the rest is a whole base. -/
theorem stop' (hy0 : y0 < h) (hd : d < h) (hu : u < y1 * h + y0) (g : Guess y1 y0 u d q r) (hq : q ≤ h) (hr : h ≤ r) : q = (u * h + d) / (y1 * h + y0) := by
  have e1 : q * y0 ≤ h * y0 := Nat.mul_le_mul_right _ hq
  have e2 : h * h ≤ h * r := Nat.mul_le_mul_left _ hr
  have e3 : h * y0 ≤ h * h := Nat.mul_le_mul_left _ (Nat.le_of_lt hy0)
  have := fits (by omega) g.sum (show q * y0 ≤ h * r + d by omega)
  have := g.ge
  omega

/-- Two digits, one behind the other. -/
theorem two (u d1 d0 Y : Nat) (hY : 0 < Y) : (u * h * h + d1 * h + d0) / Y = (u * h + d1) / Y * h + ((u * h + d1) % Y * h + d0) / Y ∧ (u * h * h + d1 * h + d0) % Y = ((u * h + d1) % Y * h + d0) % Y := by
  have e0 := Nat.div_add_mod (u * h + d1) Y
  have e : u * h * h + d1 * h + d0 = Y * ((u * h + d1) / Y * h) + ((u * h + d1) % Y * h + d0) := by
    rw [← Nat.add_mul]
    conv => lhs; rw [← e0]
    rw [Nat.add_mul, Nat.mul_assoc, Nat.add_assoc]
  rw [e, Nat.mul_add_div hY, Nat.mul_add_mod]
  exact ⟨rfl, rfl⟩

/-- Shifted up by less than 64: the upper and the lower word. -/
theorem words (hi lo s : Nat) (hs : s < 64) : (hi * 18446744073709551616 + lo) * 2 ^ s = (hi * 2 ^ s + lo / 2 ^ (64 - s)) * 18446744073709551616 + lo * 2 ^ s % 18446744073709551616 := by
  have e : (18446744073709551616 : Nat) = 2 ^ (64 - s) * 2 ^ s := by rw [← Nat.pow_add, show 64 - s + s = 64 from by omega]
  have hp : 0 < 2 ^ s := Nat.pow_pos (by decide)
  have e1 : lo * 2 ^ s / 18446744073709551616 = lo / 2 ^ (64 - s) := by
    rw [e, Nat.mul_div_mul_right _ _ hp]
  have e2 := Nat.div_add_mod (lo * 2 ^ s) 18446744073709551616
  rw [e1] at e2
  rw [Nat.add_mul, Nat.add_mul, Nat.mul_right_comm hi]
  omega

/-- What is left, shifted back. -/
theorem back (n y s : Nat) : n * 2 ^ s / (y * 2 ^ s) = n / y ∧ n * 2 ^ s % (y * 2 ^ s) / 2 ^ s = n % y := by
  have hp : 0 < 2 ^ s := Nat.pow_pos (by decide)
  refine ⟨Nat.mul_div_mul_right _ _ hp, ?_⟩
  rw [Nat.mul_mod_mul_right, Nat.mul_div_cancel _ hp]
theorem join (u l d1 d0 : Nat) (el : l = d1 * 4294967296 + d0) : u * 18446744073709551616 + l = u * h * h + d1 * h + d0 := by
  subst el
  show u * 18446744073709551616 + (d1 * 4294967296 + d0) = u * 4294967296 * 4294967296 + d1 * 4294967296 + d0
  omega
end Go.Proofs.YtdnkeeedcnjofaaGreatDoor.Knuth


/-
  The walk of bits.Div64.
-/
set_option linter.unusedVariables false
namespace Go.Proofs.YtdnkeeedcnjofaaGreatDoor
open Go.RowKit

/-- The quotient, what is left. -/
def d64q (hi lo y : Nat) : Nat := (hi * 18446744073709551616 + lo) / y
def d64r (hi lo y : Nat) : Nat := (hi * 18446744073709551616 + lo) % y

/-- How far a divisor is shifted up. -/
theorem norm_shift (y : Nat) (h0 : 0 < y) (hy : y < 18446744073709551616) : ∃ s : Nat, s < 64 ∧ (64 : Int) - (lb y : Int) = (s : Int) ∧ 9223372036854775808 ≤ y * 2 ^ s ∧ y * 2 ^ s < 18446744073709551616 := by
  obtain ⟨b1, b2⟩ := bitLenAux_spec 64 y hy
  obtain ⟨b3, b4⟩ := b2 (by omega)
  have e : Lib.bitLenAux 64 y = lb y := rfl
  rw [e] at b1 b3 b4
  have hl := lb_le y hy
  refine ⟨64 - lb y, by omega, by omega, ?_, ?_⟩
  · have : 2 ^ (lb y - 1) * 2 ^ (64 - lb y) = 9223372036854775808 := by
      rw [← Nat.pow_add, show lb y - 1 + (64 - lb y) = 63 from by omega]
    rw [← this]
    exact Nat.mul_le_mul_right _ b3
  · have : 2 ^ lb y * 2 ^ (64 - lb y) = 18446744073709551616 := by
      rw [← Nat.pow_add, show lb y + (64 - lb y) = 64 from by omega]
    rw [← this]
    exact Nat.mul_lt_mul_of_pos_right b1 (Nat.pow_pos (by decide))

theorem and_low (x : Nat) (hx : x < 18446744073709551616) : bits .and .u64 (x : Int) 4294967295 = ((x % 4294967296 : Nat) : Int) := by
  have := (bits_nat .u64 64 (by decide) (fun n h0 h1 => by rw [IntKind.wrap_u64]; omega) x 4294967295 hx (by decide)).1
  refine this.trans ?_
  rw [show (4294967295 : Nat) = 2 ^ 32 - 1 from rfl, Nat.and_two_pow_sub_one_eq_mod]
theorem or_words (hi lo s : Nat) (hs : s < 64) (h1 : hi * 2 ^ s < 18446744073709551616) (hlo : lo < 18446744073709551616) :
    bits .or .u64 (IntKind.u64.wrap ((hi : Int) * 2 ^ s)) ((lo : Int) / 2 ^ (64 - s)) = ((hi * 2 ^ s + lo / 2 ^ (64 - s) : Nat) : Int) := by
  by_cases h0 : 0 < s
  · rw [or_up hi lo s h0 hs hlo, Nat.mod_eq_of_lt h1]
  · obtain rfl : s = 0 := by omega
    rw [u64_shl, int_shr, or_nat _ _ (Nat.mod_lt _ (by decide)) (Nat.lt_of_le_of_lt (Nat.div_le_self _ _) hlo), Nat.mod_eq_of_lt h1]
    rw [show lo / 2 ^ (64 - 0) = 0 from Nat.div_eq_of_lt hlo, Nat.or_zero, Nat.add_zero]

end Go.Proofs.YtdnkeeedcnjofaaGreatDoor


/-
  The contracts of wide that were walked before, as the evaluator takes them.
-/
set_option linter.unusedVariables false
set_option linter.unusedSimpArgs false
namespace Go.Proofs.YtdnkeeedcnjofaaGreatDoor
open Go Go.RowKit Sx

theorem plain3_wi (neg over : Bool) (v : Nat) : plain3 (.agg ⟨wiL neg over v⟩) = true := plain_wi neg over v
theorem cMade (neg : Bool) (v : Nat) (h : List (Option Chunk)) (hv : v < Top) : CallOK Tryz.prog 73 [.bool neg, .agg ⟨limL 16 (dg v)⟩] h (.agg ⟨wiL (neg && decide (v ≠ 0)) false v⟩) [] [] :=
  call_pure (by simp [plain_lim]; rfl) (plain3_wi _ _ _) (Tryz.call73 _) fun w => by
    have := made_any neg v hv w
    rw [wi_is] at this
    exact this
theorem cOf (n : Int) (h : List (Option Chunk)) (h0 : -9223372036854775808 ≤ n) (h1 : n < 9223372036854775808) : CallOK Tryz.prog 34 [.int .i64 n] h (.agg ⟨wiL (decide (n < 0)) false n.natAbs⟩) [] [] :=
  call_pure rfl (plain3_wi _ _ _) (Tryz.call34 _) fun w => by
    have := wof_any n h0 h1 w
    unfold zi at this
    rw [wi_is] at this
    exact this
theorem cGreat (h : List (Option Chunk)) : CallOK Tryz.prog 71 [] h (.agg ⟨wiL false true 0⟩) [] [] :=
  call_pure rfl (plain3_wi _ _ _) (Tryz.call71 _) fun w => by
    have := great_any w
    rw [wi_is] at this
    exact this
theorem reads_lims {o : Bool} {n m p : Nat} {f : Nat → Nat} (hp : p + m ≤ n) : Reads ⟨o, n, [(0, n, .agg ⟨limL n f⟩)]⟩ p true m (.agg ⟨limL m (fun k => f (p + k))⟩) := by
  refine ⟨hp, _, rfl, limL_len _ _, fun k hk => ?_⟩
  show cellOf _ _ = _
  rw [cellOf_cons, if_pos (by omega)]
  simp only [cellIn]
  rw [limL_get hk, show p + k - 0 = p + k from rfl, limL_get (by omega)]
theorem writes_all {n : Nat} {ps : List (Nat × Nat × Value)} {v : Value} : Writes ⟨true, n, ps⟩ 0 n v ⟨true, n, [(0, n, v)]⟩ := by
  refine ⟨rfl, by show 0 + n ≤ n; omega, rfl, fun k hk => ?_⟩
  have hk : k < n := hk
  show cellOf _ _ = _
  rw [cellOf_cons, if_pos (by omega), if_pos (by omega)]
end Go.Proofs.YtdnkeeedcnjofaaGreatDoor


/-
  Long multiplication by digits, plain.
-/
set_option linter.unusedVariables false
namespace Go.Proofs.YtdnkeeedcnjofaaGreatDoor

def mT (v u i : Nat) : Nat := v % Bs ^ i * u
def mX (v u i j : Nat) : Nat := mT v u i + Bs ^ i * dg v i * (u % Bs ^ j)
def mC (v u i j : Nat) : Nat := mX v u i j / Bs ^ (i + j) - mT v u i / Bs ^ (i + j)
def mA (v u i j k : Nat) : Nat := if k < i + j then dg (mX v u i j) k else dg (mT v u i) k

theorem mX_zero (v u i : Nat) : mX v u i 0 = mT v u i := by simp [mX, Nat.mod_one]
theorem mC_zero (v u i : Nat) : mC v u i 0 = 0 := by simp [mC, mX_zero]
theorem mA_zero (v u i k : Nat) : mA v u i 0 k = dg (mT v u i) k := by unfold mA; rw [mX_zero]; split <;> rfl
theorem mT_zero (v u : Nat) : mT v u 0 = 0 := by simp [mT, Nat.mod_one]
theorem mX_succ (v u i j : Nat) : mX v u i (j + 1) = mX v u i j + Bs ^ (i + j) * (dg v i * dg u j) := by
  unfold mX
  rw [mod_step, Nat.mul_add, ← Nat.add_assoc, Nat.pow_add]
  congr 1
  simp only [Nat.mul_assoc, Nat.mul_left_comm]
theorem mX_ge (v u i j : Nat) : mT v u i ≤ mX v u i j := Nat.le_add_right _ _
theorem mX_div (v u i j : Nat) : mX v u i j / Bs ^ (i + j) = mT v u i / Bs ^ (i + j) + mC v u i j := by
  unfold mC
  have := Nat.div_le_div_right (c := Bs ^ (i + j)) (mX_ge v u i j)
  omega
theorem mX_next (v u i j : Nat) : mX v u i (j + 1) / Bs ^ (i + j) = mT v u i / Bs ^ (i + j) + mC v u i j + dg v i * dg u j := by
  rw [mX_succ, Nat.add_mul_div_left _ _ (bsp_pos _), mX_div]
theorem mC_step (v u i j : Nat) : mC v u i (j + 1) = (dg v i * dg u j + dg (mT v u i) (i + j) + mC v u i j) / 18446744073709551616 := by
  have h := mX_next v u i j
  have hs := dg_step (mT v u i) (i + j)
  have h2 : mX v u i (j + 1) / Bs ^ (i + (j + 1)) = mX v u i (j + 1) / Bs ^ (i + j) / Bs := by
    rw [Nat.div_div_eq_div_mul, show i + (j + 1) = (i + j) + 1 from rfl, Nat.pow_succ]
  generalize hc : mC v u i j = c at *
  show mX v u i (j + 1) / Bs ^ (i + (j + 1)) - mT v u i / Bs ^ (i + (j + 1)) = _
  rw [h2, h, hs, show i + (j + 1) = (i + j) + 1 from rfl]
  rw [show mT v u i / Bs ^ (i + j + 1) * Bs + dg (mT v u i) (i + j) + c + dg v i * dg u j = Bs * (mT v u i / Bs ^ (i + j + 1)) + (dg v i * dg u j + dg (mT v u i) (i + j) + c) from by rw [Nat.mul_comm]; omega]
  rw [Nat.mul_add_div bs_pos, Nat.add_sub_cancel_left]
theorem mA_dig (v u i j : Nat) : dg (mX v u i (j + 1)) (i + j) = (dg v i * dg u j + dg (mT v u i) (i + j) + mC v u i j) % 18446744073709551616 := by
  have h := mX_next v u i j
  have hs := dg_step (mT v u i) (i + j)
  show mX v u i (j + 1) / Bs ^ (i + j) % Bs = _
  rw [h, hs]
  rw [show mT v u i / Bs ^ (i + j + 1) * Bs + dg (mT v u i) (i + j) + mC v u i j + dg v i * dg u j = Bs * (mT v u i / Bs ^ (i + j + 1)) + (dg v i * dg u j + dg (mT v u i) (i + j) + mC v u i j) from by rw [Nat.mul_comm]; omega]
  rw [Nat.mul_add_mod]
theorem total_lt {a b t c : Nat} (ha : a < 18446744073709551616) (hb : b < 18446744073709551616) (ht : t < 18446744073709551616) (hc : c < 18446744073709551616) : (a * b + t + c) / 18446744073709551616 < 18446744073709551616 := by
  have : a * b ≤ 18446744073709551615 * 18446744073709551615 := Nat.mul_le_mul (by omega) (by omega)
  omega
theorem mC_lt (v u i : Nat) : ∀ j, mC v u i j < 18446744073709551616
  | 0 => by rw [mC_zero]; decide
  | j + 1 => by rw [mC_step]; exact total_lt (dg_lt _ _) (dg_lt _ _) (dg_lt _ _) (mC_lt v u i j)
theorem dg_add (x y p k : Nat) (h : k < p) : dg (x + Bs ^ p * y) k = dg x k := by
  rw [← dg_mod (x + Bs ^ p * y) p k h, Nat.add_mul_mod_self_left, dg_mod x p k h]
theorem mA_step (v u i j k : Nat) (h : k ≠ i + j) : mA v u i (j + 1) k = mA v u i j k := by
  unfold mA
  by_cases hk : k < i + j
  · rw [if_pos hk, if_pos (by omega), mX_succ, dg_add _ _ _ _ hk]
  · rw [if_neg hk, if_neg (by omega)]
theorem mA_at (v u i j : Nat) : mA v u i (j + 1) (i + j) = (dg v i * dg u j + dg (mT v u i) (i + j) + mC v u i j) % 18446744073709551616 := by
  unfold mA; rw [if_pos (by omega), mA_dig]
theorem mA_old (v u i j : Nat) : mA v u i j (i + j) = dg (mT v u i) (i + j) := by unfold mA; rw [if_neg (by omega)]
theorem mX_end (v u i n : Nat) (hu : u < Bs ^ n) : mX v u i n = mT v u (i + 1) := by
  unfold mX mT
  rw [Nat.mod_eq_of_lt hu, mod_step, Nat.add_mul]
theorem mT_lt (v u i n : Nat) (hu : u < Bs ^ n) : mT v u i < Bs ^ (i + n) := by
  unfold mT
  rw [Nat.pow_add]
  have h1 := Nat.mod_lt v (bsp_pos i)
  exact Nat.mul_lt_mul'' h1 hu
theorem mul_end (v u i n k : Nat) (hu : u < Bs ^ n) : dg (mT v u (i + 1)) k = if k < i + n then mA v u i n k else if k = i + n then mC v u i n else dg (mT v u i) k := by
  have hx := mX_end v u i n hu
  have h0 : mT v u i / Bs ^ (i + n) = 0 := Nat.div_eq_of_lt (mT_lt v u i n hu)
  by_cases h1 : k < i + n
  · rw [if_pos h1]; unfold mA; rw [if_pos h1, hx]
  · rw [if_neg h1]
    by_cases h2 : k = i + n
    · rw [if_pos h2]
      subst h2
      have h3 := mX_div v u i n
      rw [h0, Nat.zero_add, hx] at h3
      show mT v u (i + 1) / Bs ^ (i + n) % Bs = _
      rw [h3, Nat.mod_eq_of_lt (mC_lt v u i n)]
    · rw [if_neg h2]
      have h4 : i + n ≤ k := by omega
      have h5 : Bs ^ (i + n) ≤ Bs ^ k := Nat.pow_le_pow_right bs_pos h4
      have h6 : Bs ^ (i + 1 + n) ≤ Bs ^ k := Nat.pow_le_pow_right bs_pos (by omega)
      rw [dg_big _ _ (Nat.lt_of_lt_of_le (mT_lt v u i n hu) h5), dg_big _ _ (Nat.lt_of_lt_of_le (mT_lt v u (i + 1) n hu) h6)]
theorem mA_high (v u i n k : Nat) (h : i + n ≤ k) : mA v u i n k = dg (mT v u i) k := by unfold mA; rw [if_neg (by omega)]
theorem mT_end (v u m : Nat) (hv : v < Bs ^ m) : mT v u m = v * u := by unfold mT; rw [Nat.mod_eq_of_lt hv]
end Go.Proofs.YtdnkeeedcnjofaaGreatDoor


/-
  The walk of wide.Mul.
-/
set_option linter.unusedVariables false
set_option linter.unusedSimpArgs false
namespace Go.Proofs.YtdnkeeedcnjofaaGreatDoor
open Go Go.RowKit Sx

theorem mul_low (ab t c : Nat) : (((((ab % 18446744073709551616 : Nat) : Int) + (t : Int) + 0) % 18446744073709551616) + (c : Int) + 0) % 18446744073709551616 = (((ab + t + c) % 18446744073709551616 : Nat) : Int) := by omega
theorem mul_high (ab t c : Nat) (h : (ab + t + c) / 18446744073709551616 < 18446744073709551616) : IntKind.u64.wrap (IntKind.u64.wrap (((ab / 18446744073709551616 : Nat) : Int) + (((ab % 18446744073709551616 : Nat) : Int) + (t : Int) + 0) / 18446744073709551616) + ((((ab % 18446744073709551616 : Nat) : Int) + (t : Int) + 0) % 18446744073709551616 + (c : Int) + 0) / 18446744073709551616) = (((ab + t + c) / 18446744073709551616 : Nat) : Int) := by
  rw [IntKind.wrap_u64, IntKind.wrap_u64]; omega
theorem int_u64 {a b : Int} (h : a = b) : Value.int .u64 a = .int .u64 b := by rw [h]
theorem int_i64 {a b : Int} (h : a = b) : Value.int .i64 a = .int .i64 b := by rw [h]

set_option maxRecDepth 100000 in
set_option maxHeartbeats 1000000 in
theorem mul_x (n1 n2 : Bool) (v u : Nat) (hv : v < Bs ^ 16) (hu : u < Bs ^ 16) (hvu : v * u < Top) (w : World) :
    Calls Tryz.prog 50 #[.agg ⟨wiL n1 false v⟩, .agg ⟨wiL n2 false u⟩] w fun e w' => e = .returned (.agg ⟨wiL ((n1 != n2) && decide (v * u ≠ 0)) false (v * u)⟩) ∧ Below w.heap.size w w' := by
  have hn1 := nd_le v
  have hn2 := nd_le u
  have hvm : v < Bs ^ nd v := ndTo_lt v 16 hv
  have hun : u < Bs ^ nd u := ndTo_lt u 16 hu
  refine calls_pure (G := tys) w tysOK mixed Tryz.func50 (by rfl) (by simp [plain_wi]) (by exact plain_wi _ _ _) ?_
  repeat (refine N.go ?_; first | with_reducible refine N.obl (flat_wi _ _ _) ?_ | with_reducible refine N.obl (flat_lim _ _) ?_ | with_reducible refine N.eq ?_ | with_reducible refine N.obl rfl ?_ | with_reducible refine N.obl ⟨by kernel_rfl, by kernel_rfl⟩ ?_ | with_reducible refine N.alt ?_ | with_reducible refine N.forkT ?_ | with_reducible refine N.forkF ?_ | refine N.call (cParts _ _ _ _ (has_wi (by rfl))) ?_)
  refine N.go ?_
  refine N.loop (α := Nat) (fun i => i ≤ nd v) (fun i => nd v - i) (fun i => [(29, .int .i64 (i : Int))]) (fun i => [(3, ⟨true, 32, [(0, 32, .agg ⟨limL 32 (dg (mT v u i))⟩)]⟩)]) 0 (Nat.zero_le _) ?_ ?_
  · repeat (refine N.go ?_; first | exact N.true | with_reducible refine N.obl rfl ?_ | with_reducible refine N.obl (ChunkLe.refl _) ?_ | refine N.obl (ChunkLe.of (by rw [mT_zero, limL_same (g := fun _ => 0) (fun j _ => dg_zero j)]; rfl)) ?_)
  · intro i hi
    by_cases hlt : i < nd v
    · refine N.go ?_
      refine N.forkYes (by simpa using hlt) ?_
      refine N.go ?_
      refine N.loop (α := Nat) (fun j => j ≤ nd u) (fun j => nd u - j) (fun j => [(33, .int .i64 (j : Int)), (9, .int .u64 ((mC v u i j : Nat) : Int))]) (fun j => [(3, ⟨true, 32, [(0, 32, .agg ⟨limL 32 (mA v u i j)⟩)]⟩)]) 0 (Nat.zero_le _) ?_ ?_
      · repeat (refine N.go ?_; first | exact N.true | with_reducible refine N.obl rfl ?_ | with_reducible refine N.obl (ChunkLe.refl _) ?_ | refine N.obl (ChunkLe.of (by rw [limL_same (f := mA v u i 0) (g := dg (mT v u i)) (fun k _ => mA_zero v u i k)])) ?_ | refine N.obl (by rw [mC_zero]; rfl) ?_)
      · intro j hj
        have da := dg_lt v i
        have db := dg_lt u j
        have dt := dg_lt (mT v u i) (i + j)
        have dc := mC_lt v u i j
        by_cases hlt2 : j < nd u
        · have hab : dg v i * dg u j ≤ 18446744073709551615 * 18446744073709551615 := Nat.mul_le_mul (by omega) (by omega)
          refine N.go ?_
          refine N.forkYes (by simpa using hlt2) ?_
          refine N.go ?_
          refine N.alt ?_
          refine N.go ?_
          refine N.idx i 1 rfl (by omega) ?_
          refine N.go ?_
          refine N.load _ (reads_wi (p := i) (by omega) rfl) ?_
          refine N.go ?_
          refine N.idx j 1 rfl (by omega) ?_
          refine N.go ?_
          refine N.load _ (reads_wi (p := j) (by omega) rfl) ?_
          refine N.go ?_
          refine N.call (cMul64 (dg v i) (dg u j) _ da db) ?_
          refine N.go ?_
          refine N.obl ⟨by kernel_rfl, by kernel_rfl⟩ ?_
          refine N.go ?_
          refine N.idx (i + j) 1 (by rw [IntWalk.i64_in _ (by omega)]; omega) (by omega) ?_
          refine N.go ?_
          refine N.load _ (reads_lim (p := i + j) (by omega) rfl) ?_
          rw [mA_old]
          refine N.go ?_
          refine N.call (cAdd64 _ _ _ _ (by omega) (by omega) (by omega) (by omega) (by omega) (by omega)) ?_
          refine N.go ?_
          refine N.call (cAdd64 _ _ _ _ (by omega) (by omega) (by omega) (by omega) (by omega) (by omega)) ?_
          refine N.go ?_
          refine N.idx (i + j) 1 (by rw [IntWalk.i64_in _ (by omega)]; omega) (by omega) ?_
          refine N.go ?_
          refine N.store ⟨true, 32, [(0, 32, .agg ⟨limL 32 (mA v u i (j + 1))⟩)]⟩ (writes_lim (p := i + j) (by omega) rfl (by rw [mA_at]; exact mul_low _ _ _) (fun k _ hk => mA_step v u i j k hk)) ?_
          refine N.go ?_
          refine N.next (j + 1) ⟨by omega, by omega⟩ ?_
          repeat (refine N.go ?_; first | exact N.true | with_reducible refine N.obl rfl ?_ | with_reducible refine N.obl (ChunkLe.refl _) ?_ | refine N.obl (int_i64 (by rw [IntWalk.i64_in _ (by omega)]; rfl)) ?_ | refine N.obl (int_u64 (by rw [mC_step]; exact mul_high _ _ _ (total_lt da db dt dc))) ?_)
        · refine N.go ?_
          refine N.forkNo (by simpa using hlt2) ?_
          obtain rfl : j = nd u := by omega
          refine N.go ?_
          refine N.idx (i + nd u) 1 (by rw [IntWalk.i64_in _ (by omega)]; omega) (by omega) ?_
          refine N.go ?_
          refine N.store ⟨true, 32, [(0, 32, .agg ⟨limL 32 (dg (mT v u (i + 1)))⟩)]⟩ (writes_lim (p := i + nd u) (by omega) rfl (by rw [mul_end v u i (nd u) _ hun, if_neg (by omega), if_pos rfl]) (fun k _ hk => by
            rw [mul_end v u i (nd u) k hun]
            by_cases h : k < i + nd u
            · rw [if_pos h]
            · rw [if_neg h, if_neg hk, mA_high _ _ _ _ _ (by omega)])) ?_
          refine N.go ?_
          refine N.next (i + 1) ⟨by omega, by omega⟩ ?_
          repeat (refine N.go ?_; first | exact N.true | with_reducible refine N.obl rfl ?_ | with_reducible refine N.obl (ChunkLe.refl _) ?_ | refine N.obl (int_i64 (by rw [IntWalk.i64_in _ (by omega)]; rfl)) ?_)
    · have hm : i = nd v := by omega
      subst hm
      refine N.go ?_
      refine N.forkNo (by simp) ?_
      refine N.go ?_
      rw [mT_end v u _ hvm]
      refine N.mk ⟨0, 16, 0, rfl, rfl, ?_⟩
      refine N.go ?_
      refine N.mk ⟨0, 16, 0, ⟨rfl, by decide⟩, rfl, ?_⟩
      refine N.go ?_
      refine N.mk ⟨16, .agg ⟨limL 16 (dg (v * u))⟩, ⟨true, 16, [(0, 16, .agg ⟨limL 16 (dg (v * u))⟩)]⟩, rfl, ?_, flat_lim _ _, writes_all, ?_⟩
      · have := reads_lims (o := true) (n := 32) (m := 16) (p := 0) (f := dg (v * u)) (by omega)
        simp only [Nat.zero_add] at this
        exact this
      refine N.go ?_
      refine N.obl ⟨by kernel_rfl, by kernel_rfl⟩ ?_
      refine N.go ?_
      refine N.mk ⟨16, 32, 1, rfl, ⟨rfl, by decide⟩, ?_⟩
      refine N.go ?_
      refine N.loop (α := Nat) (fun j => j ≤ 16) (fun j => 16 - j) (fun j => [(86, .int .i64 (j : Int))]) (fun _ => []) 0 (by omega) ?_ ?_
      · repeat (refine N.go ?_; first | exact N.true | with_reducible refine N.obl rfl ?_ | with_reducible refine N.obl (ChunkLe.refl _) ?_ )
      · intro j hj
        by_cases hlt3 : j < 16
        · refine N.go ?_
          refine N.forkYes (by simp; omega) ?_
          refine N.go ?_
          refine N.idx j 1 rfl hlt3 ?_
          refine N.go ?_
          refine N.load _ (reads_lim (p := 16 + j) (by omega) rfl) ?_
          refine N.go ?_
          have hz : dg (v * u) (16 + j) = 0 := dg_big _ _ (Nat.lt_of_lt_of_le (Nat.lt_trans hvu top_lt) (Nat.pow_le_pow_right bs_pos (by omega)))
          rw [hz]
          refine N.forkNo rfl ?_
          refine N.go ?_
          refine N.next (j + 1) ⟨by omega, by omega⟩ ?_
          repeat (refine N.go ?_; first | exact N.true | with_reducible refine N.obl rfl ?_ | with_reducible refine N.obl (ChunkLe.refl _) ?_ | refine N.obl (int_i64 (by rw [IntWalk.i64_in _ (by omega)]; rfl)) ?_)
        · refine N.go ?_
          refine N.forkNo (by simp; omega) ?_
          repeat (refine N.go ?_; first | with_reducible refine N.obl (flat_wi _ _ _) ?_ | with_reducible refine N.obl (flat_lim _ _) ?_ | with_reducible refine N.eq ?_ | with_reducible refine N.obl rfl ?_ | with_reducible refine N.obl ⟨by kernel_rfl, by kernel_rfl⟩ ?_ | with_reducible refine N.alt ?_ | with_reducible refine N.forkT ?_ | with_reducible refine N.forkF ?_ | refine N.call (cMade _ _ _ hvu) ?_)
          rfl
end Go.Proofs.YtdnkeeedcnjofaaGreatDoor


/-
  The walks of wide.Div by one digit, of Neg, Int64, narrow, above, MulDiv, MulDivUp.
-/
set_option linter.unusedVariables false
set_option linter.unusedSimpArgs false
namespace Go.Proofs.YtdnkeeedcnjofaaGreatDoor
open Go Go.RowKit Sx

/-- A whole number as a wide one. -/
abbrev wz (z : Int) : Value := .agg ⟨wiL (decide (z < 0)) false z.natAbs⟩
theorem plain_wz (z : Int) : plain2 (wz z) = true := plain_wi _ _ _
theorem plain3_wz (z : Int) : plain3 (wz z) = true := plain_wi _ _ _
theorem cNegBool (a b : Int) : ((decide (a < 0) != decide (b < 0)) && decide (a.natAbs * b.natAbs ≠ 0)) = decide (a * b < 0) := by
  by_cases h0 : a = 0
  · subst h0; simp
  by_cases h1 : b = 0
  · subst h1; simp
  have hne : a.natAbs * b.natAbs ≠ 0 := Nat.mul_ne_zero (by omega) (by omega)
  rw [decide_eq_true hne, Bool.and_true]
  rcases Int.lt_or_gt_of_ne h0 with ha | ha <;> rcases Int.lt_or_gt_of_ne h1 with hb | hb
  · have := Int.mul_pos_of_neg_of_neg ha hb
    rw [decide_eq_true ha, decide_eq_true hb, decide_eq_false (by omega)]; rfl
  · have := Int.mul_neg_of_neg_of_pos ha hb
    rw [decide_eq_true ha, decide_eq_false (by omega : ¬ b < 0), decide_eq_true this]; rfl
  · have := Int.mul_neg_of_pos_of_neg ha hb
    rw [decide_eq_false (by omega : ¬ a < 0), decide_eq_true hb, decide_eq_true this]; rfl
  · have := Int.mul_pos ha hb
    rw [decide_eq_false (by omega : ¬ a < 0), decide_eq_false (by omega : ¬ b < 0), decide_eq_false (by omega)]; rfl
theorem cMulz (a b : Int) (h : List (Option Chunk)) (ha : a.natAbs < Bs ^ 16) (hb : b.natAbs < Bs ^ 16) (hab : (a * b).natAbs < Top) : CallOK Tryz.prog 50 [wz a, wz b] h (wz (a * b)) [] [] :=
  call_pure (by simp [plain_wz]) (plain3_wz _) (Tryz.call50 _) fun w => by
    have := mul_x (decide (a < 0)) (decide (b < 0)) a.natAbs b.natAbs ha hb (by rwa [← Int.natAbs_mul]) w
    rw [cNegBool, ← Int.natAbs_mul] at this
    exact this
theorem cOfz (n : Int) (h : List (Option Chunk)) (h0 : -9223372036854775808 ≤ n) (h1 : n < 9223372036854775808) : CallOK Tryz.prog 34 [.int .i64 n] h (wz n) [] [] := cOf n h h0 h1

theorem has_lim {h : List (Option Chunk)} {i v : Nat} {o : Bool} (hi : h[i]? = some (some ⟨o, 16, [(0, 16, .agg ⟨limL 16 (dg v)⟩)]⟩)) : Has h i 0 v :=
  ⟨_, hi, Nat.le_refl _, fun j hj => by
    show cellOf _ _ = _
    rw [cellOf_cons, if_pos (by omega)]
    simp only [cellIn]
    rw [show 0 + j - 0 = j from by omega]
    exact limL_get hj⟩
theorem lim_one1 : limL 16 (dg 1) = [.int .u64 1, .int .u64 0, .int .u64 0, .int .u64 0, .int .u64 0, .int .u64 0, .int .u64 0, .int .u64 0, .int .u64 0, .int .u64 0, .int .u64 0, .int .u64 0, .int .u64 0, .int .u64 0, .int .u64 0, .int .u64 0] := by
  rw [limL_same (g := fun j => if j = 0 then 1 else 0) (fun j _ => dg_small 1 (by decide) j)]; rfl
theorem has_one {h : List (Option Chunk)} {i : Nat} {o : Bool} (hi : h[i]? = some (some ⟨o, 16, [(0, 16, .agg ⟨[.int .u64 1, .int .u64 0, .int .u64 0, .int .u64 0, .int .u64 0, .int .u64 0, .int .u64 0, .int .u64 0, .int .u64 0, .int .u64 0, .int .u64 0, .int .u64 0, .int .u64 0, .int .u64 0, .int .u64 0, .int .u64 0]⟩)]⟩)) : Has h i 0 1 := by
  rw [← lim_one1] at hi; exact has_lim hi
theorem cAdd (i f v j g u : Nat) (h : List (Option Chunk)) (h1 : Has h i f v) (h2 : Has h j g u) : CallOK Tryz.prog 72 [.pointer (some ⟨i, f, some 0⟩), .pointer (some ⟨j, g, some 0⟩)] h (.tuple #[.agg ⟨limL 16 (dg (v + u))⟩, .int .u64 (cry v u 16)]) [] [i, j] :=
  call_heap [i, j] (by simp [plain3, plain_lim]; rfl) (Tryz.call72) fun ρ w hc => add_any (ρ i).1 ((ρ i).2 + f) v (ρ j).1 ((ρ j).2 + g) u w (h1.digs (by simp) hc) (h2.digs (by simp) hc)
theorem cBits (i f v : Nat) (h : List (Option Chunk)) (h1 : Has h i f v) : CallOK Tryz.prog 96 [.pointer (some ⟨i, f, some 0⟩)] h (.int .i64 (bl v)) [] [i] :=
  call_heap [i] rfl (Tryz.call96) fun ρ w hc => (bits_any (ρ i).1 ((ρ i).2 + f) v w (h1.digs (by simp) hc)).mono (by rintro e w' ⟨he, rfl⟩; exact ⟨he, Below.refl _ _⟩)
theorem guard_size : Tryz.prog.eqGuardType Tryz.prog.depth 61 = false := by kernel_rfl
theorem eq_size0 (op : BinOp) (x y : Operand) (u : Nat) (hu : u < Bs ^ 16) (neg : Bool) (hop : op = if neg then .neq else .eql) : BinIs Tryz.prog op 61 x y (.agg ⟨limL 16 (dg u)⟩) (.agg #[.int .u64 0, .int .u64 0, .int .u64 0, .int .u64 0, .int .u64 0, .int .u64 0, .int .u64 0, .int .u64 0, .int .u64 0, .int .u64 0, .int .u64 0, .int .u64 0, .int .u64 0, .int .u64 0, .int .u64 0, .int .u64 0]) (.bool (if neg then !decide (u = 0) else decide (u = 0))) := by
  have he := equal_zero u hu
  refine ⟨plain_lim _ _, rfl, by cases neg <;> rfl, fun w => ?_⟩
  have hg : ∀ op, (eqGuard op 61 x y (.agg ⟨limL 16 (dg u)⟩) (.agg #[.int .u64 0, .int .u64 0, .int .u64 0, .int .u64 0, .int .u64 0, .int .u64 0, .int .u64 0, .int .u64 0, .int .u64 0, .int .u64 0, .int .u64 0, .int .u64 0, .int .u64 0, .int .u64 0, .int .u64 0, .int .u64 0])).run Tryz.prog w = .ok () w := fun op => by
    cases op <;> simp [eqGuard, Sem.run_bind, run_program, guard_size]
  subst hop
  cases neg
  · simp only [Sem.run_bind, hg, Result.andThen_ok, if_false, Bool.false_eq_true]
    show (do pure (.bool (← Op.equal 61 (.agg ⟨limL 16 (dg u)⟩) (.agg #[.int .u64 0, .int .u64 0, .int .u64 0, .int .u64 0, .int .u64 0, .int .u64 0, .int .u64 0, .int .u64 0, .int .u64 0, .int .u64 0, .int .u64 0, .int .u64 0, .int .u64 0, .int .u64 0, .int .u64 0, .int .u64 0]))) : Sem Value).run Tryz.prog w = _
    simp only [Sem.run_bind]
    rw [show (Op.equal 61 (.agg ⟨limL 16 (dg u)⟩) (.agg #[.int .u64 0, .int .u64 0, .int .u64 0, .int .u64 0, .int .u64 0, .int .u64 0, .int .u64 0, .int .u64 0, .int .u64 0, .int .u64 0, .int .u64 0, .int .u64 0, .int .u64 0, .int .u64 0, .int .u64 0, .int .u64 0])).run Tryz.prog w = .ok (decide (u = 0)) w from he w]
    rfl
  · simp only [Sem.run_bind, hg, Result.andThen_ok, if_true]
    show (do pure (.bool (!(← Op.equal 61 (.agg ⟨limL 16 (dg u)⟩) (.agg #[.int .u64 0, .int .u64 0, .int .u64 0, .int .u64 0, .int .u64 0, .int .u64 0, .int .u64 0, .int .u64 0, .int .u64 0, .int .u64 0, .int .u64 0, .int .u64 0, .int .u64 0, .int .u64 0, .int .u64 0, .int .u64 0])))) : Sem Value).run Tryz.prog w = _
    simp only [Sem.run_bind]
    rw [show (Op.equal 61 (.agg ⟨limL 16 (dg u)⟩) (.agg #[.int .u64 0, .int .u64 0, .int .u64 0, .int .u64 0, .int .u64 0, .int .u64 0, .int .u64 0, .int .u64 0, .int .u64 0, .int .u64 0, .int .u64 0, .int .u64 0, .int .u64 0, .int .u64 0, .int .u64 0, .int .u64 0])).run Tryz.prog w = .ok (decide (u = 0)) w from he w]
    rfl
end Go.Proofs.YtdnkeeedcnjofaaGreatDoor


/-
  The walks of wide.Div by one digit, of Neg, Int64, narrow, above, MulDiv, MulDivUp (second part).
-/
set_option linter.unusedVariables false
set_option linter.unusedSimpArgs false
namespace Go.Proofs.YtdnkeeedcnjofaaGreatDoor
open Go Go.RowKit Sx

theorem bs16 {n : Nat} (h : n < 18446744073709551616) : n < Bs ^ 16 := Nat.lt_of_lt_of_le h (Nat.le_self_pow (by decide) Bs)
set_option maxRecDepth 100000 in
theorem neg_x (z : Int) (hz : z.natAbs < Top) (w : World) : Calls Tryz.prog 49 #[wz z] w fun e w' => e = .returned (wz (-z)) ∧ Below w.heap.size w w' := by
  refine calls_pure (G := tys) w tysOK mixed Tryz.func49 (by rfl) (by first | rfl | (simp only [List.all_cons, List.all_nil, plain_wz, plain_lim, plain_wi]; rfl)) (by first | exact plain3_wz _ | exact plain3_wi _ _ _ | rfl | (simp only [plain3, List.all_cons, List.all_nil, plain_wz, plain_lim, plain_wi]; rfl)) ?_
  repeat' (refine N.go ?_; first | with_reducible refine N.obl (flat_wi _ _ _) ?_ | with_reducible refine N.obl (flat_lim _ _) ?_ | with_reducible refine N.eq ?_ | with_reducible refine N.obl rfl ?_ | with_reducible refine N.obl ⟨by kernel_rfl, by kernel_rfl⟩ ?_ | with_reducible refine N.alt ?_ | with_reducible refine N.forkT ?_ | with_reducible refine N.forkF ?_ | with_reducible refine N.call (cMade _ _ _ hz) ?_)
  all_goals
    simp only [wz, Value.agg.injEq, Array.mk.injEq, Int.natAbs_neg]
    congr 1
    by_cases h : z < 0
    · rw [decide_eq_true h, decide_eq_false (by omega : ¬ -z < 0)]; rfl
    · by_cases h0 : z = 0
      · subst h0; rfl
      · rw [decide_eq_false h, decide_eq_true (by omega : -z < 0), decide_eq_true (by omega : z.natAbs ≠ 0)]; rfl
theorem cNeg (z : Int) (h : List (Option Chunk)) (hz : z.natAbs < Top) : CallOK Tryz.prog 49 [wz z] h (wz (-z)) [] [] :=
  call_pure (by simp [plain_wz]) (plain3_wz _) (Tryz.call49 _) (neg_x z hz)

end Go.Proofs.YtdnkeeedcnjofaaGreatDoor


/-
  The walks of wide's sub, cmp, Add, Sub, Sign, Cmp.
-/
set_option linter.unusedVariables false
set_option linter.unusedSimpArgs false
namespace Go.Proofs.YtdnkeeedcnjofaaGreatDoor
open Go Go.RowKit Sx

theorem limL16_len (f : Nat → Nat) : (limL 16 f).length = 16 := limL_len 16 f
theorem wiL_len (n o : Bool) (v : Nat) : (wiL n o v).length = 18 := by simp [wiL, limL_len]
theorem wi_re {ix : List (Nat × Nat)} {w : Bool} {m : Nat} (n o : Bool) (v : Nat) : ((⟨false, 18, [(0, 18, .agg ⟨wiL n o v⟩)]⟩ : Chunk).own = true → (⟨w, 18, [(0, 18, .agg ⟨wiL n o v⟩)]⟩ : Chunk).own = true ∧ m ≤ (⟨w, 18, [(0, 18, .agg ⟨wiL n o v⟩)]⟩ : Chunk).n) ∧ (⟨false, 18, [(0, 18, .agg ⟨wiL n o v⟩)]⟩ : Chunk).n ≤ (⟨w, 18, [(0, 18, .agg ⟨wiL n o v⟩)]⟩ : Chunk).n ∧ ChunkRe ix ⟨w, 18, [(0, 18, .agg ⟨wiL n o v⟩)]⟩ ⟨false, 18, [(0, 18, .agg ⟨wiL n o v⟩)]⟩ :=
  reSame (agg_plain (wiL_len _ _ _) (plain_wi _ _ _))
theorem lim_re {ix : List (Nat × Nat)} {w : Bool} {m : Nat} (f : Nat → Nat) : ((⟨false, 16, [(0, 16, .agg ⟨limL 16 f⟩)]⟩ : Chunk).own = true → (⟨w, 16, [(0, 16, .agg ⟨limL 16 f⟩)]⟩ : Chunk).own = true ∧ m ≤ (⟨w, 16, [(0, 16, .agg ⟨limL 16 f⟩)]⟩ : Chunk).n) ∧ (⟨false, 16, [(0, 16, .agg ⟨limL 16 f⟩)]⟩ : Chunk).n ≤ (⟨w, 16, [(0, 16, .agg ⟨limL 16 f⟩)]⟩ : Chunk).n ∧ ChunkRe ix ⟨w, 16, [(0, 16, .agg ⟨limL 16 f⟩)]⟩ ⟨false, 16, [(0, 16, .agg ⟨limL 16 f⟩)]⟩ :=
  reSame (agg_plain (limL_len _ _) (plain_lim _ _))
theorem sub64 (x y b : Nat) (hb : b ≤ 1) (w : World) : (callFunc 97 #[.int .u64 x, .int .u64 y, .int .u64 b]).run Tryz.prog w =
    .ok (.value (.tuple #[.int .u64 (((x + 18446744073709551616 - y - b) % 18446744073709551616 : Nat) : Int), .int .u64 ((if x < y + b then 1 else 0 : Nat) : Int)])) w := by
  rw [run_callFunc_extern Tryz.func97 (by kernel_rfl) (by kernel_rfl) (by kernel_rfl) (e := Proofs.sub64Entry) (by kernel_rfl), Proofs.run_sub64 x y b hb]
  rfl
theorem cSub64 (x y b p q : Nat) (h : List (Option Chunk)) (hb : b ≤ 1) (hp : (x + 18446744073709551616 - y - b) % 18446744073709551616 = p) (hq : (if x < y + b then 1 else 0) = q) : CallOK Tryz.prog 97 [.int .u64 x, .int .u64 y, .int .u64 b] h (.tuple #[.int .u64 p, .int .u64 q]) [] [] := by
  subst hp; subst hq
  exact call_ext rfl rfl fun w => sub64 x y b hb w
/-- The digits of a difference, as far as they are reckoned. -/
def subTo (d i : Nat) : Nat → Nat := fun j => if j < i then dg d j else 0
theorem subTo_zero (d : Nat) : limL 16 (subTo d 0) = limL 16 (fun _ => 0) := limL_same fun j _ => by simp [subTo]
theorem subTo_end (d : Nat) : limL 16 (subTo d 16) = limL 16 (dg d) := limL_same fun j hj => by unfold subTo; rw [if_pos hj]
set_option maxRecDepth 100000 in
set_option maxHeartbeats 1000000 in
theorem cSubS (i j v u : Nat) (n1 o1 n2 o2 w1 w2 : Bool) (h : List (Option Chunk)) (hi : h[i]? = some (some ⟨w1, 18, [(0, 18, .agg ⟨wiL n1 o1 v⟩)]⟩)) (hj : h[j]? = some (some ⟨w2, 18, [(0, 18, .agg ⟨wiL n2 o2 u⟩)]⟩)) (huv : u ≤ v) :
    CallOK Tryz.prog 75 [.pointer (some ⟨i, 2, some 0⟩), .pointer (some ⟨j, 2, some 0⟩)] h (.agg ⟨limL 16 (dg (v - u))⟩) [] [i, j] := by
  obtain ⟨d, rfl⟩ : ∃ d, v = u + d := ⟨v - u, by omega⟩
  rw [Nat.add_sub_cancel_left]
  refine call_sub (G := tys) [⟨i, _, ⟨false, 18, [(0, 18, .agg ⟨wiL n1 o1 (u + d)⟩)]⟩, ⟨false, 0, []⟩⟩, ⟨j, _, ⟨false, 18, [(0, 18, .agg ⟨wiL n2 o2 u⟩)]⟩, ⟨false, 0, []⟩⟩] [] [.pointer (some ⟨0, 2, some 0⟩), .pointer (some ⟨1, 2, some 0⟩)] tysOK mixed Tryz.func75 (by rfl) (Tryz.call75) ⟨hi, hj, trivial⟩ ⟨wi_re _ _ _, wi_re _ _ _, trivial⟩ (by simp [Apart]) trivial ⟨.ptr rfl, .ptr rfl, trivial⟩ ?_
  repeat' (refine N.go ?_; first | with_reducible refine N.obl (by decide) ?_ | with_reducible refine N.obl (flat_wi _ _ _) ?_ | with_reducible refine N.obl (flat_lim _ _) ?_ | with_reducible refine N.eq ?_ | with_reducible refine N.obl rfl ?_ | with_reducible refine N.obl ⟨by kernel_rfl, by kernel_rfl⟩ ?_ | with_reducible refine N.alt ?_ | with_reducible refine N.forkT ?_ | with_reducible refine N.forkF ?_)
  refine N.go ?_
  refine N.loop (α := Nat) (fun i => i ≤ 16) (fun i => 16 - i) (fun i => [(8, .int .i64 (i : Int)), (6, .int .u64 ((cry u d i : Nat) : Int))]) (fun i => [(3, ⟨true, 16, [(0, 16, .agg ⟨limL 16 (subTo d i)⟩)]⟩)]) 0 (Nat.zero_le _) ?_ ?_
  · repeat (refine N.go ?_; first | exact N.true | with_reducible refine N.obl rfl ?_ | with_reducible refine N.obl (ChunkLe.refl _) ?_ | refine N.obl (ChunkLe.of (by rw [subTo_zero]; rfl)) ?_ | refine N.obl (by rw [cry_zero]; rfl) ?_)
  · intro i hi
    by_cases hlt : i < 16
    · have c1 : dg u i + dg d i + cry u d i = dg (u + d) i + 18446744073709551616 * cry u d (i + 1) := cry_step u d i
      have c2 := cry_le u d i
      have c3 := cry_le u d (i + 1)
      have c4 := dg_lt u i
      have c5 := dg_lt d i
      have c6 := dg_lt (u + d) i
      have hp : (dg (u + d) i + 18446744073709551616 - dg u i - cry u d i) % 18446744073709551616 = dg d i := by omega
      have hq : (if dg (u + d) i < dg u i + cry u d i then 1 else 0) = cry u d (i + 1) := by split <;> omega
      repeat' (refine N.go ?_; first | with_reducible refine N.obl (by decide) ?_ | with_reducible refine N.obl (flat_wi _ _ _) ?_ | with_reducible refine N.obl (flat_lim _ _) ?_ | with_reducible refine N.eq ?_ | with_reducible refine N.obl rfl ?_ | with_reducible refine N.obl ⟨by kernel_rfl, by kernel_rfl⟩ ?_ | with_reducible refine N.alt ?_ | with_reducible refine N.forkT ?_ | with_reducible refine N.forkF ?_ | refine N.forkYes (by rw [decide_eq_true_eq]; omega) ?_ | refine N.idx i 1 rfl hlt ?_ | refine N.load _ (reads_wi (p := i) hlt rfl) ?_ | refine N.call (cSub64 _ _ _ _ _ _ c2 hp hq) ?_ | refine N.store ⟨true, 16, [(0, 16, .agg ⟨limL 16 (subTo d (i + 1))⟩)]⟩ (writes_lim (p := i) hlt (by first | rfl | omega) (by unfold subTo; rw [if_pos (by omega)]) (fun k _ hk => by unfold subTo; by_cases h : k < i <;> simp [h] <;> omega)) ?_)
      refine N.go ?_
      refine N.next (i + 1) ⟨by omega, by omega⟩ ?_
      repeat (refine N.go ?_; first | exact N.true | with_reducible refine N.obl rfl ?_ | with_reducible refine N.obl (ChunkLe.refl _) ?_ | refine N.obl (int_i64 (by rw [IntWalk.i64_in _ (by omega)]; rfl)) ?_)
    · obtain rfl : i = 16 := by omega
      refine N.go ?_
      refine N.forkNo (by decide) ?_
      rw [subTo_end]
      repeat' (refine N.go ?_; first | with_reducible refine N.obl (by decide) ?_ | with_reducible refine N.obl (flat_wi _ _ _) ?_ | with_reducible refine N.obl (flat_lim _ _) ?_ | with_reducible refine N.eq ?_ | with_reducible refine N.obl rfl ?_ | with_reducible refine N.obl ⟨by kernel_rfl, by kernel_rfl⟩ ?_ | with_reducible refine N.alt ?_ | with_reducible refine N.forkT ?_ | with_reducible refine N.forkF ?_ | exact N.true | refine N.obl trivial ?_ | refine N.obl (.plain (plain_lim _ _)) ?_)
theorem cCmpS (i f v j g u : Nat) (h : List (Option Chunk)) (h1 : Has h i f v) (h2 : Has h j g u) (hv : v < Bs ^ 16) (hu : u < Bs ^ 16) : CallOK Tryz.prog 74 [.pointer (some ⟨i, f, some 0⟩), .pointer (some ⟨j, g, some 0⟩)] h (.int .i64 (cm v u)) [] [i, j] :=
  call_heap [i, j] rfl (Tryz.call74) fun ρ w hc => (cmp_any (ρ i).1 ((ρ i).2 + f) v (ρ j).1 ((ρ j).2 + g) u w (h1.digs (by simp) hc) (h2.digs (by simp) hc) hv hu).mono (by rintro e w' ⟨he, hb, _⟩; exact ⟨he, hb⟩)
theorem cry_top (v u : Nat) (h : v + u < Bs ^ 16) : cry v u 16 = 0 := by
  unfold cry
  have h1 : v % Bs ^ 16 ≤ v := Nat.mod_le _ _
  have h2 : u % Bs ^ 16 ≤ u := Nat.mod_le _ _
  exact Nat.div_eq_of_lt (by omega)
set_option maxRecDepth 100000 in
theorem add_false_same_x (v u : Nat) (hv : v < Top) (hu : u < Top) (hs : v + u < Top) (w : World) : Calls Tryz.prog 48 #[.agg ⟨wiL false false v⟩, .agg ⟨wiL false false u⟩] w fun e w' => e = .returned (.agg ⟨wiL (false && decide (v + u ≠ 0)) false (v + u)⟩) ∧ Below w.heap.size w w' := by
  have hv16 := Nat.lt_trans hv top_lt
  have hu16 := Nat.lt_trans hu top_lt
  refine calls_pure (G := tys) w tysOK mixed Tryz.func48 (by rfl) (by first | rfl | (simp only [List.all_cons, List.all_nil, plain_wz, plain_lim, plain_wi]; rfl)) (by first | exact plain3_wz _ | exact plain3_wi _ _ _ | rfl | (simp only [plain3, List.all_cons, List.all_nil, plain_wz, plain_lim, plain_wi]; rfl)) ?_
  repeat' (refine N.go ?_; first | with_reducible refine N.obl (by decide) ?_ | with_reducible refine N.obl (flat_wi _ _ _) ?_ | with_reducible refine N.obl (flat_lim _ _) ?_ | with_reducible refine N.eq ?_ | with_reducible refine N.obl rfl ?_ | with_reducible refine N.obl ⟨by kernel_rfl, by kernel_rfl⟩ ?_ | with_reducible refine N.alt ?_ | with_reducible refine N.forkT ?_ | with_reducible refine N.forkF ?_ | refine N.call (cAdd _ _ _ _ _ _ _ (has_wi (by rfl)) (has_wi (by rfl))) ?_ | refine N.forkNo (by rw [cry_top _ _ (Nat.lt_trans hs top_lt)]; decide) ?_ | with_reducible refine N.call (cMade _ _ _ hs) ?_ | refine N.forkNo (by decide) ?_ | refine N.forkYes (by decide) ?_)
  all_goals rfl
set_option maxRecDepth 100000 in
theorem add_false_ge_x (v u : Nat) (hv : v < Top) (hu : u < Top) (hs : u ≤ v) (w : World) : Calls Tryz.prog 48 #[.agg ⟨wiL false false v⟩, .agg ⟨wiL true false u⟩] w fun e w' => e = .returned (.agg ⟨wiL (false && decide (v - u ≠ 0)) false (v - u)⟩) ∧ Below w.heap.size w w' := by
  have hv16 := Nat.lt_trans hv top_lt
  have hu16 := Nat.lt_trans hu top_lt
  refine calls_pure (G := tys) w tysOK mixed Tryz.func48 (by rfl) (by first | rfl | (simp only [List.all_cons, List.all_nil, plain_wz, plain_lim, plain_wi]; rfl)) (by first | exact plain3_wz _ | exact plain3_wi _ _ _ | rfl | (simp only [plain3, List.all_cons, List.all_nil, plain_wz, plain_lim, plain_wi]; rfl)) ?_
  repeat' (refine N.go ?_; first | with_reducible refine N.obl (by decide) ?_ | with_reducible refine N.obl (flat_wi _ _ _) ?_ | with_reducible refine N.obl (flat_lim _ _) ?_ | with_reducible refine N.eq ?_ | with_reducible refine N.obl rfl ?_ | with_reducible refine N.obl ⟨by kernel_rfl, by kernel_rfl⟩ ?_ | with_reducible refine N.alt ?_ | with_reducible refine N.forkT ?_ | with_reducible refine N.forkF ?_ | refine N.call (cCmpS _ _ _ _ _ _ _ (has_wi (by rfl)) (has_wi (by rfl)) hv16 hu16) ?_ | refine N.call (cSubS _ _ _ _ _ _ _ _ _ _ _ (by rfl) (by rfl) (by omega)) ?_ | refine N.forkYes (by rw [decide_eq_true_eq]; unfold cm; split <;> (try split) <;> omega) ?_ | with_reducible refine N.call (cMade _ _ _ (Nat.lt_of_le_of_lt (Nat.sub_le _ _) hv)) ?_ | refine N.forkNo (by decide) ?_ | refine N.forkYes (by decide) ?_)
  all_goals rfl
set_option maxRecDepth 100000 in
theorem add_false_lt_x (v u : Nat) (hv : v < Top) (hu : u < Top) (hs : v < u) (w : World) : Calls Tryz.prog 48 #[.agg ⟨wiL false false v⟩, .agg ⟨wiL true false u⟩] w fun e w' => e = .returned (.agg ⟨wiL (true && decide (u - v ≠ 0)) false (u - v)⟩) ∧ Below w.heap.size w w' := by
  have hv16 := Nat.lt_trans hv top_lt
  have hu16 := Nat.lt_trans hu top_lt
  refine calls_pure (G := tys) w tysOK mixed Tryz.func48 (by rfl) (by first | rfl | (simp only [List.all_cons, List.all_nil, plain_wz, plain_lim, plain_wi]; rfl)) (by first | exact plain3_wz _ | exact plain3_wi _ _ _ | rfl | (simp only [plain3, List.all_cons, List.all_nil, plain_wz, plain_lim, plain_wi]; rfl)) ?_
  repeat' (refine N.go ?_; first | with_reducible refine N.obl (by decide) ?_ | with_reducible refine N.obl (flat_wi _ _ _) ?_ | with_reducible refine N.obl (flat_lim _ _) ?_ | with_reducible refine N.eq ?_ | with_reducible refine N.obl rfl ?_ | with_reducible refine N.obl ⟨by kernel_rfl, by kernel_rfl⟩ ?_ | with_reducible refine N.alt ?_ | with_reducible refine N.forkT ?_ | with_reducible refine N.forkF ?_ | refine N.call (cCmpS _ _ _ _ _ _ _ (has_wi (by rfl)) (has_wi (by rfl)) hv16 hu16) ?_ | refine N.call (cSubS _ _ _ _ _ _ _ _ _ _ _ (by rfl) (by rfl) (by omega)) ?_ | refine N.forkNo (by rw [decide_eq_false_iff_not]; unfold cm; split <;> (try split) <;> omega) ?_ | with_reducible refine N.call (cMade _ _ _ (Nat.lt_of_le_of_lt (Nat.sub_le _ _) hu)) ?_ | refine N.forkNo (by decide) ?_ | refine N.forkYes (by decide) ?_)
  all_goals rfl
set_option maxRecDepth 100000 in
theorem add_true_same_x (v u : Nat) (hv : v < Top) (hu : u < Top) (hs : v + u < Top) (w : World) : Calls Tryz.prog 48 #[.agg ⟨wiL true false v⟩, .agg ⟨wiL true false u⟩] w fun e w' => e = .returned (.agg ⟨wiL (true && decide (v + u ≠ 0)) false (v + u)⟩) ∧ Below w.heap.size w w' := by
  have hv16 := Nat.lt_trans hv top_lt
  have hu16 := Nat.lt_trans hu top_lt
  refine calls_pure (G := tys) w tysOK mixed Tryz.func48 (by rfl) (by first | rfl | (simp only [List.all_cons, List.all_nil, plain_wz, plain_lim, plain_wi]; rfl)) (by first | exact plain3_wz _ | exact plain3_wi _ _ _ | rfl | (simp only [plain3, List.all_cons, List.all_nil, plain_wz, plain_lim, plain_wi]; rfl)) ?_
  repeat' (refine N.go ?_; first | with_reducible refine N.obl (by decide) ?_ | with_reducible refine N.obl (flat_wi _ _ _) ?_ | with_reducible refine N.obl (flat_lim _ _) ?_ | with_reducible refine N.eq ?_ | with_reducible refine N.obl rfl ?_ | with_reducible refine N.obl ⟨by kernel_rfl, by kernel_rfl⟩ ?_ | with_reducible refine N.alt ?_ | with_reducible refine N.forkT ?_ | with_reducible refine N.forkF ?_ | refine N.call (cAdd _ _ _ _ _ _ _ (has_wi (by rfl)) (has_wi (by rfl))) ?_ | refine N.forkNo (by rw [cry_top _ _ (Nat.lt_trans hs top_lt)]; decide) ?_ | with_reducible refine N.call (cMade _ _ _ hs) ?_ | refine N.forkNo (by decide) ?_ | refine N.forkYes (by decide) ?_)
  all_goals rfl
set_option maxRecDepth 100000 in
theorem add_true_ge_x (v u : Nat) (hv : v < Top) (hu : u < Top) (hs : u ≤ v) (w : World) : Calls Tryz.prog 48 #[.agg ⟨wiL true false v⟩, .agg ⟨wiL false false u⟩] w fun e w' => e = .returned (.agg ⟨wiL (true && decide (v - u ≠ 0)) false (v - u)⟩) ∧ Below w.heap.size w w' := by
  have hv16 := Nat.lt_trans hv top_lt
  have hu16 := Nat.lt_trans hu top_lt
  refine calls_pure (G := tys) w tysOK mixed Tryz.func48 (by rfl) (by first | rfl | (simp only [List.all_cons, List.all_nil, plain_wz, plain_lim, plain_wi]; rfl)) (by first | exact plain3_wz _ | exact plain3_wi _ _ _ | rfl | (simp only [plain3, List.all_cons, List.all_nil, plain_wz, plain_lim, plain_wi]; rfl)) ?_
  repeat' (refine N.go ?_; first | with_reducible refine N.obl (by decide) ?_ | with_reducible refine N.obl (flat_wi _ _ _) ?_ | with_reducible refine N.obl (flat_lim _ _) ?_ | with_reducible refine N.eq ?_ | with_reducible refine N.obl rfl ?_ | with_reducible refine N.obl ⟨by kernel_rfl, by kernel_rfl⟩ ?_ | with_reducible refine N.alt ?_ | with_reducible refine N.forkT ?_ | with_reducible refine N.forkF ?_ | refine N.call (cCmpS _ _ _ _ _ _ _ (has_wi (by rfl)) (has_wi (by rfl)) hv16 hu16) ?_ | refine N.call (cSubS _ _ _ _ _ _ _ _ _ _ _ (by rfl) (by rfl) (by omega)) ?_ | refine N.forkYes (by rw [decide_eq_true_eq]; unfold cm; split <;> (try split) <;> omega) ?_ | with_reducible refine N.call (cMade _ _ _ (Nat.lt_of_le_of_lt (Nat.sub_le _ _) hv)) ?_ | refine N.forkNo (by decide) ?_ | refine N.forkYes (by decide) ?_)
  all_goals rfl
set_option maxRecDepth 100000 in
theorem add_true_lt_x (v u : Nat) (hv : v < Top) (hu : u < Top) (hs : v < u) (w : World) : Calls Tryz.prog 48 #[.agg ⟨wiL true false v⟩, .agg ⟨wiL false false u⟩] w fun e w' => e = .returned (.agg ⟨wiL (false && decide (u - v ≠ 0)) false (u - v)⟩) ∧ Below w.heap.size w w' := by
  have hv16 := Nat.lt_trans hv top_lt
  have hu16 := Nat.lt_trans hu top_lt
  refine calls_pure (G := tys) w tysOK mixed Tryz.func48 (by rfl) (by first | rfl | (simp only [List.all_cons, List.all_nil, plain_wz, plain_lim, plain_wi]; rfl)) (by first | exact plain3_wz _ | exact plain3_wi _ _ _ | rfl | (simp only [plain3, List.all_cons, List.all_nil, plain_wz, plain_lim, plain_wi]; rfl)) ?_
  repeat' (refine N.go ?_; first | with_reducible refine N.obl (by decide) ?_ | with_reducible refine N.obl (flat_wi _ _ _) ?_ | with_reducible refine N.obl (flat_lim _ _) ?_ | with_reducible refine N.eq ?_ | with_reducible refine N.obl rfl ?_ | with_reducible refine N.obl ⟨by kernel_rfl, by kernel_rfl⟩ ?_ | with_reducible refine N.alt ?_ | with_reducible refine N.forkT ?_ | with_reducible refine N.forkF ?_ | refine N.call (cCmpS _ _ _ _ _ _ _ (has_wi (by rfl)) (has_wi (by rfl)) hv16 hu16) ?_ | refine N.call (cSubS _ _ _ _ _ _ _ _ _ _ _ (by rfl) (by rfl) (by omega)) ?_ | refine N.forkNo (by rw [decide_eq_false_iff_not]; unfold cm; split <;> (try split) <;> omega) ?_ | with_reducible refine N.call (cMade _ _ _ (Nat.lt_of_le_of_lt (Nat.sub_le _ _) hu)) ?_ | refine N.forkNo (by decide) ?_ | refine N.forkYes (by decide) ?_)
  all_goals rfl
theorem wz_neg {z : Int} (h : z < 0) : wz z = .agg ⟨wiL true false z.natAbs⟩ := by unfold wz; rw [decide_eq_true h]
theorem wz_pos {z : Int} (h : 0 ≤ z) : wz z = .agg ⟨wiL false false z.natAbs⟩ := by unfold wz; rw [decide_eq_false (by omega)]
theorem wi_wz {b : Bool} {n : Nat} {z : Int} (h1 : n = z.natAbs) (h2 : b = decide (z < 0)) : (Value.agg ⟨wiL b false n⟩) = wz z := by subst h1 h2; rfl
theorem add_z (a b : Int) (ha : a.natAbs < Top) (hb : b.natAbs < Top) (hab : (a + b).natAbs < Top) (w : World) : Calls Tryz.prog 48 #[wz a, wz b] w fun e w' => e = .returned (wz (a + b)) ∧ Below w.heap.size w w' := by
  by_cases h1 : a < 0 <;> by_cases h2 : b < 0
  · rw [wz_neg h1, wz_neg h2]
    have := add_true_same_x a.natAbs b.natAbs ha hb (by omega) w
    rwa [wi_wz (b := true && decide (a.natAbs + b.natAbs ≠ 0)) (n := a.natAbs + b.natAbs) (z := a + b) (by omega) (by rw [Bool.true_and]; exact decide_eq_decide.2 (by omega))] at this
  · rw [wz_neg h1, wz_pos (by omega : 0 ≤ b)]
    by_cases h3 : b.natAbs ≤ a.natAbs
    · have := add_true_ge_x a.natAbs b.natAbs ha hb h3 w
      rwa [wi_wz (b := true && decide (a.natAbs - b.natAbs ≠ 0)) (n := a.natAbs - b.natAbs) (z := a + b) (by omega) (by rw [Bool.true_and]; exact decide_eq_decide.2 (by omega))] at this
    · have := add_true_lt_x a.natAbs b.natAbs ha hb (by omega) w
      rwa [wi_wz (b := false && decide (b.natAbs - a.natAbs ≠ 0)) (n := b.natAbs - a.natAbs) (z := a + b) (by omega) (by rw [Bool.false_and, decide_eq_false (by omega)])] at this
  · rw [wz_pos (by omega : 0 ≤ a), wz_neg h2]
    by_cases h3 : b.natAbs ≤ a.natAbs
    · have := add_false_ge_x a.natAbs b.natAbs ha hb h3 w
      rwa [wi_wz (b := false && decide (a.natAbs - b.natAbs ≠ 0)) (n := a.natAbs - b.natAbs) (z := a + b) (by omega) (by rw [Bool.false_and, decide_eq_false (by omega)])] at this
    · have := add_false_lt_x a.natAbs b.natAbs ha hb (by omega) w
      rwa [wi_wz (b := true && decide (b.natAbs - a.natAbs ≠ 0)) (n := b.natAbs - a.natAbs) (z := a + b) (by omega) (by rw [Bool.true_and]; exact decide_eq_decide.2 (by omega))] at this
  · rw [wz_pos (by omega : 0 ≤ a), wz_pos (by omega : 0 ≤ b)]
    have := add_false_same_x a.natAbs b.natAbs ha hb (by omega) w
    rwa [wi_wz (b := false && decide (a.natAbs + b.natAbs ≠ 0)) (n := a.natAbs + b.natAbs) (z := a + b) (by omega) (by rw [Bool.false_and, decide_eq_false (by omega)])] at this
theorem cAddz (a b : Int) (h : List (Option Chunk)) (ha : a.natAbs < Top) (hb : b.natAbs < Top) (hab : (a + b).natAbs < Top) : CallOK Tryz.prog 48 [wz a, wz b] h (wz (a + b)) [] [] :=
  call_pure (by simp [plain_wz]) (plain3_wz _) (Tryz.call48 _) (add_z a b ha hb hab)
set_option maxRecDepth 100000 in
theorem sub_z_x (a b : Int) (ha : a.natAbs < Top) (hb : b.natAbs < Top) (hab : (a - b).natAbs < Top) (w : World) : Calls Tryz.prog 33 #[wz a, wz b] w fun e w' => e = .returned (wz (a - b)) ∧ Below w.heap.size w w' := by
  have hn : (-b).natAbs < Top := by rwa [Int.natAbs_neg]
  have hs : (a + -b).natAbs < Top := by rwa [← Int.sub_eq_add_neg]
  refine calls_pure (G := tys) w tysOK mixed Tryz.func33 (by rfl) (by first | rfl | (simp only [List.all_cons, List.all_nil, plain_wz, plain_lim, plain_wi]; rfl)) (by first | exact plain3_wz _ | exact plain3_wi _ _ _ | rfl | (simp only [plain3, List.all_cons, List.all_nil, plain_wz, plain_lim, plain_wi]; rfl)) ?_
  repeat' (refine N.go ?_; first | with_reducible refine N.obl (by decide) ?_ | with_reducible refine N.obl (flat_wi _ _ _) ?_ | with_reducible refine N.obl (flat_lim _ _) ?_ | with_reducible refine N.eq ?_ | with_reducible refine N.obl rfl ?_ | with_reducible refine N.obl ⟨by kernel_rfl, by kernel_rfl⟩ ?_ | with_reducible refine N.alt ?_ | with_reducible refine N.forkT ?_ | with_reducible refine N.forkF ?_ | with_reducible refine N.call (cNeg _ _ hb) ?_ | with_reducible refine N.call (cAddz _ _ _ ha hn hs) ?_)
  all_goals (rw [Int.sub_eq_add_neg])
theorem cSubz (a b : Int) (h : List (Option Chunk)) (ha : a.natAbs < Top) (hb : b.natAbs < Top) (hab : (a - b).natAbs < Top) : CallOK Tryz.prog 33 [wz a, wz b] h (wz (a - b)) [] [] :=
  call_pure (by simp [plain_wz]) (plain3_wz _) (Tryz.call33 _) (sub_z_x a b ha hb hab)
def sgn (z : Int) : Int := if z < 0 then -1 else if z = 0 then 0 else 1
theorem sgn_pos (z : Int) : sgn z > 0 ↔ z > 0 := by unfold sgn; split <;> (try split) <;> omega
theorem sgn_nonneg (z : Int) : sgn z ≥ 0 ↔ z ≥ 0 := by unfold sgn; split <;> (try split) <;> omega
set_option maxRecDepth 100000 in
theorem sign_z_x (z : Int) (hz : z.natAbs < Top) (w : World) : Calls Tryz.prog 25 #[wz z] w fun e w' => e = .returned (.int .i64 (sgn z)) ∧ Below w.heap.size w w' := by
  have hz16 := Nat.lt_trans hz top_lt
  refine calls_pure (G := tys) w tysOK mixed Tryz.func25 (by rfl) (by first | rfl | (simp only [List.all_cons, List.all_nil, plain_wz, plain_lim, plain_wi]; rfl)) (by first | exact plain3_wz _ | exact plain3_wi _ _ _ | rfl | (simp only [plain3, List.all_cons, List.all_nil, plain_wz, plain_lim, plain_wi]; rfl)) ?_
  repeat' (refine N.go ?_; first | with_reducible refine N.obl (by decide) ?_ | with_reducible refine N.obl (flat_wi _ _ _) ?_ | with_reducible refine N.obl (flat_lim _ _) ?_ | with_reducible refine N.eq ?_ | with_reducible refine N.obl rfl ?_ | with_reducible refine N.obl ⟨by kernel_rfl, by kernel_rfl⟩ ?_ | with_reducible refine N.alt ?_ | with_reducible refine N.forkT ?_ | with_reducible refine N.forkF ?_ | with_reducible refine N.bin _ (eq_size0 _ _ _ _ hz16 false rfl) ?_ | refine N.forkNo (by decide) ?_ | refine N.forkYes (by decide) ?_ | with_reducible refine N.fork (fun hb => ?_) (fun hb => ?_))
  all_goals
    simp only [decide_eq_true_eq, decide_eq_false_iff_not, Bool.false_eq_true, if_false] at *
    unfold sgn
    first
      | rw [if_neg (by omega), if_pos (by omega)]
      | rw [if_pos (by omega)]
      | rw [if_neg (by omega), if_neg (by omega)]
theorem cSign (z : Int) (h : List (Option Chunk)) (hz : z.natAbs < Top) : CallOK Tryz.prog 25 [wz z] h (.int .i64 (sgn z)) [] [] :=
  call_pure (by simp [plain_wz]) rfl (Tryz.call25 _) (sign_z_x z hz)
end Go.Proofs.YtdnkeeedcnjofaaGreatDoor


/-
  The walks of wide.Div by one digit, of Neg, Int64, narrow, above, MulDiv, MulDivUp (third part).
-/
set_option linter.unusedVariables false
set_option linter.unusedSimpArgs false
namespace Go.Proofs.YtdnkeeedcnjofaaGreatDoor
open Go Go.RowKit Sx

theorem dg_one (n : Nat) : dg n 0 = n % 18446744073709551616 := by
  show n / Bs ^ 0 % Bs = _
  rw [Nat.pow_zero, Nat.div_one]
def in64 (z : Int) : Bool := decide (-9223372036854775808 ≤ z ∧ z < 9223372036854775808)
def n64 (z : Int) : Int := if in64 z then z else 0
theorem tup2 {a b : Int} (h : a = b) : Value.tuple ⟨[Value.int IntKind.i64 a, Value.bool true]⟩ = Value.tuple #[Value.int IntKind.i64 b, Value.bool true] := by rw [h]
theorem n64_in {z : Int} (h : -9223372036854775808 ≤ z ∧ z < 9223372036854775808) : in64 z = true ∧ n64 z = z := by
  have : in64 z = true := decide_eq_true h
  exact ⟨this, by unfold n64; rw [this]; rfl⟩
theorem n64_out {z : Int} (h : ¬ (-9223372036854775808 ≤ z ∧ z < 9223372036854775808)) : in64 z = false ∧ n64 z = 0 := by
  have : in64 z = false := decide_eq_false h
  exact ⟨this, by unfold n64; rw [this]; rfl⟩
theorem bl_le (n : Nat) (hn : n < Bs ^ 16) : bl n ≤ 64 ↔ n < 18446744073709551616 :=
  ⟨fun h => Nat.lt_of_lt_of_le (bl_spec n hn).1 (Nat.pow_le_pow_right (by decide) h : 2 ^ bl n ≤ 2 ^ 64), fun h => bl_small n 64 hn h⟩
/-- The errno of a number that fits, or not. -/
def e64 (z : Int) : Int := if in64 z then 0 else 2
end Go.Proofs.YtdnkeeedcnjofaaGreatDoor


/-
  The root of a number, down; Newton's steps come to it from above.
-/
set_option linter.unusedVariables false
namespace Go.Proofs.YtdnkeeedcnjofaaGreatDoor

def isqTo (v : Nat) : Nat → Nat
  | 0 => 0
  | n + 1 => if (n + 1) * (n + 1) ≤ v then n + 1 else isqTo v n
/-- The root, down. -/
def isq (v : Nat) : Nat := isqTo v v
theorem isqTo_le (v : Nat) : ∀ n, isqTo v n * isqTo v n ≤ v
  | 0 => Nat.zero_le _
  | n + 1 => by
    rw [isqTo]; split
    · assumption
    · exact isqTo_le v n
theorem isqTo_lt (v : Nat) : ∀ n, v < (n + 1) * (n + 1) → v < (isqTo v n + 1) * (isqTo v n + 1)
  | 0, h => h
  | n + 1, h => by
    rw [isqTo]; split
    · exact h
    · rename_i hn; exact isqTo_lt v n (by omega)
theorem isq_le (v : Nat) : isq v * isq v ≤ v := isqTo_le v v
theorem isq_lt (v : Nat) : v < (isq v + 1) * (isq v + 1) := isqTo_lt v v (by
  have : v + 1 ≤ (v + 1) * (v + 1) := Nat.le_mul_of_pos_left _ (by omega)
  omega)
theorem sq_mono {a b : Nat} (h : a * a < b * b) : a < b := by
  rcases Nat.lt_or_ge a b with h1 | h1
  · exact h1
  · have := Nat.mul_le_mul h1 h1; omega
theorem isq_ge {v x : Nat} (h : x * x ≤ v) : x ≤ isq v := by
  have := isq_lt v
  have := sq_mono (Nat.lt_of_le_of_lt h this)
  omega
theorem isq_eq {v r : Nat} (h1 : r * r ≤ v) (h2 : v < (r + 1) * (r + 1)) : isq v = r := by
  have a := isq_ge h1
  have b := sq_mono (Nat.lt_of_le_of_lt (isq_le v) h2)
  omega
theorem isq_pos {v : Nat} (h : 0 < v) : 0 < isq v := isq_ge (x := 1) (by omega)
theorem isq_below {v n : Nat} (h : v < n * n) : isq v < n := sq_mono (Nat.lt_of_le_of_lt (isq_le v) h)

/-- A step of Newton's does not go below the root. -/
theorem newton_ge (v x : Nat) (hx : 0 < x) : isq v ≤ (x + v / x) / 2 := by
  have hr := isq_le v
  rcases Nat.lt_or_ge ((x + v / x) / 2) (isq v) with h | h
  · exfalso
    generalize isq v = r at *
    have hq := Nat.lt_div_mul_add (a := v) hx
    generalize hqq : v / x = q at *
    have h1 : x + q + 1 ≤ 2 * r := by omega
    obtain ⟨d, hd⟩ : ∃ d, q + 1 + x + d = 2 * r := ⟨2 * r - (x + q + 1), by omega⟩
    -- v < (q + 1) * x
    have h2 : v < (q + 1) * x := by rw [Nat.add_mul]; omega
    rcases Nat.le_total r x with hxr | hxr
    · obtain ⟨e, rfl⟩ : ∃ e, x = r + e := ⟨x - r, by omega⟩
      have h3 : q + 1 + e ≤ r := by omega
      have h4 : (q + 1) * (r + e) ≤ r * r := by
        obtain ⟨f, rfl⟩ : ∃ f, r = q + 1 + e + f := ⟨r - (q + 1 + e), by omega⟩
        simp only [Nat.add_mul, Nat.mul_add]
        have c1 : q * e = e * q := Nat.mul_comm _ _
        have c2 : q * f = f * q := Nat.mul_comm _ _
        have c3 : e * f = f * e := Nat.mul_comm _ _
        generalize q * q = t1 at *
        generalize e * q = t2 at *
        generalize f * q = t3 at *
        generalize e * e = t4 at *
        generalize f * e = t5 at *
        generalize f * f = t6 at *
        omega
      omega
    · obtain ⟨e, rfl⟩ : ∃ e, r = x + e := ⟨r - x, by omega⟩
      have h3 : q + 1 ≤ x + 2 * e := by omega
      have h4 : (q + 1) * x ≤ (x + 2 * e) * x := Nat.mul_le_mul_right _ h3
      have h5 : (x + 2 * e) * x ≤ (x + e) * (x + e) := by
        simp only [Nat.add_mul, Nat.mul_add, Nat.mul_assoc]
        have c1 : e * x = x * e := Nat.mul_comm _ _
        generalize x * x = t1 at *
        generalize x * e = t2 at *
        generalize e * e = t3 at *
        omega
      omega
  · exact h
theorem newton_end (v x : Nat) (hx : 0 < x) (h0 : isq v ≤ x) (h : x ≤ (x + v / x) / 2) : x = isq v := by
  have h1 : x ≤ v / x := by omega
  have h2 : x * x ≤ v := (Nat.le_div_iff_mul_le hx).1 h1
  have := isq_ge h2
  omega
theorem newton_start (v : Nat) (hv : v < Bs ^ 16) : isq v < 2 ^ ((bl v + 1) / 2) := by
  apply isq_below
  refine Nat.lt_of_lt_of_le (bl_spec v hv).1 ?_
  rw [← Nat.pow_add]
  exact Nat.pow_le_pow_right (by decide) (by omega)
end Go.Proofs.YtdnkeeedcnjofaaGreatDoor


/-
  The walks of wide's down by one, Sqrt, Cmp, and of root's WideUp, Up.
-/
set_option linter.unusedVariables false
set_option linter.unusedSimpArgs false
namespace Go.Proofs.YtdnkeeedcnjofaaGreatDoor
open Go Go.RowKit Sx

theorem fd2 (n : Nat) : ((n : Nat) : Int).fdiv (2 ^ sh (Int.tmod 1 64) IntKind.u64) = ((n / 2 : Nat) : Int) := by
  rw [show sh (Int.tmod 1 64) IntKind.u64 = 1 from by decide, Int.fdiv_eq_ediv_of_nonneg _ (by decide)]; omega
def dn1 (v : Nat) : Bool := IntKind.u64.wrap (((dg v 0 : Nat) : Int) * 2 ^ 63) != 0
theorem downTo_zero (v : Nat) : limL 16 (downTo v 1 0) = limL 16 (fun _ => 0) := limL_same fun j _ => by simp [downTo]
theorem downTo_end (v : Nat) : limL 16 (downTo v 1 16) = limL 16 (dg (v / 2)) := limL_same fun j hj => by unfold downTo; rw [if_pos hj]
/-- The digits while the i-th is half done. -/
def downM (v i : Nat) : Nat → Nat := fun j => if j = i then dg v i / 2 else downTo v 1 i j
end Go.Proofs.YtdnkeeedcnjofaaGreatDoor


/-
  Arguments that lie in memory: slices of cells that hold no addresses, aas the evaluator takes them.
-/
set_option linter.unusedVariables false
set_option linter.unusedSimpArgs false
namespace Go.Proofs.YtdnkeeedcnjofaaGreatDoor.Sx
open Go Go.RowKit

/-- A stretch that is only read. -/
abbrev segC (n : Nat) (f : Nat → Value) : Chunk := ⟨false, n, [(0, n, .agg ⟨segL n f⟩)]⟩
theorem seg_cell {o : Bool} {n : Nat} {f : Nat → Value} {j : Nat} (h : j < n) : (⟨o, n, [(0, n, .agg ⟨segL n f⟩)]⟩ : Chunk).f j = f j := by
  show cellOf _ _ = _
  rw [cellOf_cons, if_pos (by omega)]
  exact segL_get h
theorem reads_seg {o : Bool} {m p k : Nat} {f : Nat → Value} (vs : List Value) (hp : p + k ≤ m) (hl : vs.length = k) (hv : ∀ j, j < k → f (p + j) = vs.getD j undef) : Reads ⟨o, m, [(0, m, .agg ⟨segL m f⟩)]⟩ p true k (.agg ⟨vs⟩) :=
  ⟨hp, _, rfl, hl, fun j hj => by rw [seg_cell (by omega)]; exact hv j hj⟩
theorem reads_seg1 {o : Bool} {m p : Nat} {f : Nat → Value} {v : Value} (hp : p < m) (h1 : v.oneCell' = true) (hv : f p = v) : Reads ⟨o, m, [(0, m, .agg ⟨segL m f⟩)]⟩ p false 1 v :=
  ⟨hp, h1, by rw [seg_cell hp]; exact hv⟩

/-! ### Values without addresses: they stay what they are when a stretch is forgotten -/
def lit1 (v : Value) : Bool :=
  match v with
  | .int _ _ | .bool _ | .string _ | .float _ _ | .complex _ _ _ | .nilFunc | .nilIface => true
  | .pointer none | .slice none _ _ => true
  | _ => false
theorem lit1_plain {v : Value} (h : lit1 v = true) : plain1 v = true := by
  cases v with
  | pointer a => cases a <;> first | rfl | (simp [lit1] at h)
  | slice a l c => cases a <;> first | rfl | (simp [lit1] at h)
  | _ => first | rfl | (simp [lit1] at h)
theorem lit1_safe {h : List (Option Chunk)} {v : Value} (hv : lit1 v = true) : Safe1 h v := by
  cases v with
  | pointer a => cases a <;> first | trivial | (simp [lit1] at hv)
  | slice a l c => cases a <;> first | trivial | (simp [lit1] at hv)
  | _ => first | trivial | (simp [lit1] at hv)
theorem safe_agg {h : List (Option Chunk)} {l : List Value} (hl : l.all lit1 = true) : Safe h (.agg ⟨l⟩) := fun x hx => lit1_safe (List.all_eq_true.1 hl x hx)
theorem safe_seg {h : List (Option Chunk)} {o : Bool} {n : Nat} {f : Nat → Value} (hl : ∀ j, j < n → lit1 (f j) = true) : ∀ j, j < (⟨o, n, [(0, n, .agg ⟨segL n f⟩)]⟩ : Chunk).n → Safe1 h ((⟨o, n, [(0, n, .agg ⟨segL n f⟩)]⟩ : Chunk).f j) := fun j hj => by
  rw [seg_cell hj]; exact lit1_safe (hl j hj)
theorem safe_row {h : List (Option Chunk)} {o : Bool} {n : Nat} {l : List Value} (hn : l.length = n) (hl : l.all lit1 = true) : ∀ j, j < (⟨o, n, [(0, n, .agg ⟨l⟩)]⟩ : Chunk).n → Safe1 h ((⟨o, n, [(0, n, .agg ⟨l⟩)]⟩ : Chunk).f j) := fun j hj => by
  have hj : j < n := hj
  show Safe1 h (cellOf _ _)
  rw [cellOf_cons, if_pos (by omega)]
  simp only [cellIn, Nat.sub_zero, List.getD_eq_getElem?_getD]
  rw [List.getElem?_eq_getElem (by omega)]
  exact lit1_safe (List.all_eq_true.1 hl _ (List.getElem_mem _))
theorem rows_lit {n k : Nat} {f : Nat → Value} (hk : 0 < k) (h : ∀ i, i < n → ∀ j, j < k → lit1 (f (i * k + j)) = true) : ∀ j, j < n * k → lit1 (f j) = true := fun j hj => by
  have := h (j / k) ((Nat.div_lt_iff_lt_mul hk).2 hj) (j % k) (Nat.mod_lt _ hk)
  rwa [show j / k * k + j % k = j from by rw [Nat.mul_comm]; exact Nat.div_add_mod j k] at this

structure Seen where
  a : Addr
  n : Nat
  f : Nat → Value
def SeenIn (w : World) (s : Seen) : Prop := s.a.spot = none ∧ s.a.block < w.heap.size ∧ ∀ j, j < s.n → w.cell? (s.a.add j) = some (s.f j) ∧ plain1 (s.f j) = true
theorem SeenIn.of {w : World} {A : Option Addr} {m : Nat} {f : Nat → Value} (h : Seg w w.heap.size A m f) (hm : 0 < m) (hp : ∀ j, j < m → plain1 (f j) = true) : ∃ a, A = some a ∧ SeenIn w ⟨a, m, f⟩ := by
  obtain ⟨a, rfl, hb, hc⟩ := h hm
  refine ⟨a, rfl, ?_, hb, fun j hj => ⟨hc j hj, hp j hj⟩⟩
  have := hc 0 hm
  cases e : a.spot with
  | none => rfl
  | some s =>
    exfalso
    have e0 : a.add 0 = a := rfl
    rw [e0] at this
    unfold World.cell? at this
    rw [e] at this
    simp at this
    split at this <;> simp at this
theorem okWide_seen {P : Program} {W : World} {r : Reach} {base : Nat} {t e : TypeId} {a : Addr} {len cap : Nat} (ht : P.underlying t = some (.slice e)) (hv : Value.okWide P W r base t (.slice (some a) len cap)) : a.spot = none ∧ a.block < W.heap.size ∧ len ≤ cap := by
  simp only [Value.okWide, ht, Cell.okWide, Cell.ok, World.has] at hv
  obtain ⟨h1, h2, h3, h4, row, cells, h5, _⟩ := hv
  refine ⟨h4, ?_, h1⟩
  unfold World.shape? at h5
  cases e : W.heap[a.block]? with
  | none => rw [e] at h5; simp at h5
  | some o => exact (Array.getElem?_eq_some_iff.1 e).1
theorem okWide_nil {P : Program} {W : World} {r : Reach} {base : Nat} {t e : TypeId} {len cap : Nat} (ht : P.underlying t = some (.slice e)) (hv : Value.okWide P W r base t (.slice none len cap)) : len = 0 ∧ cap = 0 := by
  simp only [Value.okWide, ht, Cell.okWide, Cell.ok] at hv
  split at hv <;> simp_all
theorem SeenIn.some {P : Program} {w : World} {r : Reach} {base : Nat} {t e : TypeId} {a : Addr} {len cap m : Nat} {f : Nat → Value} (ht : P.underlying t = Option.some (.slice e)) (hv : Value.okWide P w r base t (.slice (Option.some a) len cap))
    (h : Seg w w.heap.size (Option.some a) m f) (hp : ∀ j, j < m → lit1 (f j) = true) : SeenIn w ⟨a, m, f⟩ := by
  obtain ⟨h1, h2, _⟩ := okWide_seen ht hv
  refine ⟨h1, h2, fun j hj => ⟨?_, lit1_plain (hp j hj)⟩⟩
  obtain ⟨x, hx, _, hc⟩ := h (Nat.lt_of_le_of_lt (Nat.zero_le _) hj)
  obtain rfl : a = x := by simpa using hx
  exact hc j hj
inductive ArgIs (sg : List Seen) : Value → Value → Prop
  | plain {v : Value} (h : plain2 v = true) : ArgIs sg v v
  | slice {k l c s0 n : Nat} {a : Addr} {f : Nat → Value} (h : sg[k]? = some ⟨a, n, f⟩) : ArgIs sg (.slice (some ⟨k, 0, some s0⟩) l c) (.slice (some a) l c)
def seenH (sg : List Seen) : List (Option Chunk) := sg.map fun s => some (segC s.n s.f)

section
variable {P : Program} {G : Tys}
theorem calls_args {f : FuncId} {fn : Func} {c : Code} {vs xs : List Value} {V : Value} (sg : List Seen) (w : World) (hG : TysOK P G) (hm : P.follows .mixedOrders = true) (hf : P.funcs[f]? = some fn) (hb : fn.body = some c)
    (hs : ∀ s ∈ sg, SeenIn w s) (hx : All2 (ArgIs sg) vs xs) (hV : plain3 V = true)
    (hwp : initK vs fn.ntmps fun t => wpC P G 0 c (bodyQ P G fn fun v _ => N (v = V)) ⟨t, seenH sg⟩) : Calls P f ⟨xs⟩ w fun e w' => e = .returned V ∧ Below w.heap.size w w' := by
  let ρ : Nat → Nat × Nat := fun k => match sg[k]? with
    | some s => (s.a.block, s.a.off)
    | none => (0, 0)
  have hρ : ∀ k s, sg[k]? = some s → ρ k = (s.a.block, s.a.off) := fun k s hk => by show (match sg[k]? with | some s => _ | none => _) = _; rw [hk]
  have getP : ∀ (k : Nat) (c : Chunk), (seenH sg)[k]? = some (some c) → ∃ s : Seen, sg[k]? = some s ∧ segC s.n s.f = c := fun k c hk => by
    simp only [seenH, List.getElem?_map] at hk
    cases e : sg[k]? with
    | none => rw [e] at hk; cases hk
    | some s => rw [e] at hk; exact ⟨s, rfl, by simpa using hk⟩
  have filH : ∀ (k : Nat) (s : Seen), sg[k]? = some s → Fil (seenH sg) k := fun k s hk => ⟨_, by simp only [seenH, List.getElem?_map, hk]; rfl⟩
  have addr : ∀ s ∈ sg, ∀ j, (⟨s.a.block, s.a.off + j, none⟩ : Addr) = s.a.add j := fun s hs' j => by
    obtain ⟨h1, _⟩ := hs s hs'
    obtain ⟨⟨b, o, sp⟩, n, f⟩ := s
    simp only at h1
    subst h1
    rw [add_at]
  have H : HOK ⟨w, fun _ => False, 0, ρ⟩ ρ (seenH sg) w := by
    refine ⟨Evo.refl _ _, fun i hi => absurd hi (by simp), fun k c hk => ?_, fun k c hk j hj => ?_, fun k c hk ho => ?_, fun k c l d hk ho => ?_, ExtOK.nil fun k c hk => ?_⟩
    · obtain ⟨s, hs', rfl⟩ := getP k c hk
      rw [hρ k s hs']; exact (hs s (List.mem_of_getElem? hs')).2.1
    · obtain ⟨s, hs', rfl⟩ := getP k c hk
      have hm' := List.mem_of_getElem? hs'
      have hj : j < s.n := hj
      obtain ⟨h1, h2⟩ := (hs s hm').2.2 j hj
      rw [hρ k s hs']
      refine ⟨s.f j, by rw [addr s hm']; exact h1, ?_⟩
      rw [seg_cell hj]
      exact Den1.plain h2
    · obtain ⟨s, hs', rfl⟩ := getP k c hk; cases ho
    · obtain ⟨s, hs', rfl⟩ := getP k c hk; cases ho
    · obtain ⟨s, hs', rfl⟩ := getP k c hk; rfl
  have hargs : ∀ (aas ys : List Value), All2 (ArgIs sg) aas ys → All2 (Den (Fil (seenH sg)) ρ) aas ys := by
    intro aas
    induction aas with
    | nil => intro ys h; cases ys with
      | nil => exact trivial
      | cons _ _ => exact h.elim
    | cons a aas ih => intro ys h; cases ys with
      | nil => exact h.elim
      | cons y ys =>
        refine ⟨?_, ih ys h.2⟩
        have h1 := h.1
        cases h1 with
        | plain hp => exact Den.plain hp
        | slice hk =>
          rename_i k l c s0 n a f
          intro r hr
          have e := hr k (filH k _ hk)
          rw [hρ k _ hk] at e
          simp only [den, den2, den1, den0, denA, e]
          rw [addr _ (List.mem_of_getElem? hk) 0]
          rfl
  refine (calls_sx (X := ⟨w, fun _ => False, 0, ρ⟩) (args := ⟨xs⟩) hG hm hf hb H (hargs _ _ hx) hwp).mono ?_
  rintro e w' ⟨ρ', v, st, x, rfl, H', hd, hv⟩
  have hv := hv.out
  subst hv
  refine ⟨?_, H'.evo.below⟩
  rw [← hd.self, den_plain3 hV]
end
end Go.Proofs.YtdnkeeedcnjofaaGreatDoor.Sx


/-
  The walks of wide's Sqrt, Cmp, and of root's WideUp, Up.
-/
set_option linter.unusedVariables false
set_option linter.unusedSimpArgs false
namespace Go.Proofs.YtdnkeeedcnjofaaGreatDoor
open Go Go.RowKit Sx

theorem limL_lit (n : Nat) (f : Nat → Nat) : (limL n f).all lit1 = true := by simp [limL, lit1]
theorem wiL_lit (n o : Bool) (v : Nat) : (wiL n o v).all lit1 = true := by simp [wiL, limL_lit, lit1]
theorem p125 : (2 : Nat) ^ 125 = 42535295865117307932921825928971026432 := by decide
theorem p126 : (2 : Nat) ^ 126 = 85070591730234615865843651857942052864 := by decide
theorem p127 : (2 : Nat) ^ 127 = 170141183460469231731687303715884105728 := by decide
theorem natTop7 {n : Nat} (h : n < 2 ^ 127) : n < Top := Nat.lt_trans h (Nat.pow_lt_pow_right (a := 2) (by decide) (by decide : 127 < TopBits))
theorem natTop {n : Nat} (h : n < 2 ^ 126) : n < Top := natTop7 (by have := p126; have := p127; omega)
theorem isq_small (v : Nat) (hv : v < 2 ^ 126) : isq v < 9223372036854775808 := isq_below (n := 9223372036854775808) (by have := p126; omega)
theorem wzn (n : Nat) : wz (n : Int) = .agg ⟨wiL false false n⟩ := by unfold wz; rw [decide_eq_false (by omega), Int.natAbs_natCast]
def cmz (a b : Int) : Int := if a < b then -1 else if b < a then 1 else 0
/-- The root, up. -/
def usq (n : Nat) : Nat := if isq n * isq n < n then isq n + 1 else isq n
theorem usq_ge (n : Nat) : n ≤ usq n * usq n := by
  unfold usq
  have := isq_lt n
  split <;> omega
theorem usq_le {n m : Nat} (h : n ≤ m * m) : usq n ≤ m := by
  unfold usq
  have h1 := isq_le n
  split
  · rename_i h2
    exact sq_mono (Nat.lt_of_lt_of_le h2 h)
  · have : isq n * isq n ≤ m * m := by omega
    rcases Nat.lt_or_ge m (isq n) with h3 | h3
    · have := Nat.mul_lt_mul'' h3 h3; omega
    · exact h3
end Go.Proofs.YtdnkeeedcnjofaaGreatDoor


/-
  The walks of mat and ellip.
-/
set_option linter.unusedVariables false
set_option linter.unusedSimpArgs false
namespace Go.Proofs.YtdnkeeedcnjofaaGreatDoor
open Go Go.RowKit Sx

/-- so great at most: 2^200 -/
theorem zt {z : Int} (h : z.natAbs ≤ 1606938044258990275541962092341162602522202993782792835301376) : z.natAbs < Top := by
  have : (2 : Nat) ^ 201 < Top := Nat.pow_lt_pow_right (a := 2) (by decide) (by decide : 201 < TopBits)
  have e : (2 : Nat) ^ 201 = 3213876088517980551083924184682325205044405987565585670602752 := by decide
  omega
theorem zb {z : Int} (h : z.natAbs ≤ 1606938044258990275541962092341162602522202993782792835301376) : z.natAbs < Bs ^ 16 := Nat.lt_trans (zt h) top_lt
theorem mulB {a b : Int} {m n : Nat} (ha : a.natAbs ≤ m) (hbb : b.natAbs ≤ n) : (a * b).natAbs ≤ m * n := by rw [Int.natAbs_mul]; exact Nat.mul_le_mul ha hbb
def withinP (m x y : Int) : Prop := (-m ≤ x ∧ x ≤ m) ∧ (-m ≤ y ∧ y ≤ m)
instance (m x y : Int) : Decidable (withinP m x y) := by unfold withinP; infer_instance
/-- 2^46 -/
def mayP (cx cy a b d : Int) : Prop := withinP 4194304 cx cy ∧ (1 ≤ a ∧ a ≤ 70368744177664) ∧ (1 ≤ d ∧ d ≤ 70368744177664) ∧ (-70368744177664 ≤ b ∧ b ≤ 70368744177664) ∧ 0 < a * d - b * b
instance (cx cy a b d : Int) : Decidable (mayP cx cy a b d) := by unfold mayP; infer_instance
def psdP (a b d : Int) : Prop := 0 ≤ a ∧ 0 ≤ d ∧ 0 ≤ a * d - b * b
instance (a b d : Int) : Decidable (psdP a b d) := by unfold psdP; infer_instance
def holdsP (a b d x y : Int) : Prop := psdP (a - x * x) (b - x * y) (d - y * y)
instance (a b d x y : Int) : Decidable (holdsP a b d x y) := by unfold holdsP; infer_instance
def inP (cx cy a b d x y : Int) : Prop := mayP cx cy a b d ∧ withinP 1073741824 x y ∧ holdsP a b d (x - cx) (y - cy)
instance (cx cy a b d x y : Int) : Decidable (inP cx cy a b d x y) := by unfold inP; infer_instance
set_option maxRecDepth 100000 in
theorem within_x (x y m : Int) (hm : 0 ≤ m ∧ m ≤ 1152921504606846976) (w : World) : Calls Tryz.prog 20 #[.agg #[.int .i64 x, .int .i64 y], .int .i64 m] w fun e w' => e = .returned (.bool (decide (withinP m x y))) ∧ Below w.heap.size w w' := by
  have hw := i64s (0 - m) (by omega) (by omega)
  refine calls_pure (G := tys) w tysOK mixed Tryz.func20 (by rfl) (by first | rfl | (simp only [List.all_cons, List.all_nil, plain_wz, plain_lim, plain_wi]; rfl)) (by first | exact plain3_wz _ | exact plain3_wi _ _ _ | rfl | (simp only [plain3, List.all_cons, List.all_nil, plain_wz, plain_lim, plain_wi]; rfl)) ?_
  repeat' (refine N.go ?_; first | with_reducible refine N.obl (by decide) ?_ | with_reducible refine N.obl (flat_wi _ _ _) ?_ | with_reducible refine N.obl (flat_lim _ _) ?_ | with_reducible refine N.eq ?_ | with_reducible refine N.obl rfl ?_ | with_reducible refine N.obl ⟨by kernel_rfl, by kernel_rfl⟩ ?_ | with_reducible refine N.alt ?_ | with_reducible refine N.forkT ?_ | with_reducible refine N.forkF ?_ | with_reducible refine N.fork (fun hb => ?_) (fun hb => ?_))
  all_goals
    refine boolD ?_
    try rw [hw] at *
    simp only [decide_eq_true_eq, decide_eq_false_iff_not, Bool.false_eq_true, false_iff, true_iff, iff_true, iff_false, reduceCtorEq, not_true_eq_false, not_false_eq_true, ge_iff_le, gt_iff_lt] at *
    try try rw [hw] at *
    simp only [withinP, psdP, mayP] at *
    omega
theorem cWithin (x y m : Int) (h : List (Option Chunk)) (hm : 0 ≤ m ∧ m ≤ 1152921504606846976) : CallOK Tryz.prog 20 [.agg #[.int .i64 x, .int .i64 y], .int .i64 m] h (.bool (decide (withinP m x y))) [] [] :=
  call_pure (by first | rfl | (simp only [List.all_cons, List.all_nil, plain_wz]; rfl)) (by first | rfl | exact plain3_wz _) (Tryz.call20 _) (within_x x y m hm)
set_option maxRecDepth 100000 in
theorem maypoint_x (x y : Int)  (w : World) : Calls Tryz.prog 18 #[.agg #[.int .i64 x, .int .i64 y]] w fun e w' => e = .returned (.bool (decide (withinP 4194304 x y))) ∧ Below w.heap.size w w' := by
  refine calls_pure (G := tys) w tysOK mixed Tryz.func18 (by rfl) (by first | rfl | (simp only [List.all_cons, List.all_nil, plain_wz, plain_lim, plain_wi]; rfl)) (by first | exact plain3_wz _ | exact plain3_wi _ _ _ | rfl | (simp only [plain3, List.all_cons, List.all_nil, plain_wz, plain_lim, plain_wi]; rfl)) ?_
  repeat' (refine N.go ?_; first | with_reducible refine N.obl (by decide) ?_ | with_reducible refine N.obl (flat_wi _ _ _) ?_ | with_reducible refine N.obl (flat_lim _ _) ?_ | with_reducible refine N.eq ?_ | with_reducible refine N.obl rfl ?_ | with_reducible refine N.obl ⟨by kernel_rfl, by kernel_rfl⟩ ?_ | with_reducible refine N.alt ?_ | with_reducible refine N.forkT ?_ | with_reducible refine N.forkF ?_ | with_reducible refine N.call (cWithin _ _ _ _ (by decide)) ?_)
  all_goals rfl
theorem cMayPoint (x y : Int) (h : List (Option Chunk))  : CallOK Tryz.prog 18 [.agg #[.int .i64 x, .int .i64 y]] h (.bool (decide (withinP 4194304 x y))) [] [] :=
  call_pure (by first | rfl | (simp only [List.all_cons, List.all_nil, plain_wz]; rfl)) (by first | rfl | exact plain3_wz _) (Tryz.call18 _) (maypoint_x x y )
set_option maxRecDepth 100000 in
theorem i63 {n : Int} (h : n.natAbs ≤ 9223372036854775807) : -9223372036854775808 ≤ n ∧ n < 9223372036854775808 := by omega
set_option maxRecDepth 100000 in
theorem times_x (a b : Int) (ha : a.natAbs ≤ 9223372036854775807) (hbb : b.natAbs ≤ 9223372036854775807) (w : World) : Calls Tryz.prog 35 #[.int .i64 a, .int .i64 b] w fun e w' => e = .returned (wz (a * b)) ∧ Below w.heap.size w w' := by
  have h1 := mulB ha hbb
  refine calls_pure (G := tys) w tysOK mixed Tryz.func35 (by rfl) (by first | rfl | (simp only [List.all_cons, List.all_nil, plain_wz, plain_lim, plain_wi]; rfl)) (by first | exact plain3_wz _ | exact plain3_wi _ _ _ | rfl | (simp only [plain3, List.all_cons, List.all_nil, plain_wz, plain_lim, plain_wi]; rfl)) ?_
  repeat' (refine N.go ?_; first | with_reducible refine N.obl (by decide) ?_ | with_reducible refine N.obl (flat_wi _ _ _) ?_ | with_reducible refine N.obl (flat_lim _ _) ?_ | with_reducible refine N.eq ?_ | with_reducible refine N.obl rfl ?_ | with_reducible refine N.obl ⟨by kernel_rfl, by kernel_rfl⟩ ?_ | with_reducible refine N.alt ?_ | with_reducible refine N.forkT ?_ | with_reducible refine N.forkF ?_ | with_reducible refine N.call (cOfz _ _ (by omega) (by omega)) ?_ | with_reducible refine N.call (cMulz _ _ _ (zb (by omega)) (zb (by omega)) (zt (Nat.le_trans h1 (by decide)))) ?_)
  all_goals rfl
theorem cTimes (a b : Int) (h : List (Option Chunk)) (ha : a.natAbs ≤ 9223372036854775807) (hbb : b.natAbs ≤ 9223372036854775807) : CallOK Tryz.prog 35 [.int .i64 a, .int .i64 b] h (wz (a * b)) [] [] :=
  call_pure (by first | rfl | (simp only [List.all_cons, List.all_nil, plain_wz]; rfl)) (by first | rfl | exact plain3_wz _) (Tryz.call35 _) (times_x a b ha hbb)
set_option maxRecDepth 100000 in
theorem mdet_x (a b d : Int) (ha : a.natAbs ≤ 18446744073709551616) (hbb : b.natAbs ≤ 18446744073709551616) (hd : d.natAbs ≤ 18446744073709551616) (w : World) : Calls Tryz.prog 41 #[wz a, wz b, wz d] w fun e w' => e = .returned (wz (a * d - b * b)) ∧ Below w.heap.size w w' := by
  have h1 := mulB ha hd
  have h2 := mulB hbb hbb
  refine calls_pure (G := tys) w tysOK mixed Tryz.func41 (by rfl) (by first | rfl | (simp only [List.all_cons, List.all_nil, plain_wz, plain_lim, plain_wi]; rfl)) (by first | exact plain3_wz _ | exact plain3_wi _ _ _ | rfl | (simp only [plain3, List.all_cons, List.all_nil, plain_wz, plain_lim, plain_wi]; rfl)) ?_
  repeat' (refine N.go ?_; first | with_reducible refine N.obl (by decide) ?_ | with_reducible refine N.obl (flat_wi _ _ _) ?_ | with_reducible refine N.obl (flat_lim _ _) ?_ | with_reducible refine N.eq ?_ | with_reducible refine N.obl rfl ?_ | with_reducible refine N.obl ⟨by kernel_rfl, by kernel_rfl⟩ ?_ | with_reducible refine N.alt ?_ | with_reducible refine N.forkT ?_ | with_reducible refine N.forkF ?_ | with_reducible refine N.call (cMulz _ _ _ (zb (by omega)) (zb (by omega)) (zt (Nat.le_trans (by assumption) (by decide)))) ?_ | with_reducible refine N.call (cSubz _ _ _ (zt (Nat.le_trans h1 (by decide))) (zt (Nat.le_trans h2 (by decide))) (zt (by omega))) ?_)
  all_goals rfl
theorem cDetw (a b d : Int) (h : List (Option Chunk)) (ha : a.natAbs ≤ 18446744073709551616) (hbb : b.natAbs ≤ 18446744073709551616) (hd : d.natAbs ≤ 18446744073709551616) : CallOK Tryz.prog 41 [wz a, wz b, wz d] h (wz (a * d - b * b)) [] [] :=
  call_pure (by first | rfl | (simp only [List.all_cons, List.all_nil, plain_wz]; rfl)) (by first | rfl | exact plain3_wz _) (Tryz.call41 _) (mdet_x a b d ha hbb hd)
set_option maxRecDepth 100000 in
theorem mpsd_x (a b d : Int) (ha : a.natAbs ≤ 18446744073709551616) (hbb : b.natAbs ≤ 18446744073709551616) (hd : d.natAbs ≤ 18446744073709551616) (w : World) : Calls Tryz.prog 36 #[wz a, wz b, wz d] w fun e w' => e = .returned (.bool (decide (psdP a b d))) ∧ Below w.heap.size w w' := by
  have h1 := mulB ha hd
  have h2 := mulB hbb hbb
  have s1 := sgn_nonneg a
  have s2 := sgn_nonneg d
  have s3 := sgn_nonneg (a * d - b * b)
  refine calls_pure (G := tys) w tysOK mixed Tryz.func36 (by rfl) (by first | rfl | (simp only [List.all_cons, List.all_nil, plain_wz, plain_lim, plain_wi]; rfl)) (by first | exact plain3_wz _ | exact plain3_wi _ _ _ | rfl | (simp only [plain3, List.all_cons, List.all_nil, plain_wz, plain_lim, plain_wi]; rfl)) ?_
  repeat' (refine N.go ?_; first | with_reducible refine N.obl (by decide) ?_ | with_reducible refine N.obl (flat_wi _ _ _) ?_ | with_reducible refine N.obl (flat_lim _ _) ?_ | with_reducible refine N.eq ?_ | with_reducible refine N.obl rfl ?_ | with_reducible refine N.obl ⟨by kernel_rfl, by kernel_rfl⟩ ?_ | with_reducible refine N.alt ?_ | with_reducible refine N.forkT ?_ | with_reducible refine N.forkF ?_ | with_reducible refine N.call (cDetw _ _ _ _ ha hbb hd) ?_ | with_reducible refine N.call (cSign _ _ (zt (by omega))) ?_ | with_reducible refine N.fork (fun hb => ?_) (fun hb => ?_))
  all_goals
    refine boolD ?_
    simp only [decide_eq_true_eq, decide_eq_false_iff_not, Bool.false_eq_true, false_iff, true_iff, iff_true, iff_false, reduceCtorEq, not_true_eq_false, not_false_eq_true, ge_iff_le, gt_iff_lt] at *
    try simp only [withinP, psdP, mayP] at *
    omega
theorem cPsdw (a b d : Int) (h : List (Option Chunk)) (ha : a.natAbs ≤ 18446744073709551616) (hbb : b.natAbs ≤ 18446744073709551616) (hd : d.natAbs ≤ 18446744073709551616) : CallOK Tryz.prog 36 [wz a, wz b, wz d] h (.bool (decide (psdP a b d))) [] [] :=
  call_pure (by first | rfl | (simp only [List.all_cons, List.all_nil, plain_wz]; rfl)) (by first | rfl | exact plain3_wz _) (Tryz.call36 _) (mpsd_x a b d ha hbb hd)
set_option maxRecDepth 100000 in
theorem Det_x (a b d : Int) (ha : a.natAbs ≤ 9223372036854775807) (hbb : b.natAbs ≤ 9223372036854775807) (hd : d.natAbs ≤ 9223372036854775807) (w : World) : Calls Tryz.prog 26 #[.agg #[.int .i64 a, .int .i64 b, .int .i64 d]] w fun e w' => e = .returned (wz (a * d - b * b)) ∧ Below w.heap.size w w' := by
  refine calls_pure (G := tys) w tysOK mixed Tryz.func26 (by rfl) (by first | rfl | (simp only [List.all_cons, List.all_nil, plain_wz, plain_lim, plain_wi]; rfl)) (by first | exact plain3_wz _ | exact plain3_wi _ _ _ | rfl | (simp only [plain3, List.all_cons, List.all_nil, plain_wz, plain_lim, plain_wi]; rfl)) ?_
  repeat' (refine N.go ?_; first | with_reducible refine N.obl (by decide) ?_ | with_reducible refine N.obl (flat_wi _ _ _) ?_ | with_reducible refine N.obl (flat_lim _ _) ?_ | with_reducible refine N.eq ?_ | with_reducible refine N.obl rfl ?_ | with_reducible refine N.obl ⟨by kernel_rfl, by kernel_rfl⟩ ?_ | with_reducible refine N.alt ?_ | with_reducible refine N.forkT ?_ | with_reducible refine N.forkF ?_ | with_reducible refine N.call (cOfz _ _ (by omega) (by omega)) ?_ | with_reducible refine N.call (cDetw _ _ _ _ (by omega) (by omega) (by omega)) ?_)
  all_goals rfl
theorem cDet (a b d : Int) (h : List (Option Chunk)) (ha : a.natAbs ≤ 9223372036854775807) (hbb : b.natAbs ≤ 9223372036854775807) (hd : d.natAbs ≤ 9223372036854775807) : CallOK Tryz.prog 26 [.agg #[.int .i64 a, .int .i64 b, .int .i64 d]] h (wz (a * d - b * b)) [] [] :=
  call_pure (by first | rfl | (simp only [List.all_cons, List.all_nil, plain_wz]; rfl)) (by first | rfl | exact plain3_wz _) (Tryz.call26 _) (Det_x a b d ha hbb hd)
set_option maxRecDepth 100000 in
theorem less_x (n x y : Int) (hn : n.natAbs ≤ 140737488355328) (hx : x.natAbs ≤ 2147483648) (hy : y.natAbs ≤ 2147483648) (w : World) : Calls Tryz.prog 32 #[.int .i64 n, .int .i64 x, .int .i64 y] w fun e w' => e = .returned (wz (n - x * y)) ∧ Below w.heap.size w w' := by
  have h1 := mulB hx hy
  refine calls_pure (G := tys) w tysOK mixed Tryz.func32 (by rfl) (by first | rfl | (simp only [List.all_cons, List.all_nil, plain_wz, plain_lim, plain_wi]; rfl)) (by first | exact plain3_wz _ | exact plain3_wi _ _ _ | rfl | (simp only [plain3, List.all_cons, List.all_nil, plain_wz, plain_lim, plain_wi]; rfl)) ?_
  repeat' (refine N.go ?_; first | with_reducible refine N.obl (by decide) ?_ | with_reducible refine N.obl (flat_wi _ _ _) ?_ | with_reducible refine N.obl (flat_lim _ _) ?_ | with_reducible refine N.eq ?_ | with_reducible refine N.obl rfl ?_ | with_reducible refine N.obl ⟨by kernel_rfl, by kernel_rfl⟩ ?_ | with_reducible refine N.alt ?_ | with_reducible refine N.forkT ?_ | with_reducible refine N.forkF ?_ | with_reducible refine N.call (cOfz _ _ (by omega) (by omega)) ?_ | with_reducible refine N.call (cTimes _ _ _ (by omega) (by omega)) ?_ | with_reducible refine N.call (cSubz _ _ _ (zt (by omega)) (zt (Nat.le_trans h1 (by decide))) (zt (by omega))) ?_)
  all_goals rfl
theorem cLessw (n x y : Int) (h : List (Option Chunk)) (hn : n.natAbs ≤ 140737488355328) (hx : x.natAbs ≤ 2147483648) (hy : y.natAbs ≤ 2147483648) : CallOK Tryz.prog 32 [.int .i64 n, .int .i64 x, .int .i64 y] h (wz (n - x * y)) [] [] :=
  call_pure (by first | rfl | (simp only [List.all_cons, List.all_nil, plain_wz]; rfl)) (by first | rfl | exact plain3_wz _) (Tryz.call32 _) (less_x n x y hn hx hy)
set_option maxRecDepth 100000 in
theorem Holds_x (a b d x y : Int) (ha : a.natAbs ≤ 140737488355328) (hbb : b.natAbs ≤ 140737488355328) (hd : d.natAbs ≤ 140737488355328) (hx : x.natAbs ≤ 2147483648) (hy : y.natAbs ≤ 2147483648) (w : World) : Calls Tryz.prog 21 #[.agg #[.int .i64 a, .int .i64 b, .int .i64 d], .agg #[.int .i64 x, .int .i64 y]] w fun e w' => e = .returned (.bool (decide (holdsP a b d x y))) ∧ Below w.heap.size w w' := by
  have h1 := mulB hx hx
  have h2 := mulB hx hy
  have h3 := mulB hy hy
  refine calls_pure (G := tys) w tysOK mixed Tryz.func21 (by rfl) (by first | rfl | (simp only [List.all_cons, List.all_nil, plain_wz, plain_lim, plain_wi]; rfl)) (by first | exact plain3_wz _ | exact plain3_wi _ _ _ | rfl | (simp only [plain3, List.all_cons, List.all_nil, plain_wz, plain_lim, plain_wi]; rfl)) ?_
  repeat' (refine N.go ?_; first | with_reducible refine N.obl (by decide) ?_ | with_reducible refine N.obl (flat_wi _ _ _) ?_ | with_reducible refine N.obl (flat_lim _ _) ?_ | with_reducible refine N.eq ?_ | with_reducible refine N.obl rfl ?_ | with_reducible refine N.obl ⟨by kernel_rfl, by kernel_rfl⟩ ?_ | with_reducible refine N.alt ?_ | with_reducible refine N.forkT ?_ | with_reducible refine N.forkF ?_ | with_reducible refine N.call (cLessw _ _ _ _ (by assumption) (by assumption) (by assumption)) ?_ | with_reducible refine N.call (cPsdw _ _ _ _ (by omega) (by omega) (by omega)) ?_)
  all_goals rfl
theorem cHolds (a b d x y : Int) (h : List (Option Chunk)) (ha : a.natAbs ≤ 140737488355328) (hbb : b.natAbs ≤ 140737488355328) (hd : d.natAbs ≤ 140737488355328) (hx : x.natAbs ≤ 2147483648) (hy : y.natAbs ≤ 2147483648) : CallOK Tryz.prog 21 [.agg #[.int .i64 a, .int .i64 b, .int .i64 d], .agg #[.int .i64 x, .int .i64 y]] h (.bool (decide (holdsP a b d x y))) [] [] :=
  call_pure (by first | rfl | (simp only [List.all_cons, List.all_nil, plain_wz]; rfl)) (by first | rfl | exact plain3_wz _) (Tryz.call21 _) (Holds_x a b d x y ha hbb hd hx hy)
set_option maxRecDepth 100000 in
theorem May_x (cx cy a b d : Int)  (w : World) : Calls Tryz.prog 13 #[.agg #[.int .i64 cx, .int .i64 cy, .int .i64 a, .int .i64 b, .int .i64 d]] w fun e w' => e = .returned (.bool (decide (mayP cx cy a b d))) ∧ Below w.heap.size w w' := by
  have s1 := sgn_pos (a * d - b * b)
  refine calls_pure (G := tys) w tysOK mixed Tryz.func13 (by rfl) (by first | rfl | (simp only [List.all_cons, List.all_nil, plain_wz, plain_lim, plain_wi]; rfl)) (by first | exact plain3_wz _ | exact plain3_wi _ _ _ | rfl | (simp only [plain3, List.all_cons, List.all_nil, plain_wz, plain_lim, plain_wi]; rfl)) ?_
  repeat' (refine N.go ?_; first | with_reducible refine N.obl (by decide) ?_ | with_reducible refine N.obl (flat_wi _ _ _) ?_ | with_reducible refine N.obl (flat_lim _ _) ?_ | with_reducible refine N.eq ?_ | with_reducible refine N.obl rfl ?_ | with_reducible refine N.obl ⟨by kernel_rfl, by kernel_rfl⟩ ?_ | with_reducible refine N.alt ?_ | with_reducible refine N.forkT ?_ | with_reducible refine N.forkF ?_ | with_reducible refine N.call (cMayPoint _ _ _) ?_ | with_reducible refine N.call (cDet _ _ _ _ (by simp only [decide_eq_true_eq, decide_eq_false_iff_not] at *; omega) (by simp only [decide_eq_true_eq, decide_eq_false_iff_not] at *; omega) (by simp only [decide_eq_true_eq, decide_eq_false_iff_not] at *; omega)) ?_ | with_reducible refine N.call (cSign _ _ (zt (by simp only [decide_eq_true_eq, decide_eq_false_iff_not] at *; have h1 := mulB (a := a) (b := d) (m := 70368744177664) (n := 70368744177664) (by omega) (by omega); have h2 := mulB (a := b) (b := b) (m := 70368744177664) (n := 70368744177664) (by omega) (by omega); omega))) ?_ | with_reducible refine N.fork (fun hb => ?_) (fun hb => ?_))
  all_goals
    refine boolD ?_
    simp only [decide_eq_true_eq, decide_eq_false_iff_not, Bool.false_eq_true, false_iff, true_iff, iff_true, iff_false, reduceCtorEq, not_true_eq_false, not_false_eq_true, ge_iff_le, gt_iff_lt] at *
    try simp only [withinP, psdP, mayP] at *
    omega
theorem cEMay (cx cy a b d : Int) (h : List (Option Chunk))  : CallOK Tryz.prog 13 [.agg #[.int .i64 cx, .int .i64 cy, .int .i64 a, .int .i64 b, .int .i64 d]] h (.bool (decide (mayP cx cy a b d))) [] [] :=
  call_pure (by first | rfl | (simp only [List.all_cons, List.all_nil, plain_wz]; rfl)) (by first | rfl | exact plain3_wz _) (Tryz.call13 _) (May_x cx cy a b d )
set_option maxRecDepth 100000 in
theorem may_b {cx cy a b d : Int} (h : mayP cx cy a b d) : (cx.natAbs ≤ 4194304 ∧ cy.natAbs ≤ 4194304) ∧ a.natAbs ≤ 140737488355328 ∧ b.natAbs ≤ 140737488355328 ∧ d.natAbs ≤ 140737488355328 := by
  unfold mayP withinP at h; omega
set_option maxRecDepth 100000 in
theorem cHoldsz (a b d x y x' y' : Int) (h : List (Option Chunk)) (e1 : x' = x) (e2 : y' = y) (ha : a.natAbs ≤ 140737488355328) (hbb : b.natAbs ≤ 140737488355328) (hd : d.natAbs ≤ 140737488355328) (hx : x.natAbs ≤ 2147483648) (hy : y.natAbs ≤ 2147483648) : CallOK Tryz.prog 21 [.agg #[.int .i64 a, .int .i64 b, .int .i64 d], .agg #[.int .i64 x', .int .i64 y']] h (.bool (decide (holdsP a b d x y))) [] [] := by
  subst e1 e2; exact cHolds a b d x' y' h ha hbb hd hx hy
set_option maxRecDepth 100000 in
theorem In_x (cx cy a b d x y : Int)  (w : World) : Calls Tryz.prog 10 #[.agg #[.int .i64 cx, .int .i64 cy, .int .i64 a, .int .i64 b, .int .i64 d], .agg #[.int .i64 x, .int .i64 y]] w fun e w' => e = .returned (.bool (decide (inP cx cy a b d x y))) ∧ Below w.heap.size w w' := by
  by_cases hm : mayP cx cy a b d
  · by_cases hw : withinP 1073741824 x y
    · obtain ⟨⟨c1, c2⟩, m1, m2, m3⟩ := may_b hm
      have hw1 := hw
      unfold withinP at hw1
      have e1 := i64s (x - cx) (by omega) (by omega)
      have e2 := i64s (y - cy) (by omega) (by omega)
      rw [show decide (inP cx cy a b d x y) = decide (holdsP a b d (x - cx) (y - cy)) from decide_eq_decide.2 ⟨fun h => h.2.2, fun h => ⟨hm, hw, h⟩⟩]
      refine calls_pure (G := tys) w tysOK mixed Tryz.func10 (by rfl) (by first | rfl | (simp only [List.all_cons, List.all_nil, plain_wz]; rfl)) (by first | rfl | exact plain3_wz _ | (simp only [plain3, List.all_cons, List.all_nil, plain_wz]; rfl)) ?_
      repeat' (refine N.go ?_; first | with_reducible refine N.obl (by decide) ?_ | with_reducible refine N.obl (flat_wi _ _ _) ?_ | with_reducible refine N.obl (flat_lim _ _) ?_ | with_reducible refine N.eq ?_ | with_reducible refine N.obl rfl ?_ | with_reducible refine N.obl ⟨by kernel_rfl, by kernel_rfl⟩ ?_ | with_reducible refine N.alt ?_ | with_reducible refine N.forkT ?_ | with_reducible refine N.forkF ?_ | with_reducible refine N.call (cEMay _ _ _ _ _ _) ?_ | with_reducible refine N.call (cWithin _ _ _ _ (by decide)) ?_ | with_reducible refine N.call (cHoldsz _ _ _ (x - cx) (y - cy) _ _ _ e1 e2 m1 m2 m3 (by omega) (by omega)) ?_ | refine N.forkNo (by rw [decide_eq_true (by assumption)]; rfl) ?_ | refine N.forkYes (by rw [decide_eq_false (by assumption)]; rfl) ?_ | refine N.forkYes (decide_eq_true (by assumption)) ?_ | refine N.forkNo (decide_eq_false (by assumption)) ?_)
      all_goals rfl
    · rw [decide_eq_false (fun h : inP cx cy a b d x y => hw h.2.1)]
      refine calls_pure (G := tys) w tysOK mixed Tryz.func10 (by rfl) (by first | rfl | (simp only [List.all_cons, List.all_nil, plain_wz]; rfl)) (by first | rfl | exact plain3_wz _ | (simp only [plain3, List.all_cons, List.all_nil, plain_wz]; rfl)) ?_
      repeat' (refine N.go ?_; first | with_reducible refine N.obl (by decide) ?_ | with_reducible refine N.obl (flat_wi _ _ _) ?_ | with_reducible refine N.obl (flat_lim _ _) ?_ | with_reducible refine N.eq ?_ | with_reducible refine N.obl rfl ?_ | with_reducible refine N.obl ⟨by kernel_rfl, by kernel_rfl⟩ ?_ | with_reducible refine N.alt ?_ | with_reducible refine N.forkT ?_ | with_reducible refine N.forkF ?_ | with_reducible refine N.call (cEMay _ _ _ _ _ _) ?_ | with_reducible refine N.call (cWithin _ _ _ _ (by decide)) ?_ | refine N.forkNo (by rw [decide_eq_true (by assumption)]; rfl) ?_ | refine N.forkYes (by rw [decide_eq_false (by assumption)]; rfl) ?_ | refine N.forkYes (decide_eq_true (by assumption)) ?_ | refine N.forkNo (decide_eq_false (by assumption)) ?_)
      all_goals rfl
  · rw [decide_eq_false (fun h : inP cx cy a b d x y => hm h.1)]
    refine calls_pure (G := tys) w tysOK mixed Tryz.func10 (by rfl) (by first | rfl | (simp only [List.all_cons, List.all_nil, plain_wz]; rfl)) (by first | rfl | exact plain3_wz _ | (simp only [plain3, List.all_cons, List.all_nil, plain_wz]; rfl)) ?_
    repeat' (refine N.go ?_; first | with_reducible refine N.obl (by decide) ?_ | with_reducible refine N.obl (flat_wi _ _ _) ?_ | with_reducible refine N.obl (flat_lim _ _) ?_ | with_reducible refine N.eq ?_ | with_reducible refine N.obl rfl ?_ | with_reducible refine N.obl ⟨by kernel_rfl, by kernel_rfl⟩ ?_ | with_reducible refine N.alt ?_ | with_reducible refine N.forkT ?_ | with_reducible refine N.forkF ?_ | with_reducible refine N.call (cEMay _ _ _ _ _ _) ?_ | with_reducible refine N.call (cWithin _ _ _ _ (by decide)) ?_ | refine N.forkNo (by rw [decide_eq_true (by assumption)]; rfl) ?_ | refine N.forkYes (by rw [decide_eq_false (by assumption)]; rfl) ?_ | refine N.forkYes (decide_eq_true (by assumption)) ?_ | refine N.forkNo (decide_eq_false (by assumption)) ?_)
    all_goals rfl
theorem cIn4 (cx cy a b d x y : Int) (h : List (Option Chunk))  : CallOK Tryz.prog 10 [.agg #[.int .i64 cx, .int .i64 cy, .int .i64 a, .int .i64 b, .int .i64 d], .agg #[.int .i64 x, .int .i64 y]] h (.bool (decide (inP cx cy a b d x y))) [] [] :=
  call_pure (by first | rfl | (simp only [List.all_cons, List.all_nil, plain_wz]; rfl)) (by first | rfl | exact plain3_wz _ | (simp only [plain3, List.all_cons, List.all_nil, plain_wz]; rfl)) (Tryz.call10 _) (In_x cx cy a b d x y )
set_option maxRecDepth 100000 in
abbrev trP (cx cy a b d : Int) : Int := if mayP cx cy a b d then a + d else 0
theorem trP_b (cx cy a b d : Int) : (if mayP cx cy a b d then a + d else 0) < 9223372036854775808 := by
  split
  · rename_i hm; have := may_b hm; omega
  · omega
set_option maxRecDepth 100000 in
theorem mradius_x (r : Int)  (w : World) : Calls Tryz.prog 19 #[.int .i64 r] w fun e w' => e = .returned (.bool (decide (1 ≤ r ∧ r ≤ 4194304))) ∧ Below w.heap.size w w' := by
  refine calls_pure (G := tys) w tysOK mixed Tryz.func19 (by rfl) (by first | rfl | (simp only [List.all_cons, List.all_nil, plain_wz, plain_lim, plain_wi]; rfl)) (by first | exact plain3_wz _ | exact plain3_wi _ _ _ | rfl | (simp only [plain3, List.all_cons, List.all_nil, plain_wz, plain_lim, plain_wi]; rfl)) ?_
  repeat' (refine N.go ?_; first | with_reducible refine N.obl (by decide) ?_ | with_reducible refine N.obl (flat_wi _ _ _) ?_ | with_reducible refine N.obl (flat_lim _ _) ?_ | with_reducible refine N.eq ?_ | with_reducible refine N.obl rfl ?_ | with_reducible refine N.obl ⟨by kernel_rfl, by kernel_rfl⟩ ?_ | with_reducible refine N.alt ?_ | with_reducible refine N.forkT ?_ | with_reducible refine N.forkF ?_ | with_reducible refine N.fork (fun hb => ?_) (fun hb => ?_))
  all_goals
    refine boolD ?_
    simp only [decide_eq_true_eq, decide_eq_false_iff_not, Bool.false_eq_true, false_iff, true_iff, iff_true, iff_false, reduceCtorEq, not_true_eq_false, not_false_eq_true, ge_iff_le, gt_iff_lt] at *
    try simp only [withinP, psdP, mayP] at *
    omega
theorem cRad (r : Int) (h : List (Option Chunk))  : CallOK Tryz.prog 19 [.int .i64 r] h (.bool (decide (1 ≤ r ∧ r ≤ 4194304))) [] [] :=
  call_pure (by first | rfl | (simp only [List.all_cons, List.all_nil, plain_wz]; rfl)) (by first | rfl | exact plain3_wz _) (Tryz.call19 _) (mradius_x r )
set_option maxRecDepth 100000 in
def mmayP (a b d : Int) : Prop := (-2305843009213693952 ≤ a ∧ a ≤ 2305843009213693952) ∧ (-2305843009213693952 ≤ b ∧ b ≤ 2305843009213693952) ∧ (-2305843009213693952 ≤ d ∧ d ≤ 2305843009213693952)
instance (a b d : Int) : Decidable (mmayP a b d) := by unfold mmayP; infer_instance
def leastP (a b d p q r : Int) : Prop := mmayP a b d ∧ mmayP p q r ∧ psdP (a - p) (b - q) (d - r)
instance (a b d p q r : Int) : Decidable (leastP a b d p q r) := by unfold leastP; infer_instance
set_option maxRecDepth 100000 in
def quadZ (a b d x y : Int) : Int := (a * (x * x) + d * (y * y)) + (b * (x * y) + b * (x * y))
set_option maxRecDepth 100000 in
theorem quad_nn {a b d x y : Int} (ha : 1 ≤ a) (hdet : 0 ≤ a * d - b * b) : 0 ≤ quadZ a b d x y := by
  have h1 : 0 ≤ (a * x + b * y) * (a * x + b * y) := by rcases Int.le_total 0 (a * x + b * y) with h | h; exact Int.mul_nonneg h h; exact Int.mul_nonneg_of_nonpos_of_nonpos h h
  have h2 : 0 ≤ (a * d - b * b) * (y * y) := Int.mul_nonneg hdet (by rcases Int.le_total 0 y with h | h; exact Int.mul_nonneg h h; exact Int.mul_nonneg_of_nonpos_of_nonpos h h)
  have e : a * quadZ a b d x y = (a * x + b * y) * (a * x + b * y) + (a * d - b * b) * (y * y) := by unfold quadZ; grind
  refine Int.not_lt.1 fun h => ?_
  have := Int.mul_neg_of_pos_of_neg (by omega : 0 < a) h
  omega
theorem quad_B {a b d x y : Int} (ha : a.natAbs ≤ 140737488355328) (hbb : b.natAbs ≤ 140737488355328) (hd : d.natAbs ≤ 140737488355328) (hx : x.natAbs ≤ 16777216) (hy : y.natAbs ≤ 16777216) : (quadZ a b d x y).natAbs ≤ 158456325028528675187087900672 := by
  have h1 := mulB hx hx
  have h2 := mulB hx hy
  have h3 := mulB hy hy
  have k1 := mulB ha h1
  have k2 := mulB hbb h2
  have k3 := mulB hd h3
  unfold quadZ; omega
def alongN (a b d x y : Int) : Nat := usq (quadZ a b d x y).toNat
set_option maxRecDepth 100000 in
theorem BallY_x (x y r : Int) (hw : withinP 4194304 x y) (hr0 : 1 ≤ r ∧ r ≤ 4194304) (w : World) : Calls Tryz.prog 9 #[.agg #[.int .i64 x, .int .i64 y], .int .i64 r] w fun e w' => e = .returned (.tuple #[.agg #[.int .i64 x, .int .i64 y, .int .i64 (r * r), .int .i64 0, .int .i64 (r * r)], .int .i64 0]) ∧ Below w.heap.size w w' := by
  have k1 := mulB (a := r) (b := r) (m := 4194304) (n := 4194304) (by omega) (by omega)
  have e1 := i64s (r * r) (by omega) (by omega)
  refine calls_pure (G := tys) w tysOK mixed Tryz.func9 (by rfl) (by first | rfl | (simp only [List.all_cons, List.all_nil, plain_wz]; rfl)) (by first | rfl | exact plain3_wz _ | (simp only [plain3, List.all_cons, List.all_nil, plain_wz]; rfl)) ?_
  repeat' (refine N.go ?_; first | with_reducible refine N.obl (by decide) ?_ | with_reducible refine N.obl (flat_wi _ _ _) ?_ | with_reducible refine N.obl (flat_lim _ _) ?_ | with_reducible refine N.eq ?_ | with_reducible refine N.obl rfl ?_ | with_reducible refine N.obl ⟨by kernel_rfl, by kernel_rfl⟩ ?_ | with_reducible refine N.alt ?_ | with_reducible refine N.forkT ?_ | with_reducible refine N.forkF ?_ | with_reducible refine N.call (cMayPoint _ _ _) ?_ | with_reducible refine N.call (cRad _ _) ?_ | refine N.forkNo (by rw [decide_eq_true (by assumption)]; rfl) ?_ | refine N.forkYes (by rw [decide_eq_false (by assumption)]; rfl) ?_ | refine N.forkYes (decide_eq_true (by assumption)) ?_ | refine N.forkNo (decide_eq_false (by assumption)) ?_)
  all_goals (rw [e1])
theorem cBallY (x y r : Int) (h : List (Option Chunk)) (hw : withinP 4194304 x y) (hr0 : 1 ≤ r ∧ r ≤ 4194304) : CallOK Tryz.prog 9 [.agg #[.int .i64 x, .int .i64 y], .int .i64 r] h (.tuple #[.agg #[.int .i64 x, .int .i64 y, .int .i64 (r * r), .int .i64 0, .int .i64 (r * r)], .int .i64 0]) [] [] :=
  call_pure (by first | rfl | (simp only [List.all_cons, List.all_nil, plain_wz]; rfl)) (by first | rfl | exact plain3_wz _ | (simp only [plain3, List.all_cons, List.all_nil, plain_wz]; rfl)) (Tryz.call9 _) (BallY_x x y r hw hr0)
set_option maxRecDepth 100000 in
theorem BallN_x (x y r : Int) (hn : ¬ (withinP 4194304 x y ∧ (1 ≤ r ∧ r ≤ 4194304))) (w : World) : Calls Tryz.prog 9 #[.agg #[.int .i64 x, .int .i64 y], .int .i64 r] w fun e w' => e = .returned (.tuple #[.agg #[.int .i64 0, .int .i64 0, .int .i64 0, .int .i64 0, .int .i64 0], .int .i64 1]) ∧ Below w.heap.size w w' := by
  by_cases hc0 : withinP 4194304 x y
  rotate_left
  · skip
    refine calls_pure (G := tys) w tysOK mixed Tryz.func9 (by rfl) (by first | rfl | (simp only [List.all_cons, List.all_nil, plain_wz]; rfl)) (by first | rfl | exact plain3_wz _ | (simp only [plain3, List.all_cons, List.all_nil, plain_wz]; rfl)) ?_
    repeat' (refine N.go ?_; first | with_reducible refine N.obl (by decide) ?_ | with_reducible refine N.obl (flat_wi _ _ _) ?_ | with_reducible refine N.obl (flat_lim _ _) ?_ | with_reducible refine N.eq ?_ | with_reducible refine N.obl rfl ?_ | with_reducible refine N.obl ⟨by kernel_rfl, by kernel_rfl⟩ ?_ | with_reducible refine N.alt ?_ | with_reducible refine N.forkT ?_ | with_reducible refine N.forkF ?_ | with_reducible refine N.call (cMayPoint _ _ _) ?_ | with_reducible refine N.call (cRad _ _) ?_ | refine N.forkNo (by rw [decide_eq_true (by assumption)]; rfl) ?_ | refine N.forkYes (by rw [decide_eq_false (by assumption)]; rfl) ?_ | refine N.forkYes (decide_eq_true (by assumption)) ?_ | refine N.forkNo (decide_eq_false (by assumption)) ?_)
    all_goals rfl
  have hc1 : ¬ (1 ≤ r ∧ r ≤ 4194304) := fun h => hn ⟨hc0, h⟩
  refine calls_pure (G := tys) w tysOK mixed Tryz.func9 (by rfl) (by first | rfl | (simp only [List.all_cons, List.all_nil, plain_wz]; rfl)) (by first | rfl | exact plain3_wz _ | (simp only [plain3, List.all_cons, List.all_nil, plain_wz]; rfl)) ?_
  repeat' (refine N.go ?_; first | with_reducible refine N.obl (by decide) ?_ | with_reducible refine N.obl (flat_wi _ _ _) ?_ | with_reducible refine N.obl (flat_lim _ _) ?_ | with_reducible refine N.eq ?_ | with_reducible refine N.obl rfl ?_ | with_reducible refine N.obl ⟨by kernel_rfl, by kernel_rfl⟩ ?_ | with_reducible refine N.alt ?_ | with_reducible refine N.forkT ?_ | with_reducible refine N.forkF ?_ | with_reducible refine N.call (cMayPoint _ _ _) ?_ | with_reducible refine N.call (cRad _ _) ?_ | refine N.forkNo (by rw [decide_eq_true (by assumption)]; rfl) ?_ | refine N.forkYes (by rw [decide_eq_false (by assumption)]; rfl) ?_ | refine N.forkYes (decide_eq_true (by assumption)) ?_ | refine N.forkNo (decide_eq_false (by assumption)) ?_)
  all_goals rfl
theorem cBallN (x y r : Int) (h : List (Option Chunk)) (hn : ¬ (withinP 4194304 x y ∧ (1 ≤ r ∧ r ≤ 4194304))) : CallOK Tryz.prog 9 [.agg #[.int .i64 x, .int .i64 y], .int .i64 r] h (.tuple #[.agg #[.int .i64 0, .int .i64 0, .int .i64 0, .int .i64 0, .int .i64 0], .int .i64 1]) [] [] :=
  call_pure (by first | rfl | (simp only [List.all_cons, List.all_nil, plain_wz]; rfl)) (by first | rfl | exact plain3_wz _ | (simp only [plain3, List.all_cons, List.all_nil, plain_wz]; rfl)) (Tryz.call9 _) (BallN_x x y r hn)
set_option maxRecDepth 100000 in
theorem cMayPointz (x y x' y' : Int) (h : List (Option Chunk)) (e1 : x' = x) (e2 : y' = y) : CallOK Tryz.prog 18 [.agg #[.int .i64 x', .int .i64 y']] h (.bool (decide (withinP 4194304 x y))) [] [] := by
  subst e1 e2; exact cMayPoint x' y' h
set_option maxRecDepth 100000 in
theorem cInD (cx cy a b d x y : Int) (v : Bool) (h : List (Option Chunk)) (hv : decide (inP cx cy a b d x y) = v) : CallOK Tryz.prog 10 [.agg #[.int .i64 cx, .int .i64 cy, .int .i64 a, .int .i64 b, .int .i64 d], .agg #[.int .i64 x, .int .i64 y]] h (.bool v) [] [] := by
  rw [← hv]; exact cIn4 cx cy a b d x y h
set_option maxRecDepth 100000 in
theorem awake4_x   (w : World) : Calls Tryz.prog 4 #[] w fun e w' => e = .returned (.bool true) ∧ Below w.heap.size w w' := by
  refine calls_pure (G := tys) w tysOK mixed Tryz.func4 (by rfl) (by first | rfl | (simp only [List.all_cons, List.all_nil, plain_wz, plain_lim, plain_wi]; rfl)) (by first | exact plain3_wz _ | exact plain3_wi _ _ _ | rfl | (simp only [plain3, List.all_cons, List.all_nil, plain_wz, plain_lim, plain_wi]; rfl)) ?_
  repeat' (refine N.go ?_; first | with_reducible refine N.obl (by decide) ?_ | with_reducible refine N.obl (flat_wi _ _ _) ?_ | with_reducible refine N.obl (flat_lim _ _) ?_ | with_reducible refine N.eq ?_ | with_reducible refine N.obl rfl ?_ | with_reducible refine N.obl ⟨by kernel_rfl, by kernel_rfl⟩ ?_ | with_reducible refine N.alt ?_ | with_reducible refine N.forkT ?_ | with_reducible refine N.forkF ?_ | with_reducible refine N.call (cBallY 0 0 5 _ (by decide) (by decide)) ?_ | with_reducible refine N.call (cBallY 0 0 4 _ (by decide) (by decide)) ?_ | with_reducible refine N.call (cInD 0 0 (5 * 5) 0 (5 * 5) 3 4 true _ (by decide)) ?_ | with_reducible refine N.call (cInD 0 0 (4 * 4) 0 (4 * 4) 3 4 false _ (by decide)) ?_ | refine N.forkNo (by decide) ?_ | refine N.forkYes (by decide) ?_)
  all_goals rfl
theorem cAwake4 (h : List (Option Chunk)) : CallOK Tryz.prog 4 [] h (.bool true) [] [] :=
  call_pure rfl rfl (Tryz.call4 _) (awake4_x)
end Go.Proofs.YtdnkeeedcnjofaaGreatDoor


/-
  ellip.Parse at what ellip.Text writes.
-/
set_option linter.unusedVariables false
set_option linter.unusedSimpArgs false
namespace Go.Proofs.YtdnkeeedcnjofaaGreatDoor
open Go Go.RowKit Sx

theorem ba_app (a b : ByteArray) : (a ++ b).data.toList = a.data.toList ++ b.data.toList := by
  rw [ByteArray.data_append, Array.toList_append]
theorem numB_list (n : Int) : (numB n).data.toList = Lib.itoa n := rfl
theorem itoa_44 (n : Int) : (44 : UInt8) ∉ Lib.itoa n := Txt.itoa_no n 44 (by decide) (by decide)
theorem itoa_47 (n : Int) : (47 : UInt8) ∉ Lib.itoa n := Txt.itoa_no n 47 (by decide) (by decide)
def headB (x y : Int) : ByteArray := numB x ++ comma ++ numB y
def tailB (a b d : Int) : ByteArray := numB a ++ comma ++ numB b ++ comma ++ numB d
theorem headB_list (x y : Int) : (headB x y).data.toList = Lib.itoa x ++ 44 :: Lib.itoa y := by
  unfold headB
  rw [ba_app, ba_app, numB_list, numB_list, show comma.data.toList = [44] from rfl, List.append_assoc]; rfl
theorem tailB_list (a b d : Int) : (tailB a b d).data.toList = Lib.itoa a ++ 44 :: (Lib.itoa b ++ 44 :: Lib.itoa d) := by
  unfold tailB
  rw [ba_app, ba_app, ba_app, ba_app, numB_list, numB_list, numB_list, show comma.data.toList = [44] from rfl]
  simp
theorem textB_list (x y a b d : Int) : (textB x y a b d).data.toList = (headB x y).data.toList ++ 47 :: (tailB a b d).data.toList := by
  rw [headB_list, tailB_list]
  unfold textB
  rw [ba_app, ba_app, ba_app, ba_app, ba_app, ba_app, ba_app, ba_app, numB_list, numB_list, numB_list, numB_list, numB_list, show comma.data.toList = [44] from rfl, show stroke.data.toList = [47] from rfl]
  simp
theorem text_cut (x y a b d : Int) : Lib.cut (textB x y a b d).data.toList [47] = ((headB x y).data.toList, (tailB a b d).data.toList, true) := by
  rw [textB_list]
  refine Txt.cut_at _ _ _ ?_
  rw [headB_list]
  intro h
  rcases List.mem_append.1 h with h | h
  · exact itoa_47 x h
  · rcases List.mem_cons.1 h with h | h
    · exact absurd h (by decide)
    · exact itoa_47 y h
theorem head_count (x y : Int) : Lib.countB (headB x y) ⟨#[44]⟩ = 1 := by
  show Lib.count (headB x y).data.toList [44] = 1
  rw [headB_list]; exact Txt.count_two _ _ _ (itoa_44 x) (itoa_44 y)
theorem tail_count (a b d : Int) : Lib.countB (tailB a b d) ⟨#[44]⟩ = 2 := by
  show Lib.count (tailB a b d).data.toList [44] = 2
  rw [tailB_list]; exact Txt.count_three _ _ _ _ (itoa_44 a) (itoa_44 b) (itoa_44 d)
theorem splitK_last (l : List UInt8) (h : (44 : UInt8) ∉ l) : Lib.splitK [44] 0 0 l = [l] := rfl
theorem head_split (x y : Int) : Lib.splitB ⟨#[44]⟩ 0 1 (headB x y) = [numB x, numB y] :=
  Txt.splitB_of (ls := [Lib.itoa x, Lib.itoa y]) (by
    show Lib.splitK [44] 0 1 (headB x y).data.toList = _
    rw [headB_list, Txt.splitK_at _ _ _ (itoa_44 x)]; rfl)
theorem tail_split (a b d : Int) : Lib.splitB ⟨#[44]⟩ 0 2 (tailB a b d) = [numB a, numB b, numB d] :=
  Txt.splitB_of (ls := [Lib.itoa a, Lib.itoa b, Lib.itoa d]) (by
    show Lib.splitK [44] 0 2 (tailB a b d).data.toList = _
    rw [tailB_list, Txt.splitK_at _ _ _ (itoa_44 a), Txt.splitK_at _ _ _ (itoa_44 b)]; rfl)
theorem head_size (x y : Int) (hx : Fits x) (hy : Fits y) : (headB x y).size ≤ 43 := by
  have := numB_le x hx
  have := numB_le y hy
  have lc : comma.size = 1 := rfl
  unfold headB; rw [ByteArray.size_append, ByteArray.size_append]; omega
theorem tail_size (a b d : Int) (ha : Fits a) (hb : Fits b) (hd : Fits d) : (tailB a b d).size ≤ 65 := by
  have := numB_le a ha
  have := numB_le b hb
  have := numB_le d hd
  have lc : comma.size = 1 := rfl
  unfold tailB; rw [ByteArray.size_append, ByteArray.size_append, ByteArray.size_append, ByteArray.size_append]; omega
theorem text_size (x y a b d : Int) (hx : Fits x) (hy : Fits y) (ha : Fits a) (hb : Fits b) (hd : Fits d) : (textB x y a b d).size ≤ 109 := by
  have := numB_le x hx
  have := numB_le y hy
  have := numB_le a ha
  have := numB_le b hb
  have := numB_le d hd
  have lc : comma.size = 1 := rfl
  have ls : stroke.size = 1 := rfl
  unfold textB; simp only [ByteArray.size_append, lc, ls]; omega
set_option maxRecDepth 100000 in
set_option maxHeartbeats 2000000 in
theorem cParseY (W : World) (hW : TxOK W) (x y a b d : Int) (hx : Fits x) (hy : Fits y) (ha : Fits a) (hb : Fits b) (hd : Fits d) (hm : mayP x y a b d) (i : Nat) (h : List (Option Chunk)) (hi : h[i]? = some (some (oldC W))) : CallOK Tryz.prog 5 [.string (textB x y a b d)] h (.tuple #[.agg #[.int .i64 x, .int .i64 y, .int .i64 a, .int .i64 b, .int .i64 d], .bool true]) [] [i] := by
  refine call_old i W hi tysOK mixed Tryz.func5 (by rfl) hW.pos rfl rfl (Tryz.call5) fun w hk => ?_
  have hw := hW.kept hk
  have s1 := head_size x y hx hy
  have s2 := tail_size a b d ha hb hd
  have s3 := text_size x y a b d hx hy ha hb hd
  repeat' (refine N.go ?_; first | with_reducible refine N.obl (by decide) ?_ | with_reducible refine N.obl (flat_wi _ _ _) ?_ | with_reducible refine N.obl (flat_lim _ _) ?_ | with_reducible refine N.eq ?_ | with_reducible refine N.obl rfl ?_ | with_reducible refine N.obl ⟨by kernel_rfl, by kernel_rfl⟩ ?_ | with_reducible refine N.alt ?_ | with_reducible refine N.forkT ?_ | with_reducible refine N.forkF ?_ | refine N.call (cCut w hw (textB x y a b d) (headB x y) (tailB a b d) (by omega) (text_cut x y a b d) 0 _ (by rfl)) ?_ | fail_if_success skip)
  refine N.go ?_
  refine N.callAll (cNumbers2 w hw (headB x y) x y hx hy (by omega) (head_count x y) (head_split x y) 0 2 (by decide) _ (by rfl) (by rfl)) fun v ms hR => ?_
  obtain ⟨c1, rfl, rfl⟩ := hR
  repeat' (refine N.go ?_; first | with_reducible refine N.obl (by decide) ?_ | with_reducible refine N.obl (flat_wi _ _ _) ?_ | with_reducible refine N.obl (flat_lim _ _) ?_ | with_reducible refine N.eq ?_ | with_reducible refine N.obl rfl ?_ | with_reducible refine N.obl ⟨by kernel_rfl, by kernel_rfl⟩ ?_ | with_reducible refine N.alt ?_ | with_reducible refine N.forkT ?_ | with_reducible refine N.forkF ?_ | refine N.call (cCut w hw (textB x y a b d) (headB x y) (tailB a b d) (by omega) (text_cut x y a b d) 0 _ (by rfl)) ?_ | fail_if_success skip)
  refine N.go ?_
  refine N.callAll (cNumbers3 w hw (tailB a b d) a b d ha hb hd (by omega) (tail_count a b d) (tail_split a b d) 0 3 (by decide) _ (by rfl) (by rfl)) fun v ms hR => ?_
  obtain ⟨c2, rfl, rfl⟩ := hR
  repeat' (refine N.go ?_; first | with_reducible refine N.obl (by decide) ?_ | with_reducible refine N.obl (flat_wi _ _ _) ?_ | with_reducible refine N.obl (flat_lim _ _) ?_ | with_reducible refine N.eq ?_ | with_reducible refine N.obl rfl ?_ | with_reducible refine N.obl ⟨by kernel_rfl, by kernel_rfl⟩ ?_ | with_reducible refine N.alt ?_ | with_reducible refine N.forkT ?_ | with_reducible refine N.forkF ?_ | refine N.call (cEMay _ _ _ _ _ _) ?_ | refine N.forkNo (by rw [decide_eq_true hm]; rfl) ?_ | refine N.forkYes (by rw [decide_eq_false hm]; rfl) ?_ | refine N.forkNo (by decide) ?_ | refine N.forkYes (by decide) ?_ | refine N.idx 0 0 (by decide) (by decide) ?_ | refine N.idx 1 0 (by decide) (by decide) ?_ | refine N.idx 2 0 (by decide) (by decide) ?_ | exact N.mk ⟨rfl, rfl⟩ | fail_if_success skip)
set_option maxRecDepth 100000 in
set_option maxHeartbeats 2000000 in
theorem cParseN (W : World) (hW : TxOK W) (x y a b d : Int) (hx : Fits x) (hy : Fits y) (ha : Fits a) (hb : Fits b) (hd : Fits d) (hm : ¬ mayP x y a b d) (i : Nat) (h : List (Option Chunk)) (hi : h[i]? = some (some (oldC W))) : CallOK Tryz.prog 5 [.string (textB x y a b d)] h (.tuple #[.agg #[.int .i64 0, .int .i64 0, .int .i64 0, .int .i64 0, .int .i64 0], .bool false]) [] [i] := by
  refine call_old i W hi tysOK mixed Tryz.func5 (by rfl) hW.pos rfl rfl (Tryz.call5) fun w hk => ?_
  have hw := hW.kept hk
  have s1 := head_size x y hx hy
  have s2 := tail_size a b d ha hb hd
  have s3 := text_size x y a b d hx hy ha hb hd
  repeat' (refine N.go ?_; first | with_reducible refine N.obl (by decide) ?_ | with_reducible refine N.obl (flat_wi _ _ _) ?_ | with_reducible refine N.obl (flat_lim _ _) ?_ | with_reducible refine N.eq ?_ | with_reducible refine N.obl rfl ?_ | with_reducible refine N.obl ⟨by kernel_rfl, by kernel_rfl⟩ ?_ | with_reducible refine N.alt ?_ | with_reducible refine N.forkT ?_ | with_reducible refine N.forkF ?_ | refine N.call (cCut w hw (textB x y a b d) (headB x y) (tailB a b d) (by omega) (text_cut x y a b d) 0 _ (by rfl)) ?_ | fail_if_success skip)
  refine N.go ?_
  refine N.callAll (cNumbers2 w hw (headB x y) x y hx hy (by omega) (head_count x y) (head_split x y) 0 2 (by decide) _ (by rfl) (by rfl)) fun v ms hR => ?_
  obtain ⟨c1, rfl, rfl⟩ := hR
  repeat' (refine N.go ?_; first | with_reducible refine N.obl (by decide) ?_ | with_reducible refine N.obl (flat_wi _ _ _) ?_ | with_reducible refine N.obl (flat_lim _ _) ?_ | with_reducible refine N.eq ?_ | with_reducible refine N.obl rfl ?_ | with_reducible refine N.obl ⟨by kernel_rfl, by kernel_rfl⟩ ?_ | with_reducible refine N.alt ?_ | with_reducible refine N.forkT ?_ | with_reducible refine N.forkF ?_ | refine N.call (cCut w hw (textB x y a b d) (headB x y) (tailB a b d) (by omega) (text_cut x y a b d) 0 _ (by rfl)) ?_ | fail_if_success skip)
  refine N.go ?_
  refine N.callAll (cNumbers3 w hw (tailB a b d) a b d ha hb hd (by omega) (tail_count a b d) (tail_split a b d) 0 3 (by decide) _ (by rfl) (by rfl)) fun v ms hR => ?_
  obtain ⟨c2, rfl, rfl⟩ := hR
  repeat' (refine N.go ?_; first | with_reducible refine N.obl (by decide) ?_ | with_reducible refine N.obl (flat_wi _ _ _) ?_ | with_reducible refine N.obl (flat_lim _ _) ?_ | with_reducible refine N.eq ?_ | with_reducible refine N.obl rfl ?_ | with_reducible refine N.obl ⟨by kernel_rfl, by kernel_rfl⟩ ?_ | with_reducible refine N.alt ?_ | with_reducible refine N.forkT ?_ | with_reducible refine N.forkF ?_ | refine N.call (cEMay _ _ _ _ _ _) ?_ | refine N.forkNo (by rw [decide_eq_true hm]; rfl) ?_ | refine N.forkYes (by rw [decide_eq_false hm]; rfl) ?_ | refine N.forkNo (by decide) ?_ | refine N.forkYes (by decide) ?_ | refine N.idx 0 0 (by decide) (by decide) ?_ | refine N.idx 1 0 (by decide) (by decide) ?_ | refine N.idx 2 0 (by decide) (by decide) ?_ | exact N.mk ⟨rfl, rfl⟩ | fail_if_success skip)
end Go.Proofs.YtdnkeeedcnjofaaGreatDoor


/-
  The document's Text.
-/
set_option linter.unusedVariables false
set_option linter.unusedSimpArgs false
namespace Go.Proofs.YtdnkeeedcnjofaaGreatDoor
open Go Go.RowKit Sx

theorem ba_nil (b : ByteArray) : ByteArray.mk #[] ++ b = b := ByteArray.ext (by rw [ByteArray.data_append]; simp)
set_option maxRecDepth 100000 in
set_option maxHeartbeats 4000000 in
theorem rtext_x (x y a b d : Int) (hx : Fits x) (hy : Fits y) (ha : Fits a) (hb : Fits b) (hd : Fits d) (W : World) (hW : TxOK W) :
    Calls Tryz.prog 8 #[.agg #[.int .i64 x, .int .i64 y, .int .i64 a, .int .i64 b, .int .i64 d]] W fun e w' => e = .returned (.string (textB x y a b d)) ∧ Below W.heap.size W w' := by
  have lx := numB_le x hx
  have ly := numB_le y hy
  have la := numB_le a ha
  have lb := numB_le b hb
  have ld := numB_le d hd
  have lc : (ByteArray.mk #[44]).size = 1 := rfl
  have ls : (ByteArray.mk #[47]).size = 1 := rfl
  have l0 : (ByteArray.mk #[]).size = 0 := rfl
  refine calls_old (G := tys) (vs := [.agg #[.int .i64 x, .int .i64 y, .int .i64 a, .int .i64 b, .int .i64 d]]) W tysOK mixed Tryz.func8 (by rfl) hW.pos rfl rfl ?_
  repeat' (refine N.go ?_; first | with_reducible refine N.obl (by decide) ?_ | with_reducible refine N.obl (flat_wi _ _ _) ?_ | with_reducible refine N.obl (flat_lim _ _) ?_ | with_reducible refine N.eq ?_ | with_reducible refine N.obl rfl ?_ | with_reducible refine N.obl ⟨by kernel_rfl, by kernel_rfl⟩ ?_ | with_reducible refine N.alt ?_ | with_reducible refine N.forkT ?_ | with_reducible refine N.forkF ?_ | refine N.roll 6 ?_ | refine N.idx 0 0 (by decide) (by decide) ?_ | refine N.idx 1 0 (by decide) (by decide) ?_ | refine N.idx 2 0 (by decide) (by decide) ?_ | refine N.idx 3 0 (by decide) (by decide) ?_ | refine N.idx 4 0 (by decide) (by decide) ?_ | refine N.call (cFmt _ hW x hx 0 _ (by rfl)) ?_ | refine N.call (cFmt _ hW y hy 0 _ (by rfl)) ?_ | refine N.call (cFmt _ hW a ha 0 _ (by rfl)) ?_ | refine N.call (cFmt _ hW b hb 0 _ (by rfl)) ?_ | refine N.call (cFmt _ hW d hd 0 _ (by rfl)) ?_ | refine N.forkNo (by decide) ?_ | refine N.forkYes (by decide) ?_ | refine N.bin _ (cat_is _ _ _ _ (by simp only [ByteArray.size_append, lc, ls, l0]; omega)) ?_ | exact N.mk ⟨by unfold textB; rw [ba_nil]; rfl, rfl⟩ | fail_if_success skip)
end Go.Proofs.YtdnkeeedcnjofaaGreatDoor


/-
  Numbers by words of 32 bits: plain laws.
-/
set_option linter.unusedVariables false
namespace Go.Proofs.YtdnkeeedcnjofaaGreatDoor
/-- The words of 32 bits of a number. -/
def bw (i : Nat) : Nat := 4294967296 ^ i
theorem bw_succ (i : Nat) : bw (i + 1) = bw i * 4294967296 := Nat.pow_succ ..
theorem bw_pos (i : Nat) : 0 < bw i := Nat.pow_pos (by decide)
theorem bw_zero : bw 0 = 1 := rfl
theorem bw_one : bw 1 = 4294967296 := rfl
theorem bw_add (i j : Nat) : bw (i + j) = bw i * bw j := Nat.pow_add ..
theorem bw_mono {i j : Nat} (h : i ≤ j) : bw i ≤ bw j := Nat.pow_le_pow_right (by decide) h
def lm (v j : Nat) : Nat := v / bw j % 4294967296
theorem lm_lt (v j : Nat) : lm v j < 4294967296 := Nat.mod_lt _ (by decide)
theorem lm_big {v j : Nat} (h : v < bw j) : lm v j = 0 := by unfold lm; rw [Nat.div_eq_of_lt h]
/-- What lies above a word: one more word. -/
theorem up_word (v j : Nat) : v / bw j = v / bw (j + 1) * 4294967296 + lm v j := by
  unfold lm
  rw [bw_succ, ← Nat.div_div_eq_div_mul]
  have := Nat.div_add_mod (v / bw j) 4294967296
  omega
theorem low_word (v j : Nat) : v % bw (j + 1) = v % bw j + lm v j * bw j := by
  unfold lm
  rw [bw_succ, Nat.mod_mul, Nat.mul_comm (bw j)]
theorem lm_mod {v i j : Nat} (h : j < i) : lm (v % bw i) j = lm v j := by
  unfold lm
  obtain ⟨d, rfl⟩ : ∃ d, i = j + 1 + d := ⟨i - (j + 1), by omega⟩
  rw [bw_add, bw_succ, Nat.mul_assoc, Nat.mod_mul_right_div_self, Nat.mod_mul_right_mod]
theorem lm_add {v j : Nat} (u : Nat) {i : Nat} (h : j < i) : lm (v + u * bw i) j = lm v j := by
  rw [← lm_mod h (v := v + u * bw i), Nat.add_mul_mod_self_right, lm_mod h]
def nl : Nat → Nat
  | 0 => 0
  | v + 1 => nl ((v + 1) / 4294967296) + 1
decreasing_by exact Nat.div_lt_self (by omega) (by decide)
theorem nl_zero : nl 0 = 0 := by unfold nl; rfl
theorem nl_pos {v : Nat} (h : 0 < v) : nl v = nl (v / 4294967296) + 1 := by
  obtain ⟨u, rfl⟩ : ∃ u, v = u + 1 := ⟨v - 1, by omega⟩
  rw [nl]
theorem nl_le : ∀ {n v : Nat}, nl v ≤ n ↔ v < bw n
  | 0, v => by
    rw [bw_zero]
    rcases Nat.eq_zero_or_pos v with rfl | h
    · rw [nl_zero]; simp
    · rw [nl_pos h]; omega
  | n + 1, v => by
    rcases Nat.eq_zero_or_pos v with rfl | h
    · rw [nl_zero]; exact ⟨fun _ => bw_pos _, fun _ => Nat.zero_le _⟩
    · rw [nl_pos h, bw_succ]
      have ih := nl_le (n := n) (v := v / 4294967296)
      rw [Nat.div_lt_iff_lt_mul (by decide)] at ih
      rw [← ih]; omega
theorem nl_self (v : Nat) : v < bw (nl v) := nl_le.1 (Nat.le_refl _)
theorem nl_eq {v n : Nat} (h1 : v < bw (n + 1)) (h2 : bw n ≤ v) : nl v = n + 1 := by
  have := nl_le.2 h1
  have h3 : ¬ nl v ≤ n := fun h => by have := nl_le.1 h; omega
  omega
theorem nl_zero_iff {v : Nat} : nl v = 0 ↔ v = 0 := by
  constructor
  · intro h
    have := nl_le.1 (Nat.le_of_eq h)
    rw [bw_zero] at this; omega
  · rintro rfl; exact nl_zero
/-- The last word of a number that is not trimmed. -/
theorem trim_word {v l : Nat} (h : v < bw (l + 1)) : lm v l = 0 ↔ v < bw l := by
  constructor
  · intro h1
    have := up_word v l
    rw [Nat.div_eq_of_lt h, h1] at this
    rcases Nat.lt_or_ge v (bw l) with h2 | h2
    · exact h2
    · have := (Nat.le_div_iff_mul_le (bw_pos l)).2 (by rw [Nat.one_mul]; exact h2)
      omega
  · exact lm_big
theorem top_word {v : Nat} (h : 0 < v) : lm v (nl v - 1) ≠ 0 := by
  have h0 : nl v ≠ 0 := fun e => by have := nl_zero_iff.1 e; omega
  have h1 := nl_self v
  rw [show nl v = nl v - 1 + 1 from by omega] at h1
  intro e
  have := nl_le.2 ((trim_word h1).1 e)
  omega
/-- One word more of a number times a word. -/
theorem mul_word (a y i : Nat) (hy : y < 4294967296) :
    let S := a % bw i * y; let t := lm a i * y + lm S i
    (∀ j, j < i → lm (a % bw (i + 1) * y) j = lm S j) ∧ lm (a % bw (i + 1) * y) i = t % 4294967296 ∧ lm (a % bw (i + 1) * y) (i + 1) = t / 4294967296 ∧ t < 18446744073709551616 ∧ (∀ j, i + 1 < j → lm (a % bw (i + 1) * y) j = 0) := by
  intro S t
  have hS : S < bw (i + 1) := by
    rw [bw_succ]
    exact Nat.lt_of_le_of_lt (Nat.mul_le_mul_left _ (Nat.le_of_lt hy)) (Nat.mul_lt_mul_of_pos_right (Nat.mod_lt _ (bw_pos i)) (by decide))
  have hT : a % bw (i + 1) * y = S + lm a i * y * bw i := by
    rw [low_word, Nat.add_mul, Nat.mul_right_comm]
  have hx := lm_lt a i
  have hSi := lm_lt S i
  have hxy : lm a i * y ≤ 4294967295 * 4294967295 := Nat.mul_le_mul (by omega) (by omega)
  have hd : (a % bw (i + 1) * y) / bw i = t := by
    rw [hT, Nat.add_mul_div_right _ _ (bw_pos i), up_word S i, Nat.div_eq_of_lt hS]
    omega
  refine ⟨fun j hj => ?_, ?_, ?_, by omega, fun j hj => ?_⟩
  · rw [hT]; exact lm_add _ hj
  · show (a % bw (i + 1) * y) / bw i % 4294967296 = _; rw [hd]
  · show (a % bw (i + 1) * y) / bw (i + 1) % 4294967296 = _
    rw [bw_succ i, ← Nat.div_div_eq_div_mul, ← bw_succ, hd]
    exact Nat.mod_eq_of_lt (by omega)
  · apply lm_big
    have h1 : a % bw (i + 1) * y < bw (i + 1) * 4294967296 :=
      Nat.lt_of_le_of_lt (Nat.mul_le_mul_left _ (Nat.le_of_lt hy)) (Nat.mul_lt_mul_of_pos_right (Nat.mod_lt _ (bw_pos _)) (by decide))
    rw [← bw_succ] at h1
    exact Nat.lt_of_lt_of_le h1 (bw_mono (by omega))
/-- One word of a quotient by a word. -/
theorem div_word (v b i : Nat) (hb : 0 < b) (hb1 : b < 4294967296) :
    let r := v / bw (i + 1) % b; let t := r * 4294967296 + lm v i
    lm (v / b) i = t / b ∧ v / bw i % b = t % b ∧ t < b * 4294967296 ∧ t / b < 4294967296 := by
  intro r t
  have hr : r < b := Nat.mod_lt _ hb
  have hx := lm_lt v i
  have ht : t < b * 4294967296 := by
    have : (r + 1) * 4294967296 ≤ b * 4294967296 := Nat.mul_le_mul_right _ hr
    omega
  have hq : t / b < 4294967296 := (Nat.div_lt_iff_lt_mul hb).2 (by rw [Nat.mul_comm]; exact ht)
  have he : v / bw i = v / bw (i + 1) / b * 4294967296 * b + t := by
    have h1 := Nat.div_add_mod (v / bw (i + 1)) b
    rw [up_word v i]
    have h2 : v / bw (i + 1) = v / bw (i + 1) / b * b + r := by rw [Nat.mul_comm]; exact h1.symm
    have h3 : v / bw (i + 1) / b * 4294967296 * b = v / bw (i + 1) / b * b * 4294967296 := Nat.mul_right_comm _ _ _
    rw [h3]
    generalize v / bw (i + 1) / b * b = q at h2 ⊢
    omega
  refine ⟨?_, ?_, ht, hq⟩
  · unfold lm
    rw [Nat.div_div_eq_div_mul, Nat.mul_comm, ← Nat.div_div_eq_div_mul, he, Nat.add_comm, Nat.add_mul_div_right _ _ hb, Nat.add_mul_mod_self_right]
    exact Nat.mod_eq_of_lt hq
  · rw [he, Nat.add_comm, Nat.add_mul_mod_self_right]
/-- One word of a sum. -/
theorem add_word (a b i : Nat) :
    let c := (a % bw i + b % bw i) / bw i; let t := c + lm a i + lm b i
    lm (a + b) i = t % 4294967296 ∧ (a % bw (i + 1) + b % bw (i + 1)) / bw (i + 1) = t / 4294967296 ∧ c ≤ 1 := by
  intro c t
  have hp := bw_pos i
  have hc : c ≤ 1 := by
    have h1 := Nat.mod_lt a hp
    have h2 := Nat.mod_lt b hp
    have : c < 2 := (Nat.div_lt_iff_lt_mul hp).2 (by omega)
    omega
  have he : (a + b) / bw i = c + a / bw i + b / bw i := by
    have h1 := Nat.div_add_mod a (bw i)
    have h2 := Nat.div_add_mod b (bw i)
    have h3 : a + b = (a % bw i + b % bw i) + (a / bw i + b / bw i) * bw i := by
      rw [Nat.add_mul, Nat.mul_comm (a / bw i), Nat.mul_comm (b / bw i)]; omega
    rw [h3, Nat.add_mul_div_right _ _ hp]; omega
  refine ⟨?_, ?_, hc⟩
  · show (a + b) / bw i % 4294967296 = (c + a / bw i % 4294967296 + b / bw i % 4294967296) % 4294967296
    rw [he]; omega
  · have h1 : (a % bw (i + 1) + b % bw (i + 1)) = (a % bw i + b % bw i) + (lm a i + lm b i) * bw i := by
      rw [low_word, low_word, Nat.add_mul]; omega
    rw [h1, bw_succ, ← Nat.div_div_eq_div_mul, Nat.add_mul_div_right _ _ hp]
    congr 1
    show c + _ = _
    omega
end Go.Proofs.YtdnkeeedcnjofaaGreatDoor


/-
  The walks of the document's numbers: trim, bits, cmp.
-/
set_option linter.unusedVariables false
set_option linter.unusedSimpArgs false
namespace Go.Proofs.YtdnkeeedcnjofaaGreatDoor
open Go Go.RowKit Sx

theorem i64n (n : Int) (h0 : -9223372036854775808 ≤ n) (h1 : n < 9223372036854775808) : IntKind.i64.wrap n = n := by rw [IntKind.wrap_i64]; omega
theorem re_eqn {ix : List (Nat × Nat)} {v u : Value} (h : v = u) (hp : plain3 v = true) : Re ix v u := by subst h; exact .plain hp
theorem inteq {k : IntKind} {a b : Int} (h : a = b) : Value.int k a = .int k b := by rw [h]
theorem re_sl {ix : List (Nat × Nat)} {i k l l' c : Nat} (h : ixK ix k = some i) (e : l = l') : Re ix (.slice (some ⟨i, 0, some 0⟩) l c) (.slice (some ⟨k, 0, some 0⟩) l' c) := by subst e; exact .one (.slice h)
theorem MakeN.mk1 {a b : Int} {bytes size : Nat} {K : Nat → Nat → Prop} {K0 : Prop} (n m : Nat) (ha : a = (n : Nat)) (hb : b = (n : Nat)) (h1 : bytes * n ≤ 281474976710656) (h2 : n ≤ 9223372036854775807) (hm : m = n * size) (k : K n m) : N (MakeN a b bytes size K K0) := N.mk (.inl ⟨n, m, ha, hb, h1, h2, hm, k⟩)
/-- Words of a number, m of them. -/
abbrev numC (o : Bool) (m v : Nat) : Chunk := ⟨o, m, [(0, m, .agg ⟨segL m (fun j => .int .u32 ((lm v j : Nat) : Int))⟩)]⟩
/-- A stretch that holds the words of a number. -/
def IsNum (c : Chunk) (m v : Nat) : Prop := c.n = m ∧ ∀ j, j < m → c.f j = .int .u32 ((lm v j : Nat) : Int)
theorem isNum (o : Bool) (m v : Nat) : IsNum (numC o m v) m v := ⟨rfl, fun j hj => seg_cell hj⟩
theorem num_re {ix : List (Nat × Nat)} {c : Chunk} {o : Bool} {m v : Nat} (hc : IsNum c m v) : ChunkRe ix c (numC o m v) := fun j hj => by
  have hj : j < m := hj
  rw [seg_cell hj, hc.2 j hj]; exact .plain rfl
theorem reads_num {o : Bool} {m v p q : Nat} (h : p < m) (e : q = p) : Reads (numC o m v) q false 1 (.int .u32 ((lm v p : Nat) : Int)) := by
  subst e; exact reads_seg1 h rfl rfl
theorem N.bnd {lo hi : Option Value} {len cap : Nat} {K : Nat → Nat → Nat → Prop} (p q s : Nat) (h1 : Bnd hi len cap q) (h2 : Bnd lo 0 q p) (k : K p q s) : N (BndN lo hi len cap K) := N.mk ⟨p, q, s, h1, h2, k⟩
theorem sl_cut {i m x y : Nat} (h : y = x) : Value.slice (some ⟨i, 0 + (if m = 0 then 0 else 0 * 1), some 0⟩) (y - 0) (m - 0) = .slice (some ⟨i, 0, some 0⟩) x m := by
  subst h; simp
set_option maxRecDepth 100000 in
set_option maxHeartbeats 2000000 in
theorem cTrim (v m l i : Nat) (o : Chunk) (h : List (Option Chunk)) (hi : h[i]? = some (some o)) (hin : IsNum o m v) (hl : l ≤ m) (hm : m ≤ 1000000) (hv : v < bw l) :
    CallOK Tryz.prog 92 [.slice (some ⟨i, 0, some 0⟩) l m] h (.slice (some ⟨i, 0, some 0⟩) (nl v) m) [] [i] := by
  refine call_sub (G := tys) [⟨i, _, numC false m v, ⟨false, 0, []⟩⟩] [] [.slice (some ⟨0, 0, some 0⟩) l m] tysOK mixed Tryz.func92 (by rfl) (Tryz.call92) ⟨hi, trivial⟩ ⟨⟨fun h => (by cases h), Nat.le_of_eq hin.1.symm, num_re hin⟩, trivial⟩ (by simp [Apart]) trivial ⟨.slice rfl, trivial⟩ ?_
  repeat' (refine N.go ?_; first | with_reducible refine N.obl (by decide) ?_ | with_reducible refine N.obl (flat_wi _ _ _) ?_ | with_reducible refine N.obl (flat_lim _ _) ?_ | with_reducible refine N.eq ?_ | with_reducible refine N.obl rfl ?_ | with_reducible refine N.obl ⟨by kernel_rfl, by kernel_rfl⟩ ?_ | with_reducible refine N.alt ?_ | with_reducible refine N.forkT ?_ | with_reducible refine N.forkF ?_ | fail_if_success skip)
  refine N.go ?_
  refine N.loop (α := Nat) (fun x => x ≤ l ∧ v < bw x) (fun x => x) (fun x => [(0, .slice (some ⟨0, 0, some 0⟩) x m)]) (fun _ => []) l ⟨Nat.le_refl _, hv⟩ ?_ ?_
  · repeat (refine N.go ?_; first | exact N.true | with_reducible refine N.obl rfl ?_ | with_reducible refine N.obl (ChunkLe.refl _) ?_ | refine N.obl (int_i64 (by rw [IntWalk.i64_in _ (by omega)]; rfl)) ?_ |  fail_if_success skip)
  · intro x hx
    obtain ⟨x1, x2⟩ := hx
    rcases Nat.eq_zero_or_pos x with rfl | hp
    · have hv0 : v = 0 := by rw [bw_zero] at x2; omega
      subst hv0
      repeat' (refine N.go ?_; first | with_reducible refine N.obl (by decide) ?_ | with_reducible refine N.obl (flat_wi _ _ _) ?_ | with_reducible refine N.obl (flat_lim _ _) ?_ | with_reducible refine N.eq ?_ | with_reducible refine N.obl rfl ?_ | with_reducible refine N.obl ⟨by kernel_rfl, by kernel_rfl⟩ ?_ | with_reducible refine N.alt ?_ | with_reducible refine N.forkT ?_ | with_reducible refine N.forkF ?_ | refine N.forkNo (by decide) ?_ | refine N.forkYes (by decide) ?_ | refine N.obl (re_sl (by rfl) nl_zero) ?_ | refine N.obl trivial ?_ | exact N.true | fail_if_success skip)
    · obtain ⟨y, rfl⟩ : ∃ y, x = y + 1 := ⟨x - 1, by omega⟩
      have e1 : IntKind.i64.wrap (((y + 1 : Nat) : Int) - 1) = (y : Int) := by rw [i64n _ (by omega) (by omega)]; omega
      by_cases h0 : lm v y = 0
      · have x3 := (trim_word x2).1 h0
        repeat' (refine N.go ?_; first | with_reducible refine N.obl (by decide) ?_ | with_reducible refine N.obl (flat_wi _ _ _) ?_ | with_reducible refine N.obl (flat_lim _ _) ?_ | with_reducible refine N.eq ?_ | with_reducible refine N.obl rfl ?_ | with_reducible refine N.obl ⟨by kernel_rfl, by kernel_rfl⟩ ?_ | with_reducible refine N.alt ?_ | with_reducible refine N.forkT ?_ | with_reducible refine N.forkF ?_ | refine N.idx y 1 e1 (by omega) ?_ | refine N.load _ (reads_num (p := y) (by omega) (by omega)) ?_ | refine N.forkYes (by rw [h0]; rfl) ?_ | refine N.forkYes (by rw [decide_eq_true_eq]; omega) ?_ | refine N.bnd 0 y 0 ⟨e1, by omega⟩ rfl ?_ | fail_if_success skip)
        refine N.go ?_
        refine N.next y ⟨⟨by omega, x3⟩, by omega⟩ ?_
        repeat (refine N.go ?_; first | exact N.true | with_reducible refine N.obl rfl ?_ | with_reducible refine N.obl (ChunkLe.refl _) ?_ | refine N.obl (int_i64 (by rw [IntWalk.i64_in _ (by omega)]; rfl)) ?_ | refine N.obl (sl_cut rfl) ?_ |  fail_if_success skip)
      · have x3 : nl v = y + 1 := nl_eq x2 (by rcases Nat.lt_or_ge v (bw y) with h | h; exact absurd (lm_big h) h0; exact h)
        repeat' (refine N.go ?_; first | with_reducible refine N.obl (by decide) ?_ | with_reducible refine N.obl (flat_wi _ _ _) ?_ | with_reducible refine N.obl (flat_lim _ _) ?_ | with_reducible refine N.eq ?_ | with_reducible refine N.obl rfl ?_ | with_reducible refine N.obl ⟨by kernel_rfl, by kernel_rfl⟩ ?_ | with_reducible refine N.alt ?_ | with_reducible refine N.forkT ?_ | with_reducible refine N.forkF ?_ | refine N.idx y 1 e1 (by omega) ?_ | refine N.load _ (reads_num (p := y) (by omega) (by omega)) ?_ | refine N.forkNo (by rw [beq_eq_false_iff_ne]; omega) ?_ | refine N.forkYes (by rw [decide_eq_true_eq]; omega) ?_ | refine N.obl (re_sl (by rfl) x3) ?_ | refine N.obl trivial ?_ | exact N.true | fail_if_success skip)
/-- How many bits a word has. -/
def bn : Nat → Nat
  | 0 => 0
  | v + 1 => bn ((v + 1) / 2) + 1
decreasing_by exact Nat.div_lt_self (by omega) (by decide)
theorem bn_zero : bn 0 = 0 := by unfold bn; rfl
theorem bn_pos {v : Nat} (h : 0 < v) : bn v = bn (v / 2) + 1 := by
  obtain ⟨u, rfl⟩ : ∃ u, v = u + 1 := ⟨v - 1, by omega⟩
  rw [bn]
theorem bn_le : ∀ (n v : Nat), v < 2 ^ n → bn v ≤ n
  | 0, v, h => by
    obtain rfl : v = 0 := by simpa using h
    rw [bn_zero]; exact Nat.le_refl _
  | n + 1, v, h => by
    rcases Nat.eq_zero_or_pos v with rfl | hv
    · rw [bn_zero]; exact Nat.zero_le _
    · rw [bn_pos hv]
      have := bn_le n (v / 2) (by rw [Nat.pow_succ] at h; omega)
      omega
theorem fd1 (n : Nat) : ((n : Nat) : Int).fdiv (2 ^ sh 1 IntKind.u32) = ((n / 2 : Nat) : Int) := by
  rw [show sh 1 IntKind.u32 = 1 from by decide, Int.fdiv_eq_ediv_of_nonneg _ (by decide)]; omega
theorem fd32 (n : Nat) : ((n : Nat) : Int).fdiv (2 ^ sh 32 IntKind.u64) = ((n / 4294967296 : Nat) : Int) := by
  rw [show sh 32 IntKind.u64 = 32 from by decide, Int.fdiv_eq_ediv_of_nonneg _ (by decide)]; omega
def bitn (v : Nat) : Nat := if v = 0 then 0 else 32 * (nl v - 1) + bn (lm v (nl v - 1))
theorem bitn_le (v : Nat) : bitn v ≤ 32 * nl v := by
  unfold bitn
  split
  · exact Nat.zero_le _
  · rename_i h
    have h0 : nl v ≠ 0 := fun e => h (nl_zero_iff.1 e)
    have := bn_le 32 (lm v (nl v - 1)) (lm_lt v _)
    omega
set_option maxRecDepth 100000 in
set_option maxHeartbeats 2000000 in
theorem cBits32 (v m i : Nat) (o : Chunk) (h : List (Option Chunk)) (hi : h[i]? = some (some o)) (hin : IsNum o m v) (hl : nl v ≤ m) (hm : m ≤ 1000000) :
    CallOK Tryz.prog 93 [.slice (some ⟨i, 0, some 0⟩) (nl v) m] h (.int .i64 (bitn v : Nat)) [] [i] := by
  refine call_sub (G := tys) [⟨i, _, numC false m v, ⟨false, 0, []⟩⟩] [] [.slice (some ⟨0, 0, some 0⟩) (nl v) m] tysOK mixed Tryz.func93 (by rfl) (Tryz.call93) ⟨hi, trivial⟩ ⟨⟨fun h => (by cases h), Nat.le_of_eq hin.1.symm, num_re hin⟩, trivial⟩ (by simp [Apart]) trivial ⟨.slice rfl, trivial⟩ ?_
  rcases Nat.eq_zero_or_pos v with rfl | hp
  · rw [nl_zero]
    repeat' (refine N.go ?_; first | with_reducible refine N.obl (by decide) ?_ | with_reducible refine N.obl (flat_wi _ _ _) ?_ | with_reducible refine N.obl (flat_lim _ _) ?_ | with_reducible refine N.eq ?_ | with_reducible refine N.obl rfl ?_ | with_reducible refine N.obl ⟨by kernel_rfl, by kernel_rfl⟩ ?_ | with_reducible refine N.alt ?_ | with_reducible refine N.forkT ?_ | with_reducible refine N.forkF ?_ | refine N.forkNo (by decide) ?_ | refine N.forkYes (by decide) ?_ | refine N.obl (re_eqn (inteq (by decide)) rfl) ?_ | refine N.obl trivial ?_ | exact N.true | fail_if_success skip)
  · have h0 : nl v ≠ 0 := fun e => by have := nl_zero_iff.1 e; omega
    have hbv : bitn v = 32 * (nl v - 1) + bn (lm v (nl v - 1)) := by unfold bitn; rw [if_neg (by omega)]
    have htop := lm_lt v (nl v - 1)
    obtain ⟨y, hy⟩ : ∃ y, nl v = y + 1 := ⟨nl v - 1, by omega⟩
    rw [hy] at hbv htop
    rw [show y + 1 - 1 = y from by omega] at hbv htop
    rw [hbv, hy]
    rw [hy] at hl
    generalize hT : lm v y = T at *
    have hbT := bn_le 32 T htop
    have e1 : IntKind.i64.wrap (((y + 1 : Nat) : Int) - 1) = (y : Int) := by rw [i64n _ (by omega) (by omega)]; omega
    repeat' (refine N.go ?_; first | with_reducible refine N.obl (by decide) ?_ | with_reducible refine N.obl (flat_wi _ _ _) ?_ | with_reducible refine N.obl (flat_lim _ _) ?_ | with_reducible refine N.eq ?_ | with_reducible refine N.obl rfl ?_ | with_reducible refine N.obl ⟨by kernel_rfl, by kernel_rfl⟩ ?_ | with_reducible refine N.alt ?_ | with_reducible refine N.forkT ?_ | with_reducible refine N.forkF ?_ | refine N.forkNo (by rw [beq_eq_false_iff_ne]; omega) ?_ | refine N.idx y 1 e1 (by omega) ?_ | refine N.load _ (reads_num (p := y) (by omega) (by omega)) ?_ | fail_if_success skip)
    refine N.go ?_
    refine N.loop (α := Nat) (fun x => x < 4294967296 ∧ bn x ≤ bn T) (fun x => x) (fun x => [(3, .int .i64 ((32 * y + (bn T - bn x) : Nat) : Int)), (4, .int .u32 (x : Int))]) (fun _ => []) T ⟨htop, Nat.le_refl _⟩ ?_ ?_
    · repeat (refine N.go ?_; first | exact N.true | with_reducible refine N.obl rfl ?_ | with_reducible refine N.obl (ChunkLe.refl _) ?_ | refine N.obl (int_i64 (by rw [IntWalk.i64_in _ (by omega)]; rfl)) ?_ | refine N.obl (inteq (by rw [e1, i64n _ (by omega) (by omega)]; omega)) ?_ | refine N.obl (inteq (by rw [hT])) ?_ |  fail_if_success skip)
    · intro x hx
      obtain ⟨x1, x2⟩ := hx
      rcases Nat.eq_zero_or_pos x with rfl | hp
      · repeat' (refine N.go ?_; first | with_reducible refine N.obl (by decide) ?_ | with_reducible refine N.obl (flat_wi _ _ _) ?_ | with_reducible refine N.obl (flat_lim _ _) ?_ | with_reducible refine N.eq ?_ | with_reducible refine N.obl rfl ?_ | with_reducible refine N.obl ⟨by kernel_rfl, by kernel_rfl⟩ ?_ | with_reducible refine N.alt ?_ | with_reducible refine N.forkT ?_ | with_reducible refine N.forkF ?_ | refine N.forkNo (by decide) ?_ | refine N.forkYes (by decide) ?_ | refine N.obl (re_eqn (inteq (by rw [bn_zero]; omega)) rfl) ?_ | refine N.obl trivial ?_ | exact N.true | fail_if_success skip)
      · have e2 := bn_pos hp
        repeat' (refine N.go ?_; first | with_reducible refine N.obl (by decide) ?_ | with_reducible refine N.obl (flat_wi _ _ _) ?_ | with_reducible refine N.obl (flat_lim _ _) ?_ | with_reducible refine N.eq ?_ | with_reducible refine N.obl rfl ?_ | with_reducible refine N.obl ⟨by kernel_rfl, by kernel_rfl⟩ ?_ | with_reducible refine N.alt ?_ | with_reducible refine N.forkT ?_ | with_reducible refine N.forkF ?_ | refine N.forkNo (by simp; omega) ?_ | refine N.forkYes (by simp; omega) ?_ | fail_if_success skip)
        refine N.go ?_
        refine N.next (x / 2) ⟨⟨by omega, by omega⟩, by omega⟩ ?_
        repeat (refine N.go ?_; first | exact N.true | with_reducible refine N.obl rfl ?_ | with_reducible refine N.obl (ChunkLe.refl _) ?_ | refine N.obl (int_i64 (by rw [IntWalk.i64_in _ (by omega)]; rfl)) ?_ | refine N.obl (inteq (fd1 x)) ?_ | refine N.obl (inteq (by rw [i64n _ (by omega) (by omega)]; omega)) ?_ |  fail_if_success skip)
theorem cmp_word {a b y : Nat} (h : a / bw (y + 1) = b / bw (y + 1)) : (lm a y < lm b y → a < b) ∧ (lm a y = lm b y → a / bw y = b / bw y) := by
  have h1 := up_word a y
  have h2 := up_word b y
  refine ⟨fun h3 => ?_, fun h3 => by omega⟩
  have h4 : a / bw y < b / bw y := by omega
  rcases Nat.lt_or_ge a b with h5 | h5
  · exact h5
  · have := Nat.div_le_div_right (c := bw y) h5; omega
theorem nl_lt {a b : Nat} (h : nl a < nl b) : a < b := by
  have h1 := nl_self a
  rcases Nat.lt_or_ge b (bw (nl a)) with h2 | h2
  · have := nl_le.2 h2; omega
  · omega
def cmpN (a b : Nat) : Int := if a < b then -1 else if a = b then 0 else 1
set_option maxRecDepth 100000 in
set_option maxHeartbeats 2000000 in
theorem cCmp (a b m q i j : Nat) (o o2 : Chunk) (h : List (Option Chunk)) (hi : h[i]? = some (some o)) (hin : IsNum o m a) (hj : h[j]? = some (some o2)) (hjn : IsNum o2 q b) (hl : nl a ≤ m) (hm : m ≤ 1000000) (hl2 : nl b ≤ q) (hq : q ≤ 1000000) :
    CallOK Tryz.prog 101 [.slice (some ⟨i, 0, some 0⟩) (nl a) m, .slice (some ⟨j, 0, some 0⟩) (nl b) q] h (.int .i64 (cmpN a b)) [] [i, j] := by
  refine call_sub (G := tys) [⟨i, _, numC false m a, ⟨false, 0, []⟩⟩, ⟨j, _, numC false q b, ⟨false, 0, []⟩⟩] [] [.slice (some ⟨0, 0, some 0⟩) (nl a) m, .slice (some ⟨1, 0, some 0⟩) (nl b) q] tysOK mixed Tryz.func101 (by rfl) (Tryz.call101) ⟨hi, hj, trivial⟩ ⟨⟨fun h => (by cases h), Nat.le_of_eq hin.1.symm, num_re hin⟩, ⟨fun h => (by cases h), Nat.le_of_eq hjn.1.symm, num_re hjn⟩, trivial⟩ (by simp [Apart]) trivial ⟨.slice rfl, .slice rfl, trivial⟩ ?_
  by_cases hne : nl a = nl b
  · repeat' (refine N.go ?_; first | with_reducible refine N.obl (by decide) ?_ | with_reducible refine N.obl (flat_wi _ _ _) ?_ | with_reducible refine N.obl (flat_lim _ _) ?_ | with_reducible refine N.eq ?_ | with_reducible refine N.obl rfl ?_ | with_reducible refine N.obl ⟨by kernel_rfl, by kernel_rfl⟩ ?_ | with_reducible refine N.alt ?_ | with_reducible refine N.forkT ?_ | with_reducible refine N.forkF ?_ | refine N.forkNo (by rw [hne]; simp) ?_ | fail_if_success skip)
    refine N.go ?_
    refine N.loop (α := Nat) (fun c => c ≤ nl a ∧ a / bw c = b / bw c) (fun x => x) (fun x => [(5, .int .i64 ((x : Int) - 1))]) (fun _ => []) (nl a) ⟨Nat.le_refl _, by rw [Nat.div_eq_of_lt (nl_self a), hne, Nat.div_eq_of_lt (nl_self b)]⟩ ?_ ?_
    · repeat (refine N.go ?_; first | exact N.true | with_reducible refine N.obl rfl ?_ | with_reducible refine N.obl (ChunkLe.refl _) ?_ | refine N.obl (int_i64 (by rw [IntWalk.i64_in _ (by omega)]; rfl)) ?_ | refine N.obl (inteq (by rw [i64n _ (by omega) (by omega)])) ?_ |  fail_if_success skip)
    · intro c hc
      obtain ⟨c1, c2⟩ := hc
      rcases Nat.eq_zero_or_pos c with rfl | hp
      · have he : a = b := by rw [bw_zero, Nat.div_one, Nat.div_one] at c2; exact c2
        have hr : cmpN a b = 0 := by unfold cmpN; rw [if_neg (by omega), if_pos he]
        repeat' (refine N.go ?_; first | with_reducible refine N.obl (by decide) ?_ | with_reducible refine N.obl (flat_wi _ _ _) ?_ | with_reducible refine N.obl (flat_lim _ _) ?_ | with_reducible refine N.eq ?_ | with_reducible refine N.obl rfl ?_ | with_reducible refine N.obl ⟨by kernel_rfl, by kernel_rfl⟩ ?_ | with_reducible refine N.alt ?_ | with_reducible refine N.forkT ?_ | with_reducible refine N.forkF ?_ | refine N.forkNo (by decide) ?_ | refine N.forkYes (by decide) ?_ | refine N.forkYes (by rw [decide_eq_true_eq]; omega) ?_ | refine N.forkNo (by rw [decide_eq_false_iff_not]; omega) ?_ | refine N.obl (re_eqn (inteq hr) rfl) ?_ | refine N.obl trivial ?_ | exact N.true | fail_if_success skip)
      · obtain ⟨y, rfl⟩ : ∃ y, c = y + 1 := ⟨c - 1, by omega⟩
        have e1 : (((y + 1 : Nat) : Int) - 1) = (y : Int) := by omega
        have cw := cmp_word c2
        have cw2 := (cmp_word c2.symm).1
        by_cases h1 : lm a y = lm b y
        · repeat' (refine N.go ?_; first | with_reducible refine N.obl (by decide) ?_ | with_reducible refine N.obl (flat_wi _ _ _) ?_ | with_reducible refine N.obl (flat_lim _ _) ?_ | with_reducible refine N.eq ?_ | with_reducible refine N.obl rfl ?_ | with_reducible refine N.obl ⟨by kernel_rfl, by kernel_rfl⟩ ?_ | with_reducible refine N.alt ?_ | with_reducible refine N.forkT ?_ | with_reducible refine N.forkF ?_ | refine N.idx y 1 e1 (by omega) ?_ | refine N.load _ (reads_num (p := y) (by omega) (by omega)) ?_ | refine N.forkYes (by rw [decide_eq_true_eq]; omega) ?_ | refine N.forkNo (by rw [decide_eq_false_iff_not]; omega) ?_ | refine N.forkNo (by rw [h1]; simp) ?_ | fail_if_success skip)
          refine N.go ?_
          refine N.next y ⟨⟨by omega, cw.2 h1⟩, by omega⟩ ?_
          repeat (refine N.go ?_; first | exact N.true | with_reducible refine N.obl rfl ?_ | with_reducible refine N.obl (ChunkLe.refl _) ?_ | refine N.obl (int_i64 (by rw [IntWalk.i64_in _ (by omega)]; rfl)) ?_ | refine N.obl (inteq (by rw [i64n _ (by omega) (by omega)]; omega)) ?_ |  fail_if_success skip)
        · rcases Nat.lt_or_ge (lm a y) (lm b y) with h2 | h2
          · have hr : cmpN a b = -1 := by unfold cmpN; rw [if_pos (cw.1 h2)]
            repeat' (refine N.go ?_; first | with_reducible refine N.obl (by decide) ?_ | with_reducible refine N.obl (flat_wi _ _ _) ?_ | with_reducible refine N.obl (flat_lim _ _) ?_ | with_reducible refine N.eq ?_ | with_reducible refine N.obl rfl ?_ | with_reducible refine N.obl ⟨by kernel_rfl, by kernel_rfl⟩ ?_ | with_reducible refine N.alt ?_ | with_reducible refine N.forkT ?_ | with_reducible refine N.forkF ?_ | refine N.idx y 1 e1 (by omega) ?_ | refine N.load _ (reads_num (p := y) (by omega) (by omega)) ?_ | refine N.forkYes (by rw [decide_eq_true_eq]; omega) ?_ | refine N.forkNo (by rw [decide_eq_false_iff_not]; omega) ?_ | refine N.forkYes (by simp; omega) ?_ | refine N.forkNo (by simp; omega) ?_ | refine N.obl (re_eqn (inteq hr) rfl) ?_ | refine N.obl trivial ?_ | exact N.true | fail_if_success skip)
          · have := cw2 (by omega)
            have hr : cmpN a b = 1 := by unfold cmpN; rw [if_neg (by omega), if_neg (by omega)]
            repeat' (refine N.go ?_; first | with_reducible refine N.obl (by decide) ?_ | with_reducible refine N.obl (flat_wi _ _ _) ?_ | with_reducible refine N.obl (flat_lim _ _) ?_ | with_reducible refine N.eq ?_ | with_reducible refine N.obl rfl ?_ | with_reducible refine N.obl ⟨by kernel_rfl, by kernel_rfl⟩ ?_ | with_reducible refine N.alt ?_ | with_reducible refine N.forkT ?_ | with_reducible refine N.forkF ?_ | refine N.idx y 1 e1 (by omega) ?_ | refine N.load _ (reads_num (p := y) (by omega) (by omega)) ?_ | refine N.forkYes (by rw [decide_eq_true_eq]; omega) ?_ | refine N.forkNo (by rw [decide_eq_false_iff_not]; omega) ?_ | refine N.forkYes (by simp; omega) ?_ | refine N.forkNo (by simp; omega) ?_ | refine N.obl (re_eqn (inteq hr) rfl) ?_ | refine N.obl trivial ?_ | exact N.true | fail_if_success skip)
  · rcases Nat.lt_or_ge (nl a) (nl b) with h2 | h2
    · have := nl_lt h2
      have hr : cmpN a b = -1 := by unfold cmpN; rw [if_pos (by omega)]
      repeat' (refine N.go ?_; first | with_reducible refine N.obl (by decide) ?_ | with_reducible refine N.obl (flat_wi _ _ _) ?_ | with_reducible refine N.obl (flat_lim _ _) ?_ | with_reducible refine N.eq ?_ | with_reducible refine N.obl rfl ?_ | with_reducible refine N.obl ⟨by kernel_rfl, by kernel_rfl⟩ ?_ | with_reducible refine N.alt ?_ | with_reducible refine N.forkT ?_ | with_reducible refine N.forkF ?_ | refine N.forkYes (by rw [decide_eq_true_eq]; omega) ?_ | refine N.forkNo (by rw [decide_eq_false_iff_not]; omega) ?_ | refine N.forkYes (by simp; omega) ?_ | refine N.forkNo (by simp; omega) ?_ | refine N.obl (re_eqn (inteq hr) rfl) ?_ | refine N.obl trivial ?_ | exact N.true | fail_if_success skip)
    · have := nl_lt (show nl b < nl a by omega)
      have hr : cmpN a b = 1 := by unfold cmpN; rw [if_neg (by omega), if_neg (by omega)]
      repeat' (refine N.go ?_; first | with_reducible refine N.obl (by decide) ?_ | with_reducible refine N.obl (flat_wi _ _ _) ?_ | with_reducible refine N.obl (flat_lim _ _) ?_ | with_reducible refine N.eq ?_ | with_reducible refine N.obl rfl ?_ | with_reducible refine N.obl ⟨by kernel_rfl, by kernel_rfl⟩ ?_ | with_reducible refine N.alt ?_ | with_reducible refine N.forkT ?_ | with_reducible refine N.forkF ?_ | refine N.forkYes (by rw [decide_eq_true_eq]; omega) ?_ | refine N.forkNo (by rw [decide_eq_false_iff_not]; omega) ?_ | refine N.forkYes (by simp; omega) ?_ | refine N.forkNo (by simp; omega) ?_ | refine N.obl (re_eqn (inteq hr) rfl) ?_ | refine N.obl trivial ?_ | exact N.true | fail_if_success skip)
end Go.Proofs.YtdnkeeedcnjofaaGreatDoor


/-
  The walks of the document's numbers: made, Of, times, plus, quo.
-/
set_option linter.unusedVariables false
set_option linter.unusedSimpArgs false
namespace Go.Proofs.YtdnkeeedcnjofaaGreatDoor
open Go Go.RowKit Sx

theorem re_big {ix : List (Nat × Nat)} {i k l l' c : Nat} {r b : Bool} (h : ixK ix k = some i) (e : b = r) (e2 : l = l') : Re ix (.agg ⟨[.bool r, .bool false, .slice (some ⟨i, 0, some 0⟩) l c]⟩) (.agg ⟨[.bool b, .bool false, .slice (some ⟨k, 0, some 0⟩) l' c]⟩) := by
  subst e e2; exact .one (.agg ⟨.plain rfl, .plain rfl, .slice h, trivial⟩)
set_option maxRecDepth 100000 in
set_option maxHeartbeats 2000000 in
theorem cMade32 (v m l i : Nat) (s r : Bool) (hr : r = (s && decide (0 < v))) (o : Chunk) (h : List (Option Chunk)) (hi : h[i]? = some (some o)) (hin : IsNum o m v) (hl : l ≤ m) (hm : m ≤ 31) (hv : v < bw l) :
    CallOK Tryz.prog 65 [.bool s, .slice (some ⟨i, 0, some 0⟩) l m] h (.agg #[.bool r, .bool false, .slice (some ⟨i, 0, some 0⟩) (nl v) m]) [] [i] := by
  have hn : nl v ≤ l := nl_le.2 hv
  have hb := bitn_le v
  refine call_sub (G := tys) [⟨i, _, numC false m v, ⟨false, 0, []⟩⟩] [] [.bool s, .slice (some ⟨0, 0, some 0⟩) l m] tysOK mixed Tryz.func65 (by rfl) (Tryz.call65) ⟨hi, trivial⟩ ⟨⟨fun h => (by cases h), Nat.le_of_eq hin.1.symm, num_re hin⟩, trivial⟩ (by simp [Apart]) trivial ⟨.plain rfl, .slice rfl, trivial⟩ ?_
  cases s with
  | false =>
    rw [Bool.false_and] at hr; subst hr
    repeat' (refine N.go ?_; first | with_reducible refine N.obl (by decide) ?_ | with_reducible refine N.obl (flat_wi _ _ _) ?_ | with_reducible refine N.obl (flat_lim _ _) ?_ | with_reducible refine N.eq ?_ | with_reducible refine N.obl rfl ?_ | with_reducible refine N.obl ⟨by kernel_rfl, by kernel_rfl⟩ ?_ | with_reducible refine N.alt ?_ | with_reducible refine N.forkT ?_ | with_reducible refine N.forkF ?_ | refine N.call (cTrim v m l _ _ _ (by rfl) (isNum _ _ _) hl (by omega) hv) ?_ | refine N.call (cBits32 v m _ _ _ (by rfl) (isNum _ _ _) (by omega) (by omega)) ?_ | refine N.forkNo (by decide) ?_ | refine N.forkYes (by decide) ?_ | refine N.forkYes (by rw [decide_eq_true_eq]; omega) ?_ | refine N.forkNo (by rw [decide_eq_false_iff_not]; omega) ?_ | refine N.obl (.one (.agg ⟨.plain (by rfl), .plain rfl, .slice (by rfl), trivial⟩)) ?_ | refine N.obl trivial ?_ | exact N.true | fail_if_success skip)
  | true =>
    rw [Bool.true_and] at hr
    rcases Nat.eq_zero_or_pos v with hz | hp
    · have hr : r = false := by rw [hr, hz]; rfl
      subst hr
      have h0 : nl v = 0 := nl_zero_iff.2 hz
      repeat' (refine N.go ?_; first | with_reducible refine N.obl (by decide) ?_ | with_reducible refine N.obl (flat_wi _ _ _) ?_ | with_reducible refine N.obl (flat_lim _ _) ?_ | with_reducible refine N.eq ?_ | with_reducible refine N.obl rfl ?_ | with_reducible refine N.obl ⟨by kernel_rfl, by kernel_rfl⟩ ?_ | with_reducible refine N.alt ?_ | with_reducible refine N.forkT ?_ | with_reducible refine N.forkF ?_ | refine N.call (cTrim v m l _ _ _ (by rfl) (isNum _ _ _) hl (by omega) hv) ?_ | refine N.call (cBits32 v m _ _ _ (by rfl) (isNum _ _ _) (by omega) (by omega)) ?_ | refine N.forkNo (by decide) ?_ | refine N.forkYes (by decide) ?_ | refine N.forkYes (by rw [decide_eq_true_eq]; omega) ?_ | refine N.forkNo (by rw [decide_eq_false_iff_not]; omega) ?_ | refine N.obl (re_big (by rfl) (by rw [decide_eq_false_iff_not]; omega) rfl) ?_ | refine N.obl trivial ?_ | exact N.true | fail_if_success skip)
    · rw [decide_eq_true hp] at hr
      subst hr
      have h0 : nl v ≠ 0 := fun e => by have := nl_zero_iff.1 e; omega
      repeat' (refine N.go ?_; first | with_reducible refine N.obl (by decide) ?_ | with_reducible refine N.obl (flat_wi _ _ _) ?_ | with_reducible refine N.obl (flat_lim _ _) ?_ | with_reducible refine N.eq ?_ | with_reducible refine N.obl rfl ?_ | with_reducible refine N.obl ⟨by kernel_rfl, by kernel_rfl⟩ ?_ | with_reducible refine N.alt ?_ | with_reducible refine N.forkT ?_ | with_reducible refine N.forkF ?_ | refine N.call (cTrim v m l _ _ _ (by rfl) (isNum _ _ _) hl (by omega) hv) ?_ | refine N.call (cBits32 v m _ _ _ (by rfl) (isNum _ _ _) (by omega) (by omega)) ?_ | refine N.forkNo (by decide) ?_ | refine N.forkYes (by decide) ?_ | refine N.forkYes (by rw [decide_eq_true_eq]; omega) ?_ | refine N.forkNo (by rw [decide_eq_false_iff_not]; omega) ?_ | refine N.obl (re_big (by rfl) (by rw [decide_eq_true_eq]; omega) rfl) ?_ | refine N.obl trivial ?_ | exact N.true | fail_if_success skip)
theorem trimnil_x (w : World) : Calls Tryz.prog 92 #[.slice none 0 0] w fun e w' => e = .returned (.slice none 0 0) ∧ Below w.heap.size w w' := by
  refine calls_pure (G := tys) w tysOK mixed Tryz.func92 (by rfl) (by rfl) (by rfl) ?_
  repeat' (refine N.go ?_; first | with_reducible refine N.obl (by decide) ?_ | with_reducible refine N.obl (flat_wi _ _ _) ?_ | with_reducible refine N.obl (flat_lim _ _) ?_ | with_reducible refine N.eq ?_ | with_reducible refine N.obl rfl ?_ | with_reducible refine N.obl ⟨by kernel_rfl, by kernel_rfl⟩ ?_ | with_reducible refine N.alt ?_ | with_reducible refine N.forkT ?_ | with_reducible refine N.forkF ?_ | refine N.roll 1 ?_ | refine N.forkNo (by decide) ?_ | refine N.forkYes (by decide) ?_ | fail_if_success skip)
  all_goals rfl
theorem bitsnil_x (w : World) : Calls Tryz.prog 93 #[.slice none 0 0] w fun e w' => e = .returned (.int .i64 0) ∧ Below w.heap.size w w' := by
  refine calls_pure (G := tys) w tysOK mixed Tryz.func93 (by rfl) (by rfl) (by rfl) ?_
  repeat' (refine N.go ?_; first | with_reducible refine N.obl (by decide) ?_ | with_reducible refine N.obl (flat_wi _ _ _) ?_ | with_reducible refine N.obl (flat_lim _ _) ?_ | with_reducible refine N.eq ?_ | with_reducible refine N.obl rfl ?_ | with_reducible refine N.obl ⟨by kernel_rfl, by kernel_rfl⟩ ?_ | with_reducible refine N.alt ?_ | with_reducible refine N.forkT ?_ | with_reducible refine N.forkF ?_ | refine N.roll 1 ?_ | refine N.forkNo (by decide) ?_ | refine N.forkYes (by decide) ?_ | fail_if_success skip)
  all_goals rfl
set_option maxRecDepth 100000 in
theorem madenil_x (s : Bool) (w : World) : Calls Tryz.prog 65 #[.bool s, .slice none 0 0] w fun e w' => e = .returned (.agg #[.bool false, .bool false, .slice none 0 0]) ∧ Below w.heap.size w w' := by
  cases s with
  | false =>
    refine calls_pure (G := tys) w tysOK mixed Tryz.func65 (by rfl) (by rfl) (by rfl) ?_
    repeat' (refine N.go ?_; first | with_reducible refine N.obl (by decide) ?_ | with_reducible refine N.obl (flat_wi _ _ _) ?_ | with_reducible refine N.obl (flat_lim _ _) ?_ | with_reducible refine N.eq ?_ | with_reducible refine N.obl rfl ?_ | with_reducible refine N.obl ⟨by kernel_rfl, by kernel_rfl⟩ ?_ | with_reducible refine N.alt ?_ | with_reducible refine N.forkT ?_ | with_reducible refine N.forkF ?_ | refine N.call (call_pure (by rfl) (by rfl) (Tryz.call92 _) (fun w => trimnil_x w)) ?_ | refine N.call (call_pure (by rfl) (by rfl) (Tryz.call93 _) (fun w => bitsnil_x w)) ?_ | refine N.forkNo (by decide) ?_ | refine N.forkYes (by decide) ?_ | fail_if_success skip)
    all_goals rfl
  | true =>
    refine calls_pure (G := tys) w tysOK mixed Tryz.func65 (by rfl) (by rfl) (by rfl) ?_
    repeat' (refine N.go ?_; first | with_reducible refine N.obl (by decide) ?_ | with_reducible refine N.obl (flat_wi _ _ _) ?_ | with_reducible refine N.obl (flat_lim _ _) ?_ | with_reducible refine N.eq ?_ | with_reducible refine N.obl rfl ?_ | with_reducible refine N.obl ⟨by kernel_rfl, by kernel_rfl⟩ ?_ | with_reducible refine N.alt ?_ | with_reducible refine N.forkT ?_ | with_reducible refine N.forkF ?_ | refine N.call (call_pure (by rfl) (by rfl) (Tryz.call92 _) (fun w => trimnil_x w)) ?_ | refine N.call (call_pure (by rfl) (by rfl) (Tryz.call93 _) (fun w => bitsnil_x w)) ?_ | refine N.forkNo (by decide) ?_ | refine N.forkYes (by decide) ?_ | fail_if_success skip)
    all_goals rfl
theorem cMadeNil (s : Bool) (h : List (Option Chunk)) : CallOK Tryz.prog 65 [.bool s, .slice none 0 0] h (.agg #[.bool false, .bool false, .slice none 0 0]) [] [] := call_pure rfl rfl (Tryz.call65 _) (madenil_x s)
theorem two_words {n : Nat} (h : n < 18446744073709551616) : n < bw 2 ∧ nl n ≤ 2 := by
  have : bw 2 = 18446744073709551616 := by decide
  exact ⟨by omega, nl_le.2 (by omega)⟩
theorem isNum2 {o : Bool} {n : Nat} {x y : Int} (hx : x = ((n % 4294967296 : Nat) : Int)) (hy : y = ((n / 4294967296 % 4294967296 : Nat) : Int)) : IsNum ⟨o, 2, [(0, 2, .agg ⟨[.int .u32 x, .int .u32 y]⟩)]⟩ 2 n := ⟨rfl, fun j hj => by
  subst hx hy
  match j, hj with
  | 0, _ => unfold lm; rw [bw_zero, Nat.div_one]; rfl
  | 1, _ => rfl⟩
theorem isNum1 {o : Bool} {n : Nat} {x : Int} (hx : x = ((n % 4294967296 : Nat) : Int)) : IsNum ⟨o, 1, [(0, 1, .agg ⟨[.int .u32 x]⟩)]⟩ 1 n := ⟨rfl, fun j hj => by
  subst hx
  match j, hj with
  | 0, _ => unfold lm; rw [bw_zero, Nat.div_one]; rfl⟩
theorem post_num {ix : List (Nat × Nat)} {h : List (Option Chunk)} {k m v : Nat} {c : Chunk} (hh : h[k]? = some (some c)) (ho : c.own = true) (hc : IsNum c m v) : PostC ix h k (numC true m v) :=
  ⟨c, hh, fun _ => ho, Nat.le_of_eq hc.1.symm, fun j hj => by
    have hj : j < m := hj
    rw [seg_cell hj, hc.2 j hj]; exact .plain rfl⟩
theorem w32 (n : Nat) : IntKind.u32.wrap (n : Int) = ((n % 4294967296 : Nat) : Int) := by rw [IntKind.wrap_u32]; omega
theorem w64 {n : Nat} (h : n < 18446744073709551616) : IntKind.u64.wrap (n : Int) = (n : Int) := by rw [IntKind.wrap_u64]; omega
set_option maxRecDepth 100000 in
set_option maxHeartbeats 2000000 in
theorem cROf (n K : Nat) (h : List (Option Chunk)) (h0 : h[K]? = some none) (hn : n < 9223372036854775808) :
    CallOK Tryz.prog 43 [.int .i64 (n : Int)] h (.agg #[.bool false, .bool false, .slice (some ⟨K, 0, some 0⟩) (nl n) 2]) [(K, numC true 2 n)] [] := by
  have h2 := two_words (n := n) (by omega)
  refine call_sub (G := tys) [] [⟨K, 1, numC true 2 n⟩] [.int .i64 (n : Int)] tysOK mixed Tryz.func43 (by rfl) (Tryz.call43) trivial trivial trivial ⟨⟨h0, rfl, by show 0 < 2; decide, by simp⟩, trivial⟩ ⟨.plain rfl, trivial⟩ ?_
  repeat' (refine N.go ?_; first | with_reducible refine N.obl (by decide) ?_ | with_reducible refine N.obl (flat_wi _ _ _) ?_ | with_reducible refine N.obl (flat_lim _ _) ?_ | with_reducible refine N.eq ?_ | with_reducible refine N.obl rfl ?_ | with_reducible refine N.obl ⟨by kernel_rfl, by kernel_rfl⟩ ?_ | with_reducible refine N.alt ?_ | with_reducible refine N.forkT ?_ | with_reducible refine N.forkF ?_ | refine N.call (cMade32 n 2 2 _ false false rfl _ _ (by rfl) (isNum2 (by rw [w64 (by omega), w32]) (by rw [w64 (by omega), fd32, w32])) (by omega) (by omega) h2.1) ?_ | refine N.forkNo (by decide) ?_ | refine N.forkYes (by decide) ?_ | refine N.forkYes (by rw [decide_eq_true_eq]; omega) ?_ | refine N.forkNo (by rw [decide_eq_false_iff_not]; omega) ?_ | refine N.obl (.one (.agg ⟨.plain (by rfl), .plain rfl, .slice (by rfl), trivial⟩)) ?_ | refine N.obl ⟨⟨Nat.zero_le _, post_num (by rfl) rfl (isNum2 (by rw [w64 (by omega), w32]) (by rw [w64 (by omega), fd32, w32]))⟩, trivial⟩ ?_ | refine N.obl trivial ?_ | exact N.true | fail_if_success skip)
theorem zeros_num {o : Bool} {m : Nat} : ChunkLe (numC o m 0) ⟨o, m, [(0, m, .agg ⟨segL m (repZ 1 (.int .u32 0))⟩)]⟩ := .mk id (Nat.le_refl _) fun j hj => by
  have hj : j < m := hj
  rw [seg_cell hj, seg_cell hj]
  unfold repZ lm
  rw [Nat.mod_one, Nat.zero_div]; rfl
end Go.Proofs.YtdnkeeedcnjofaaGreatDoor


/-
  The walks of the document's numbers: plus, quo (by one word).
-/
set_option linter.unusedVariables false
set_option linter.unusedSimpArgs false
namespace Go.Proofs.YtdnkeeedcnjofaaGreatDoor
open Go Go.RowKit Sx

theorem lm_up (v i j : Nat) (h : i ≤ j) : lm (v % bw i) j = 0 := lm_big (Nat.lt_of_lt_of_le (Nat.mod_lt _ (bw_pos i)) (bw_mono h))
theorem writes_next {m v i q : Nat} {x : Int} (e : q = i) (h : i < m) (hx : x = ((lm v i : Nat) : Int)) : Writes (numC true m (v % bw i)) q 1 (.int .u32 x) (numC true m (v % bw (i + 1))) := by
  subst e hx
  refine ⟨rfl, by show q + 1 ≤ m; omega, rfl, fun j hj => ?_⟩
  have hj : j < m := hj
  rw [seg_cell hj, seg_cell hj]
  rcases Nat.lt_trichotomy j q with h1 | h1 | h1
  · rw [if_neg (by omega), lm_mod h1, lm_mod (by omega)]
  · subst h1; rw [if_pos (by omega), Nat.sub_self, lm_mod (by omega)]; rfl
  · rw [if_neg (by omega), lm_up _ _ _ (by omega), lm_up _ _ _ (by omega)]
theorem lm_down (v i j : Nat) : lm (v / bw i * bw i) j = if i ≤ j then lm v j else 0 := by
  by_cases h : i ≤ j
  · rw [if_pos h]
    unfold lm
    obtain ⟨d, rfl⟩ : ∃ d, j = i + d := ⟨j - i, by omega⟩
    rw [bw_add, ← Nat.div_div_eq_div_mul, Nat.mul_div_cancel _ (bw_pos i), Nat.div_div_eq_div_mul]
  · rw [if_neg h]
    unfold lm
    obtain ⟨d, rfl⟩ : ∃ d, i = j + 1 + d := ⟨i - (j + 1), by omega⟩
    rw [bw_add, bw_succ]
    generalize v / (bw j * 4294967296 * bw d) = q
    rw [show q * (bw j * 4294967296 * bw d) = q * bw d * 4294967296 * bw j from by rw [Nat.mul_assoc (bw j), Nat.mul_comm (bw j), ← Nat.mul_assoc, Nat.mul_comm 4294967296, ← Nat.mul_assoc], Nat.mul_div_cancel _ (bw_pos j)]
    exact Nat.mul_mod_left _ _
theorem writes_down {m v i q : Nat} {x : Int} (e : q = i) (h : i < m) (hx : x = ((lm v i : Nat) : Int)) : Writes (numC true m (v / bw (i + 1) * bw (i + 1))) q 1 (.int .u32 x) (numC true m (v / bw i * bw i)) := by
  subst e hx
  refine ⟨rfl, by show q + 1 ≤ m; omega, rfl, fun j hj => ?_⟩
  have hj : j < m := hj
  rw [seg_cell hj, seg_cell hj, lm_down, lm_down]
  rcases Nat.lt_trichotomy j q with h1 | h1 | h1
  · rw [if_neg (by omega), if_neg (by omega), if_neg (by omega)]
  · subst h1; rw [if_pos (by omega), if_pos (by omega), Nat.sub_self]; rfl
  · rw [if_pos (by omega), if_neg (by omega), if_pos (by omega)]
set_option maxRecDepth 100000 in
set_option maxHeartbeats 2000000 in
theorem cPlus (a b m q i j K : Nat) (o o2 : Chunk) (h : List (Option Chunk)) (hi : h[i]? = some (some o)) (hin : IsNum o m a) (hj : h[j]? = some (some o2)) (hjn : IsNum o2 q b) (hl : nl a ≤ m) (hm : m ≤ 20) (hba : nl b ≤ nl a) (hq : nl b ≤ q ∧ q ≤ 20) (h0 : h[K]? = some none) :
    CallOK Tryz.prog 100 [.slice (some ⟨i, 0, some 0⟩) (nl a) m, .slice (some ⟨j, 0, some 0⟩) (nl b) q] h (.slice (some ⟨K, 0, some 0⟩) (nl (a + b)) (nl a + 1)) [(K, numC true (nl a + 1) (a + b))] [i, j] := by
  have hs : a + b < bw (nl a + 1) := by
    rw [bw_succ]
    have h1 := nl_self a
    have h2 := nl_le.1 hba
    omega
  refine call_sub (G := tys) [⟨i, _, numC false m a, ⟨false, 0, []⟩⟩, ⟨j, _, numC false q b, ⟨false, 0, []⟩⟩] [⟨K, 6, numC true (nl a + 1) (a + b)⟩] [.slice (some ⟨0, 0, some 0⟩) (nl a) m, .slice (some ⟨1, 0, some 0⟩) (nl b) q] tysOK mixed Tryz.func100 (by rfl) (Tryz.call100) ⟨hi, hj, trivial⟩ ⟨⟨fun h => (by cases h), Nat.le_of_eq hin.1.symm, num_re hin⟩, ⟨fun h => (by cases h), Nat.le_of_eq hjn.1.symm, num_re hjn⟩, trivial⟩ (by simp [Apart]) ⟨⟨h0, rfl, by show 0 < nl a + 1; omega, by simp⟩, trivial⟩ ⟨.slice rfl, .slice rfl, trivial⟩ ?_
  repeat' (refine N.go ?_; first | with_reducible refine N.obl (by decide) ?_ | with_reducible refine N.obl (flat_wi _ _ _) ?_ | with_reducible refine N.obl (flat_lim _ _) ?_ | with_reducible refine N.eq ?_ | with_reducible refine N.obl rfl ?_ | with_reducible refine N.obl ⟨by kernel_rfl, by kernel_rfl⟩ ?_ | with_reducible refine N.alt ?_ | with_reducible refine N.forkT ?_ | with_reducible refine N.forkF ?_ | refine MakeN.mk1 (nl a + 1) (nl a + 1) (by rw [i64n _ (by omega) (by omega)]; rfl) (by rw [i64n _ (by omega) (by omega)]; rfl) (by show 4 * (nl a + 1) ≤ _; omega) (by omega) (Nat.mul_one _).symm ?_ | refine N.forkNo (by decide) ?_ | refine N.forkYes (by decide) ?_ | refine N.forkYes (by rw [decide_eq_true_eq]; omega) ?_ | refine N.forkNo (by rw [decide_eq_false_iff_not]; omega) ?_ | refine N.obl trivial ?_ | exact N.true | fail_if_success skip)
  refine N.go ?_
  refine N.loop (α := Nat) (fun i => i ≤ nl a) (fun i => nl a - i) (fun i => [(21, .int .i64 (i : Int)), (6, .int .u64 (((a % bw i + b % bw i) / bw i : Nat) : Int))]) (fun i => [(6, numC true (nl a + 1) ((a + b) % bw i))]) 0 (Nat.zero_le _) ?_ ?_
  · repeat (refine N.go ?_; first | exact N.true | with_reducible refine N.obl rfl ?_ | with_reducible refine N.obl (ChunkLe.refl _) ?_ | refine N.obl (int_i64 (by rw [IntWalk.i64_in _ (by omega)]; rfl)) ?_ | refine N.obl (by rw [bw_zero, Nat.mod_one]; exact zeros_num) ?_ | refine N.obl (inteq (by rw [bw_zero, Nat.mod_one, Nat.mod_one]; rfl)) ?_ |  fail_if_success skip)
  · intro i hi'
    have hi' : i ≤ nl a := hi'
    rcases Nat.lt_or_ge i (nl a) with hlt | hge
    · obtain ⟨m1, m2, m3⟩ := add_word a b i
      generalize hC : (a % bw i + b % bw i) / bw i = C at *
      have hx := lm_lt a i
      have hy := lm_lt b i
      have ev : IntKind.u64.wrap (IntKind.u64.wrap ((C : Int) + IntKind.u64.wrap ((lm a i : Nat) : Int)) + IntKind.u64.wrap ((lm b i : Nat) : Int)) = ((C + lm a i + lm b i : Nat) : Int) := by
        rw [w64 (n := lm a i) (by omega), w64 (n := lm b i) (by omega), ← Int.natCast_add, w64 (n := C + lm a i) (by omega), ← Int.natCast_add, w64 (by omega)]
      have ev0 : IntKind.u64.wrap ((C : Int) + IntKind.u64.wrap ((lm a i : Nat) : Int)) = ((C + lm a i : Nat) : Int) := by
        rw [w64 (n := lm a i) (by omega), ← Int.natCast_add, w64 (n := C + lm a i) (by omega)]
      rcases Nat.lt_or_ge i (nl b) with hib | hib
      · repeat' (refine N.go ?_; first | with_reducible refine N.obl (by decide) ?_ | with_reducible refine N.obl (flat_wi _ _ _) ?_ | with_reducible refine N.obl (flat_lim _ _) ?_ | with_reducible refine N.eq ?_ | with_reducible refine N.obl rfl ?_ | with_reducible refine N.obl ⟨by kernel_rfl, by kernel_rfl⟩ ?_ | with_reducible refine N.alt ?_ | with_reducible refine N.forkT ?_ | with_reducible refine N.forkF ?_ | refine N.store _ (writes_next rfl (by omega) (by rw [ev, w32, m1])) ?_ | refine N.idx i 1 rfl (by omega) ?_ | refine N.load _ (reads_num (p := i) (by omega) (by omega)) ?_ | refine N.forkNo (by decide) ?_ | refine N.forkYes (by decide) ?_ | refine N.forkYes (by rw [decide_eq_true_eq]; omega) ?_ | refine N.forkNo (by rw [decide_eq_false_iff_not]; omega) ?_ | refine N.obl trivial ?_ | exact N.true | fail_if_success skip)
        refine N.go ?_
        refine N.next (i + 1) ⟨by show i + 1 ≤ nl a; omega, by omega⟩ ?_
        repeat (refine N.go ?_; first | exact N.true | with_reducible refine N.obl rfl ?_ | with_reducible refine N.obl (ChunkLe.refl _) ?_ | refine N.obl (int_i64 (by rw [IntWalk.i64_in _ (by omega)]; rfl)) ?_ | refine N.obl (inteq (by rw [i64n _ (by omega) (by omega)]; omega)) ?_ | refine N.obl (inteq (by rw [ev, fd32, m2])) ?_ |  fail_if_success skip)
      · have hz : lm b i = 0 := lm_big (Nat.lt_of_lt_of_le (nl_self b) (bw_mono hib))
        repeat' (refine N.go ?_; first | with_reducible refine N.obl (by decide) ?_ | with_reducible refine N.obl (flat_wi _ _ _) ?_ | with_reducible refine N.obl (flat_lim _ _) ?_ | with_reducible refine N.eq ?_ | with_reducible refine N.obl rfl ?_ | with_reducible refine N.obl ⟨by kernel_rfl, by kernel_rfl⟩ ?_ | with_reducible refine N.alt ?_ | with_reducible refine N.forkT ?_ | with_reducible refine N.forkF ?_ | refine N.store _ (writes_next rfl (by omega) (by rw [ev0, w32, m1, hz]; rfl)) ?_ | refine N.idx i 1 rfl (by omega) ?_ | refine N.load _ (reads_num (p := i) (by omega) (by omega)) ?_ | refine N.forkNo (by decide) ?_ | refine N.forkYes (by decide) ?_ | refine N.forkYes (by rw [decide_eq_true_eq]; omega) ?_ | refine N.forkNo (by rw [decide_eq_false_iff_not]; omega) ?_ | refine N.obl trivial ?_ | exact N.true | fail_if_success skip)
        refine N.go ?_
        refine N.next (i + 1) ⟨by show i + 1 ≤ nl a; omega, by omega⟩ ?_
        repeat (refine N.go ?_; first | exact N.true | with_reducible refine N.obl rfl ?_ | with_reducible refine N.obl (ChunkLe.refl _) ?_ | refine N.obl (int_i64 (by rw [IntWalk.i64_in _ (by omega)]; rfl)) ?_ | refine N.obl (inteq (by rw [i64n _ (by omega) (by omega)]; omega)) ?_ | refine N.obl (inteq (by rw [ev0, fd32, m2, hz]; rfl)) ?_ |  fail_if_success skip)
    · obtain rfl : i = nl a := by omega
      have ha := nl_self a
      have hb := nl_le.1 hba
      have hc : ((a % bw (nl a) + b % bw (nl a)) / bw (nl a)) = lm (a + b) (nl a) := by
        rw [Nat.mod_eq_of_lt ha, Nat.mod_eq_of_lt hb]
        unfold lm
        rw [Nat.mod_eq_of_lt ((Nat.div_lt_iff_lt_mul (bw_pos _)).2 (by rw [Nat.mul_comm, ← bw_succ]; exact hs))]
      have hlt := lm_lt (a + b) (nl a)
      have he : (a + b) % bw (nl a + 1) = a + b := Nat.mod_eq_of_lt hs
      repeat' (refine N.go ?_; first | with_reducible refine N.obl (by decide) ?_ | with_reducible refine N.obl (flat_wi _ _ _) ?_ | with_reducible refine N.obl (flat_lim _ _) ?_ | with_reducible refine N.eq ?_ | with_reducible refine N.obl rfl ?_ | with_reducible refine N.obl ⟨by kernel_rfl, by kernel_rfl⟩ ?_ | with_reducible refine N.alt ?_ | with_reducible refine N.forkT ?_ | with_reducible refine N.forkF ?_ | refine N.idx (nl a) 1 rfl (by omega) ?_ | refine N.store _ (writes_next rfl (by omega) (by rw [w32, hc]; omega)) ?_ | refine N.call (cTrim (a + b) (nl a + 1) (nl a + 1) _ _ _ (by rfl) (by rw [he]; exact isNum _ _ _) (by omega) (by omega) hs) ?_ | refine N.obl (re_sl (by rfl) rfl) ?_ | refine N.obl ⟨⟨by show 2 ≤ 6; decide, post_num (by rfl) rfl (by rw [he]; exact isNum _ _ _)⟩, trivial⟩ ?_ | refine N.forkNo (by decide) ?_ | refine N.forkYes (by decide) ?_ | refine N.forkYes (by rw [decide_eq_true_eq]; omega) ?_ | refine N.forkNo (by rw [decide_eq_false_iff_not]; omega) ?_ | refine N.obl trivial ?_ | exact N.true | fail_if_success skip)
theorem or_add (r x : Nat) (hr : r < 4294967296) (hx : x < 4294967296) : IntKind.u64.wrap ((BitVec.ofInt IntKind.u64.bits (((r * 4294967296 : Nat) : Int)) ||| BitVec.ofInt IntKind.u64.bits ((x : Nat) : Int)).toNat : Nat) = ((r * 4294967296 + x : Nat) : Int) := by
  have e : (BitVec.ofInt IntKind.u64.bits (((r * 4294967296 : Nat) : Int)) ||| BitVec.ofInt IntKind.u64.bits ((x : Nat) : Int)).toNat = r * 4294967296 + x := by
    rw [BitVec.toNat_or, BitVec.toNat_ofInt, BitVec.toNat_ofInt]
    have h1 : (((r * 4294967296 : Nat) : Int) % ((2 ^ IntKind.u64.bits : Nat) : Int)).toNat = r * 4294967296 := by
      show (((r * 4294967296 : Nat) : Int) % 18446744073709551616).toNat = _
      omega
    have h2 : (((x : Nat) : Int) % ((2 ^ IntKind.u64.bits : Nat) : Int)).toNat = x := by
      show (((x : Nat) : Int) % 18446744073709551616).toNat = _
      omega
    rw [h1, h2]
    have := Nat.shiftLeft_add_eq_or_of_lt (b := x) (i := 32) (by omega) r
    rw [Nat.shiftLeft_eq] at this
    exact this.symm
  rw [e, w64 (by omega)]
theorem shl_or (r x y : Nat) (hr : r < y) (hy : y < 4294967296) (hx : x < 4294967296) : IntKind.u64.wrap ((BitVec.ofInt IntKind.u64.bits (IntKind.u64.wrap ((r : Int) * 2 ^ sh 32 IntKind.u64)) ||| BitVec.ofInt IntKind.u64.bits (IntKind.u64.wrap ((x : Nat) : Int))).toNat : Nat) = ((r * 4294967296 + x : Nat) : Int) := by
  rw [show sh 32 IntKind.u64 = 32 from by decide, show ((r : Int) * 2 ^ 32) = ((r * 4294967296 : Nat) : Int) from by omega, w64 (n := r * 4294967296) (by omega), w64 (n := x) (by omega)]
  exact or_add r x (by omega) hx
end Go.Proofs.YtdnkeeedcnjofaaGreatDoor
