
/-
  The walks of tooGreat, made, Of: numbers with their signs.
-/
import Derived.Test.YtbepibdjlajppaaDoorWide2
set_option linter.unusedVariables false
namespace Go.Proofs.YtbepibdjlajppaaDoor
open Go.RowKit

theorem Tryd.info_u64 : (Tryd.prog.info? 42).isSome = true := by kernel_rfl
theorem Tryd.cells_u64 : Tryd.prog.cellsOf 42 = 1 := by kernel_rfl

theorem run_part_u64 (w : World) {xs : Array Value} {off : Nat} {v : Value} (hx : xs[off]? = some v) : (part 42 xs off).run Tryd.prog w = .ok v w := by
  have ha : (isAgg 42).run Tryd.prog w = .ok false w := by
    unfold isAgg
    rw [Sem.run_bind, run_underlying Tryd.underlying42 w]
    rfl
  simp [part, Sem.run_bind, ha, hx]

theorem eqItems_lim (d n : Nat) (f g : Nat → Nat) (w : World) : ∀ is : List Nat, (∀ i ∈ is, i < n) → (Op.eqItems (d + 1) 42 1 (lim n f) (lim n g) is).run Tryd.prog w = .ok (is.all fun i => f i == g i) w
  | [], _ => by simp [Op.eqItems]
  | i :: is, h => by
    have ih := eqItems_lim d n f g w is (fun j hj => h j (by simp [hj]))
    have hi := h i (by simp)
    have e1 := run_part_u64 w (lim_get n f i hi)
    have e2 := run_part_u64 w (lim_get n g i hi)
    have e3 := run_equalIn_int (P := Tryd.prog) w d 42 .u64 .u64 (f i) (g i) Tryd.underlying42
    simp only [Op.eqItems, Sem.run_bind, Nat.mul_one, e1, e2, e3, Result.andThen_ok]
    by_cases hfg : f i = g i
    · simp [hfg, ih]
    · have : ((f i : Nat) : Int) ≠ (g i : Nat) := by omega
      simp [hfg, this]

set_option maxRecDepth 100000 in
theorem equal_sz (u v : Nat) (hu : u < Bs ^ 16) (hv : v < Bs ^ 16) (w : World) : (Op.equalIn 10000 44 (.agg (sz u)) (.agg (sz v))).run Tryd.prog w = .ok (decide (u = v)) w := by
  obtain ⟨i, hi⟩ := Option.isSome_iff_exists.1 Tryd.info_u64
  rw [run_equalIn_array (P := Tryd.prog) w 9999 (sz u) (sz v) Tryd.underlying44 hi, Tryd.cells_u64]
  unfold sz
  rw [eqItems_lim 9998 16 _ _ w (List.range 16) (fun i hi => by simpa using hi)]
  congr 1
  by_cases h : u = v
  · subst h; simp
  · simp only [h, decide_false]
    rw [← Bool.not_eq_true, List.all_eq_true]
    intro hall
    exact h (eq_of_dg 16 u v hu hv fun j hj => by simpa using hall j (by simpa using hj))

theorem equal_zero (u : Nat) (hu : u < Bs ^ 16) (w : World) : (Op.equalIn 10000 44 (.agg (sz u)) (.agg #[.int .u64 0, .int .u64 0, .int .u64 0, .int .u64 0, .int .u64 0, .int .u64 0, .int .u64 0, .int .u64 0, .int .u64 0, .int .u64 0, .int .u64 0, .int .u64 0, .int .u64 0, .int .u64 0, .int .u64 0, .int .u64 0])).run Tryd.prog w = .ok (decide (u = 0)) w := by
  rw [← sz_zero]
  exact equal_sz u 0 hu (bsp_pos 16) w

theorem lim_lit (f : Nat → Nat) : lim 16 f = #[.int .u64 (f 0 : Nat), .int .u64 (f 1 : Nat), .int .u64 (f 2 : Nat), .int .u64 (f 3 : Nat), .int .u64 (f 4 : Nat), .int .u64 (f 5 : Nat), .int .u64 (f 6 : Nat), .int .u64 (f 7 : Nat), .int .u64 (f 8 : Nat), .int .u64 (f 9 : Nat), .int .u64 (f 10 : Nat), .int .u64 (f 11 : Nat), .int .u64 (f 12 : Nat), .int .u64 (f 13 : Nat), .int .u64 (f 14 : Nat), .int .u64 (f 15 : Nat)] := by
  unfold lim
  rw [show List.range 16 = [0, 1, 2, 3, 4, 5, 6, 7, 8, 9, 10, 11, 12, 13, 14, 15] from rfl]
  rfl
theorem sz_lit (v : Nat) : sz v = #[.int .u64 (dg v 0 : Nat), .int .u64 (dg v 1 : Nat), .int .u64 (dg v 2 : Nat), .int .u64 (dg v 3 : Nat), .int .u64 (dg v 4 : Nat), .int .u64 (dg v 5 : Nat), .int .u64 (dg v 6 : Nat), .int .u64 (dg v 7 : Nat), .int .u64 (dg v 8 : Nat), .int .u64 (dg v 9 : Nat), .int .u64 (dg v 10 : Nat), .int .u64 (dg v 11 : Nat), .int .u64 (dg v 12 : Nat), .int .u64 (dg v 13 : Nat), .int .u64 (dg v 14 : Nat), .int .u64 (dg v 15 : Nat)] := lim_lit (dg v)
theorem wi_of (neg over : Bool) (f : Nat → Nat) : #[Value.bool neg, Value.bool over] ++ lim 16 f = #[.bool neg, .bool over, .int .u64 (f 0 : Nat), .int .u64 (f 1 : Nat), .int .u64 (f 2 : Nat), .int .u64 (f 3 : Nat), .int .u64 (f 4 : Nat), .int .u64 (f 5 : Nat), .int .u64 (f 6 : Nat), .int .u64 (f 7 : Nat), .int .u64 (f 8 : Nat), .int .u64 (f 9 : Nat), .int .u64 (f 10 : Nat), .int .u64 (f 11 : Nat), .int .u64 (f 12 : Nat), .int .u64 (f 13 : Nat), .int .u64 (f 14 : Nat), .int .u64 (f 15 : Nat)] := by
  rw [lim_lit]; simp
theorem wi_lit (neg over : Bool) (v : Nat) : wi neg over v = #[.bool neg, .bool over, .int .u64 (dg v 0 : Nat), .int .u64 (dg v 1 : Nat), .int .u64 (dg v 2 : Nat), .int .u64 (dg v 3 : Nat), .int .u64 (dg v 4 : Nat), .int .u64 (dg v 5 : Nat), .int .u64 (dg v 6 : Nat), .int .u64 (dg v 7 : Nat), .int .u64 (dg v 8 : Nat), .int .u64 (dg v 9 : Nat), .int .u64 (dg v 10 : Nat), .int .u64 (dg v 11 : Nat), .int .u64 (dg v 12 : Nat), .int .u64 (dg v 13 : Nat), .int .u64 (dg v 14 : Nat), .int .u64 (dg v 15 : Nat)] := wi_of neg over (dg v)
theorem wi_zero (neg over : Bool) : wi neg over 0 = #[.bool neg, .bool over, .int .u64 0, .int .u64 0, .int .u64 0, .int .u64 0, .int .u64 0, .int .u64 0, .int .u64 0, .int .u64 0, .int .u64 0, .int .u64 0, .int .u64 0, .int .u64 0, .int .u64 0, .int .u64 0, .int .u64 0, .int .u64 0] := by
  unfold wi; rw [sz_zero]; rfl

/-- What may be: less than 2^1023. -/
def TopBits : Nat := 1023
def Top : Nat := 2 ^ TopBits
theorem bs_two (n : Nat) : Bs ^ n = 2 ^ (64 * n) := by
  rw [Nat.pow_mul]
theorem pow_up (a b : Nat) (h : a < b) : 2 ^ a < 2 ^ b := Nat.pow_lt_pow_right (by decide) h
theorem top_of (n : Nat) (h : TopBits < 64 * n) : Top < Bs ^ n := by
  rw [bs_two]; exact pow_up _ _ h
theorem top_lt : Top < Bs ^ 16 := top_of 16 (by decide)

theorem ndTo_lt (v : Nat) : ∀ n, v < Bs ^ n → v < Bs ^ ndTo v n
  | 0, h => h
  | n + 1, h => by
    rw [ndTo]
    split
    · rename_i hz
      refine ndTo_lt v n ?_
      have s := dg_step v n
      rw [hz, Nat.div_eq_of_lt h] at s
      exact (Nat.div_eq_zero_iff_lt (bsp_pos n)).1 (by omega)
    · exact h
theorem ndTo_top (v : Nat) : ∀ n, ndTo v n = 0 ∨ dg v (ndTo v n - 1) ≠ 0
  | 0 => .inl rfl
  | n + 1 => by
    rw [ndTo]
    split
    · exact ndTo_top v n
    · rename_i h; exact .inr h

theorem bitLenAux_spec : ∀ (f x : Nat), x < 2 ^ f → x < 2 ^ Lib.bitLenAux f x ∧ (x ≠ 0 → 2 ^ (Lib.bitLenAux f x - 1) ≤ x ∧ 0 < Lib.bitLenAux f x)
  | 0, x, h => by
    have : x = 0 := by simpa using h
    subst this
    exact ⟨by simp [Lib.bitLenAux], fun h => absurd rfl h⟩
  | f + 1, x, h => by
    rw [Lib.bitLenAux]
    split
    · rename_i hz; subst hz; exact ⟨by decide, fun h => absurd rfl h⟩
    · rename_i hz
      obtain ⟨h1, h2⟩ := bitLenAux_spec f (x / 2) (by rw [Nat.pow_succ] at h; omega)
      refine ⟨by rw [Nat.add_comm, Nat.pow_succ]; omega, fun _ => ⟨?_, by omega⟩⟩
      rw [show 1 + Lib.bitLenAux f (x / 2) - 1 = Lib.bitLenAux f (x / 2) from by omega]
      by_cases hh : x / 2 = 0
      · have : Lib.bitLenAux f (x / 2) = 0 := by rw [hh]; cases f <;> simp [Lib.bitLenAux]
        rw [this]; simp; omega
      · obtain ⟨h3, h4⟩ := h2 hh
        obtain ⟨m, hm⟩ : ∃ m, Lib.bitLenAux f (x / 2) = m + 1 := ⟨_, (Nat.succ_pred_eq_of_pos h4).symm⟩
        rw [hm] at h3 ⊢
        rw [Nat.pow_succ]
        simp at h3
        omega

/-- The bits of a number. -/
theorem bl_spec (v : Nat) (hv : v < Bs ^ 16) : v < 2 ^ bl v ∧ (v ≠ 0 → 2 ^ (bl v - 1) ≤ v ∧ 0 < bl v) := by
  have hlt := ndTo_lt v 16 hv
  have htop := ndTo_top v 16
  have e0 : ndTo v 16 = nd v := rfl
  rw [e0] at hlt htop
  rcases htop with h0 | h0
  · have hb : bl v = 0 := by unfold bl; rw [if_pos h0]
    rw [h0] at hlt
    have : v = 0 := by simpa using hlt
    subst this
    exact ⟨by rw [hb]; decide, fun h => absurd rfl h⟩
  · by_cases hz : nd v = 0
    · rw [hz] at hlt
      have : v = 0 := by simpa using hlt
      subst this
      exact absurd (dg_zero _) h0
    obtain ⟨n, hn⟩ : ∃ n, nd v = n + 1 := ⟨nd v - 1, by omega⟩
    have hb : bl v = 64 * n + lb (dg v n) := by unfold bl; rw [if_neg hz, hn]; rfl
    rw [hn] at hlt h0
    have h0' : dg v n ≠ 0 := h0
    have hd : v / Bs ^ n = dg v n := by
      have s := dg_step v n
      rw [Nat.div_eq_of_lt hlt] at s
      omega
    obtain ⟨b1, b2⟩ := bitLenAux_spec 64 (dg v n) (dg_lt v n)
    obtain ⟨b3, b4⟩ := b2 h0'
    have e1 : Lib.bitLenAux 64 (dg v n) = lb (dg v n) := rfl
    rw [e1] at b1 b3 b4
    have eB := bs_two n
    rw [hb]
    refine ⟨?_, fun _ => ⟨?_, by omega⟩⟩
    · rw [Nat.pow_add, ← eB, Nat.mul_comm, ← Nat.div_lt_iff_lt_mul (bsp_pos n), hd]; exact b1
    · rw [show 64 * n + lb (dg v n) - 1 = 64 * n + (lb (dg v n) - 1) from by omega, Nat.pow_add, ← eB, Nat.mul_comm, ← Nat.le_div_iff_mul_le (bsp_pos n), hd]
      exact b3
theorem bl_small (v k : Nat) (hv : v < Bs ^ 16) (h : v < 2 ^ k) : bl v ≤ k := by
  obtain ⟨h1, h2⟩ := bl_spec v hv
  by_cases hz : v = 0
  · subst hz
    have : bl 0 = 0 := by decide
    omega
  · obtain ⟨h3, h4⟩ := h2 hz
    have : bl v - 1 < k := (Nat.pow_lt_pow_iff_right (by decide)).1 (Nat.lt_of_le_of_lt h3 h)
    omega

theorem great_any (w : World) : Calls Tryd.prog 58 #[] w fun e w' => e = .returned (.agg (wi false true 0)) ∧ Below w.heap.size w w' := by
  have hB : Below w.heap.size w w := Below.refl _ _
  have hr := IsRow.new w #[.bool false, .bool false, .int .u64 0, .int .u64 0, .int .u64 0, .int .u64 0, .int .u64 0, .int .u64 0, .int .u64 0, .int .u64 0, .int .u64 0, .int .u64 0, .int .u64 0, .int .u64 0, .int .u64 0, .int .u64 0, .int .u64 0, .int .u64 0] 46
  go_enter Tryd.func58, Tryd.ntmps58
  go_wp2_with (refine wpList_store_row rfl 46 _ _ rfl w.heap.size #[.bool false, .bool true, .int .u64 0, .int .u64 0, .int .u64 0, .int .u64 0, .int .u64 0, .int .u64 0, .int .u64 0, .int .u64 0, .int .u64 0, .int .u64 0, .int .u64 0, .int .u64 0, .int .u64 0, .int .u64 0, .int .u64 0, .int .u64 0] rfl rfl _ #[.bool false, .bool false, .int .u64 0, .int .u64 0, .int .u64 0, .int .u64 0, .int .u64 0, .int .u64 0, .int .u64 0, .int .u64 0, .int .u64 0, .int .u64 0, .int .u64 0, .int .u64 0, .int .u64 0, .int .u64 0, .int .u64 0, .int .u64 0] hr (by kernel_rfl) rfl (by simp [Value.oneCell']) ?_)
  exact bodyPost_ret (results_cell_row Tryd.results58 _ _ w.heap.size _ _ _ _ rfl (hr.row _) Tryd.underlying46 rfl (by kernel_rfl)) rfl ⟨by rw [wi_zero], below_setRow (hB.alloc (Nat.le_refl _) _) (Nat.le_refl _) _⟩
end Go.Proofs.YtbepibdjlajppaaDoor
