/-
  Keys of three whole numbers: a node, its boot, a number.
-/
import Derived.Test.YtpafcfelaaibgaaMapK
import Derived.Test.YtpafcfelaaibgaaTbl11
import Derived.DeepKeys5
set_option linter.unusedVariables false
namespace Go.Proofs.Ytpafcfelaaibgaa
open Go Go.RowKit Go.MapKept Sx

abbrev K3 := Fin 4 × Fin 16 × Fin 16384
abbrev k3 (k : K3) : Value := .agg #[.int .i64 (k.1.val : Nat), .int .i64 (k.2.1.val : Nat), .int .i64 (k.2.2.val : Nat)]
theorem k3_law : WideMaps.KeyLaw Try.prog 54 := deep_law_gate Try.laidOut (Nat.le_of_ble_eq_true (by kernel_rfl)) (Nat.le_of_ble_eq_true (by kernel_rfl)) (by kernel_rfl) (by kernel_rfl)
theorem k3_inj : ∀ a b, k3 a = k3 b → a = b := fun a b h => by
  obtain ⟨a1, a2, a3⟩ := a
  obtain ⟨b1, b2, b3⟩ := b
  simp at h
  obtain ⟨h1, h2, h3⟩ := h
  rw [Fin.ext (by omega : a1.val = b1.val), Fin.ext (by omega : a2.val = b2.val), Fin.ext (by omega : a3.val = b3.val)]
set_option maxRecDepth 100000 in
theorem k3_wf (n : Nat) (h : n < 16384) : (Lit.int .i64 (n : Int)).wf = true := by
  have e1 : IntKind.i64.min = -9223372036854775808 := by decide
  have e2 : IntKind.i64.max = 9223372036854775807 := by decide
  show (decide (IntKind.i64.min ≤ (n : Int)) && decide ((n : Int) ≤ IntKind.i64.max)) = true
  rw [e1, e2, Bool.and_eq_true, decide_eq_true_eq, decide_eq_true_eq]
  omega
set_option maxRecDepth 100000 in
theorem k3_lit (d : Nat) (n : Nat) (h : n < 16384) : Try.prog.keyLits (d + 1) 3 [.int .i64 (n : Int)] = some [.int .i64 n] := by
  unfold Program.keyLits
  rw [Try.underlying3]
  simp [k3_wf n h]
set_option maxRecDepth 100000 in
theorem k3_key (k : K3) : ∃ l, keyOf Try.prog 54 (k3 k) = some l := by
  obtain ⟨a, b, c⟩ := k
  have ha := a.isLt
  have hb := b.isLt
  have hc := c.isLt
  have hu := @Try.underlying54
  have h1 : Try.prog.keyType 54 = true := by kernel_rfl
  have h2 : Try.prog.cellsOf 54 = 3 := by kernel_rfl
  have h3 : Try.prog.cellsOf 3 = 1 := by kernel_rfl
  have h4 : (k3 (a, b, c)).formed Try.prog 54 = true := by
    simp only [Value.formed, hu, h2]
    rfl
  unfold keyOf
  rw [hu]
  simp only [h1, h4, Bool.and_self, if_true]
  have hsz : 1 ≤ Try.prog.types.size := Nat.le_of_ble_eq_true (by kernel_rfl)
  obtain ⟨m, hm⟩ : ∃ m, Try.prog.types.size = m + 1 := ⟨Try.prog.types.size - 1, by omega⟩
  rw [hm]
  have hl : Try.prog.keyLits (m + 1 + 1) 54 (k3 (a, b, c)).cells.toList = some [.int .i64 (a.val : Nat), .int .i64 (b.val : Nat), .int .i64 (c.val : Nat)] := by
    show Try.prog.keyLits (m + 1 + 1) 54 [.int .i64 (a.val : Nat), .int .i64 (b.val : Nat), .int .i64 (c.val : Nat)] = _
    unfold Program.keyLits
    rw [hu]
    dsimp only
    simp only [h2, h3, List.length_cons, List.length_nil, Nat.zero_add, if_true]
    have hr : List.range 3 = [0, 1, 2] := by decide
    rw [hr]
    simp only [List.mapM_cons, List.mapM_nil, Nat.mul_one, List.drop_zero, List.drop_succ_cons, List.take_succ_cons, List.take_zero]
    rw [k3_lit m a.val (by omega), k3_lit m b.val (by omega), k3_lit m c.val (by omega)]
    rfl
  rw [hl]
  exact ⟨_, rfl⟩
theorem k3_ok : KeyOK Try.prog 54 k3 where
  inj := k3_inj
  plain := fun k => rfl
  check := fun k e w => by
    obtain ⟨l, hl⟩ := k3_key k
    exact k3_law.check w e hl
  stays := fun k w => by
    obtain ⟨l, hl⟩ := k3_key k
    exact k3_law.stays w hl
  find := fun es hes k w => by
    obtain ⟨l, hl⟩ := k3_key k
    exact k3_law.find w hl es fun x hx => by
      obtain ⟨k', e⟩ := hes x hx
      rw [e]; exact k3_key k'
end Go.Proofs.Ytpafcfelaaibgaa
