
/-
  Decimal numerals, cut and joined: what strings.Cut, strings.Split and strconv.ParseInt answer at them.
-/
import Derived.Lib.Split
import Derived.Lib.SplitLaws
import Derived.Lib.CutLaws
import Derived.Lib.IndexLaws
import Derived.Lib.CountLaws
import Derived.Lib.ParseIntBCases
import Derived.Lib.ItoaMem
import Derived.Lib.ItoaLen
set_option linter.unusedVariables false
set_option linter.unusedSimpArgs false
namespace Go.Proofs.YtbepibdjlajppaaDoor.Txt
open Go Go.Lib

theorem digit_of (k : Nat) (h : k < 10) : (UInt8.ofNat (48 + k)).toNat = 48 + k := by
  rw [UInt8.toNat_ofNat']; omega
theorem dec_digit : ∀ (u : Nat) (c : UInt8), c ∈ decDigits u → 48 ≤ c.toNat ∧ c.toNat ≤ 57 := by
  intro u
  induction u using Nat.strongRecOn with
  | _ u ih =>
    intro c hc
    rw [decDigits] at hc
    split at hc
    · rename_i h
      rw [List.mem_singleton] at hc
      rw [hc, digit_of u h]; omega
    · rename_i h
      rcases List.mem_append.1 hc with hc | hc
      · exact ih (u / 10) (by omega) c hc
      · rw [List.mem_singleton] at hc
        rw [hc, digit_of (u % 10) (by omega)]; omega
theorem dec_ne (u : Nat) : decDigits u ≠ [] := by
  rw [decDigits]
  split
  · simp
  · simp
theorem itoa_char (n : Int) (c : UInt8) (h : c ∈ itoa n) : c.toNat = 45 ∨ (48 ≤ c.toNat ∧ c.toNat ≤ 57) := by
  unfold itoa at h
  split at h
  · rcases List.mem_cons.1 h with h | h
    · rw [h]; exact .inl rfl
    · exact .inr (dec_digit _ c h)
  · exact .inr (dec_digit _ c h)
theorem itoa_no (n : Int) (c : UInt8) (h : c.toNat ≠ 45) (h2 : c.toNat < 48) : c ∉ itoa n := fun hc => by
  have := itoa_char n c hc; omega
theorem parse_dec (M : Nat) (h64 : M ≤ 18446744073709551615) : ∀ (u : Nat) (r : List UInt8), u ≤ M → parseUintM M 0 (decDigits u ++ r) = parseUintM M u r := by
  intro u
  induction u using Nat.strongRecOn with
  | _ u ih =>
    intro r hu
    rw [decDigits]
    split
    · rename_i h
      rw [List.singleton_append, parseUintM, digit_of u h, if_pos (by omega), if_neg (by omega), if_neg (by omega)]
      congr 1; omega
    · rename_i h
      rw [List.append_assoc, ih (u / 10) (by omega) _ (by omega), List.singleton_append, parseUintM, digit_of (u % 10) (by omega), if_pos (by omega), if_neg (by omega), if_neg (by omega)]
      congr 1; omega
theorem parse_u (u : Nat) (h : u ≤ 18446744073709551615) : parseUintB 64 (decDigits u) = .ok u := by
  unfold parseUintB
  rw [if_neg (dec_ne u)]
  have := parse_dec (2 ^ 64 - 1) (by decide) u [] (by omega)
  rw [List.append_nil] at this
  rw [this]; rfl
/-- A numeral is read back. -/
theorem parse_itoa (n : Int) (h0 : -9223372036854775808 ≤ n) (h1 : n ≤ 9223372036854775807) : parseIntB 64 (itoa n) = .ok n := by
  unfold itoa
  split
  · rename_i h
    rw [parseIntB_minus, parse_u _ (by omega)]
    simp only [signedC]
    rw [if_neg (by omega)]
    congr 1; omega
  · rename_i h
    have hd := dec_digit n.toNat
    have hp := parse_u n.toNat (by omega)
    have hne := dec_ne n.toNat
    generalize decDigits n.toNat = l at hd hp hne
    cases l with
    | nil => exact absurd rfl hne
    | cons c r =>
      have := hd c (List.mem_cons_self ..)
      rw [parseIntB_plain 64 c r (by omega) (by omega), hp]
      simp only [signlessC]
      rw [if_neg (by omega)]
      congr 1; omega
/-! ### One byte between -/
theorem index_at (a b : List UInt8) (c : UInt8) (h : c ∉ a) : index (a ++ c :: b) [c] = (a.length : Nat) := by
  refine index_first (by simp) (by simp [occAt, List.isPrefixOf]) fun j hj => ?_
  have hjl : j < (a ++ c :: b).length := by simp; omega
  unfold occAt
  rw [List.drop_eq_getElem_cons hjl, List.getElem_append_left hj]
  have : (c == a[j]) = false := by
    rw [beq_eq_false_iff_ne]
    exact fun e => h (by rw [e]; exact List.getElem_mem hj)
  simp [List.isPrefixOf, this]
theorem index_not (a : List UInt8) (c : UInt8) (h : c ∉ a) : index a [c] = -1 := by
  refine index_none fun j hj => ?_
  unfold occAt
  by_cases hl : j < a.length
  · rw [List.drop_eq_getElem_cons hl]
    have : (c == a[j]) = false := by
      rw [beq_eq_false_iff_ne]
      exact fun e => h (by rw [e]; exact List.getElem_mem hl)
    simp [List.isPrefixOf, this]
  · rw [List.drop_eq_nil_of_le (by omega)]; rfl
theorem cut_at (a b : List UInt8) (c : UInt8) (h : c ∉ a) : cut (a ++ c :: b) [c] = (a, b, true) := by
  unfold cut
  rw [index_at a b c h, if_pos (by omega)]
  simp
theorem splitK_at (a b : List UInt8) (c : UInt8) (h : c ∉ a) (k : Nat) : splitK [c] 0 (k + 1) (a ++ c :: b) = a :: splitK [c] 0 k b := by
  show (if (index (a ++ c :: b) [c] == -1) = true then [a ++ c :: b] else (a ++ c :: b).take ((index (a ++ c :: b) [c]).toNat + 0) :: splitK [c] 0 k ((a ++ c :: b).drop ((index (a ++ c :: b) [c]).toNat + 1))) = _
  rw [index_at a b c h, if_neg (fun e => by have := beq_iff_eq.1 e; omega)]
  simp
theorem splitB_of {sep s : ByteArray} {k : Nat} {ls : List (List UInt8)} (h : splitK sep.data.toList 0 k s.data.toList = ls) : splitB sep 0 k s = ls.map fun l => ⟨l.toArray⟩ := by
  have h1 := splitB_data sep 0 k s
  rw [h] at h1
  rw [← h1, List.map_map]
  conv => lhs; rw [← List.map_id (splitB sep 0 k s)]
  refine List.map_congr_left fun x _ => ?_
  show x = ⟨x.data.toList.toArray⟩
  rw [Array.toArray_toList]
theorem count_two (a b : List UInt8) (c : UInt8) (ha : c ∉ a) (hb : c ∉ b) : count (a ++ c :: b) [c] = 1 := by
  rw [count_one, List.count_append, List.count_cons_self, List.count_eq_zero_of_not_mem ha, List.count_eq_zero_of_not_mem hb]
theorem count_three (a b d : List UInt8) (c : UInt8) (ha : c ∉ a) (hb : c ∉ b) (hd : c ∉ d) : count (a ++ c :: (b ++ c :: d)) [c] = 2 := by
  rw [count_one, List.count_append, List.count_cons_self, List.count_append, List.count_cons_self, List.count_eq_zero_of_not_mem ha, List.count_eq_zero_of_not_mem hb, List.count_eq_zero_of_not_mem hd]
end Go.Proofs.YtbepibdjlajppaaDoor.Txt
