
/-
  The statement AirOrder: for every input the law returns true.
-/
import Derived.Test.YtgikbmohmomgbaaAirU
import Derived.Test.YtgikbmohmomgbaaMem3
import Derived.Test.YtgikbmohmomgbaaRows
set_option linter.unusedVariables false
set_option linter.unusedSimpArgs false
namespace Go.Proofs.Ytgikbmohmomgbaa.airOrder
open Go Go.ChangeShapes Go.WideShapes Go.ChangeAt Go.RowKit Sx

/-- A mail's bytes are our own. -/
inductive Own (F : List By) : Option Sl → List Int → Prop
  | nil : Own F none []
  | own {e : By} (he : e ∈ F) : Own F e.s e.bs
theorem Own.src {W : World} {F : List By} {u : Option Sl} {bs : List Int} (h : Own F u bs) : Src W F u bs := by
  cases h with
  | nil => exact .nil
  | own he => exact .own he
theorem Own.more {F F' : List By} (hF : ∀ e ∈ F, e ∈ F') {u : Option Sl} {bs : List Int} (h : Own F u bs) : Own F' u bs := by
  cases h with
  | nil => exact .nil
  | own he => exact .own (hF _ he)
theorem Own.or {F : List By} {u : Option Sl} {bs : List Int} (h : Own F u bs) : (u = none ∧ bs = []) ∨ ∃ e ∈ F, u = e.s ∧ bs = e.bs := by
  cases h with
  | nil => exact .inl ⟨rfl, rfl⟩
  | own he => exact .inr ⟨_, he, rfl, rfl⟩
theorem Own.blk {F : List By} {u : Option Sl} {bs : List Int} (h : Own F u bs) {s : Sl} (hs : u = some s) : s.b ∈ F.map By.b := by
  cases h with
  | nil => cases hs
  | own he => cases hs; exact List.mem_map.2 ⟨_, he, rfl⟩
theorem made_own {F F' : List By} {bs : List Int} {u : Option Sl} (h : Made F bs u F') : Own F' u bs := by
  cases h with
  | nil h => subst h; exact .nil
  | new hb => exact .own (List.mem_cons_self ..)
theorem made_fresh {F F' : List By} {bs : List Int} {u : Option Sl} (h : Made F bs u F') {s : Sl} (hs : u = some s) : s.b ∉ F.map By.b := by
  cases h with
  | nil h => cases hs
  | new hb => cases hs; exact hb
/-- The mails of an air: whose they are, their bytes; none shares a block with another. -/
structure Mails (L : List Ml) (F : List By) (to_ : Nat → Int) (C : Nat → List Int) (be : Nat → Bool) (n : Nat) : Prop where
  len : L.length = n
  at_ : ∀ j, j < n → ∃ u, L[j]? = some ⟨to_ j, u, 0, 0, be j⟩ ∧ Own F u (C j)
  sep : ∀ (j k : Nat) (m m' : Ml) (s s' : Sl), j ≠ k → L[j]? = some m → L[k]? = some m' → m.u = some s → m'.u = some s' → s.b ≠ s'.b
theorem Mails.nil (F : List By) (to_ : Nat → Int) (C : Nat → List Int) (be : Nat → Bool) : Mails [] F to_ C be 0 := ⟨rfl, fun j hj => absurd hj (Nat.not_lt_zero j), fun j k m m' s s' _ h => by simp at h⟩
theorem Mails.more {L : List Ml} {F F' : List By} {to_ : Nat → Int} {C : Nat → List Int} {be : Nat → Bool} {n : Nat} (h : Mails L F to_ C be n) (hF : ∀ e ∈ F, e ∈ F') : Mails L F' to_ C be n :=
  ⟨h.len, fun j hj => by obtain ⟨u, h1, h2⟩ := h.at_ j hj; exact ⟨u, h1, h2.more hF⟩, h.sep⟩
theorem Mails.blk {L : List Ml} {F : List By} {to_ : Nat → Int} {C : Nat → List Int} {be : Nat → Bool} {n : Nat} (h : Mails L F to_ C be n) {j : Nat} {m : Ml} {s : Sl} (hm : L[j]? = some m) (hs : m.u = some s) : s.b ∈ F.map By.b := by
  have hj : j < n := by rw [← h.len]; exact (List.getElem?_eq_some_iff.1 hm).1
  obtain ⟨u, h1, h2⟩ := h.at_ j hj
  rw [hm] at h1
  obtain rfl : m = _ := by simpa using h1
  exact h2.blk hs
theorem Mails.put {L : List Ml} {F F' : List By} {to_ : Nat → Int} {C : Nat → List Int} {be : Nat → Bool} {n : Nat} {u : Option Sl} (h : Mails L F to_ C be n) (hM : Made F (C n) u F') {t : Int} {b : Bool} (ht : t = to_ n) (hb : b = be n) : Mails (L ++ [⟨t, u, 0, 0, b⟩]) F' to_ C be (n + 1) := by
  subst ht hb
  have h' := h.more hM.sub
  have app : ∀ j m, (L ++ [(⟨to_ n, u, 0, 0, be n⟩ : Ml)])[j]? = some m → (j < n ∧ L[j]? = some m) ∨ (j = n ∧ m = ⟨to_ n, u, 0, 0, be n⟩) := fun j m hm => by
    by_cases hj : j < n
    · rw [List.getElem?_append_left (by rw [h.len]; exact hj)] at hm
      exact .inl ⟨hj, hm⟩
    · have hl := (List.getElem?_eq_some_iff.1 hm).1
      rw [List.length_append, h.len] at hl
      have hl : j < n + 1 := hl
      obtain rfl : j = n := by omega
      rw [List.getElem?_append_right (by rw [h.len]; exact Nat.le_refl _), h.len, Nat.sub_self] at hm
      exact .inr ⟨rfl, by simpa using hm.symm⟩
  refine ⟨by rw [List.length_append, h.len]; rfl, fun j hj => ?_, fun j k m m' s s' hne hm hm' hs hs' => ?_⟩
  · by_cases e : j < n
    · obtain ⟨u', h1, h2⟩ := h'.at_ j e
      exact ⟨u', by rw [List.getElem?_append_left (by rw [h.len]; exact e)]; exact h1, h2⟩
    · obtain rfl : j = n := by omega
      exact ⟨u, by rw [List.getElem?_append_right (by rw [h.len]; exact Nat.le_refl _), h.len, Nat.sub_self]; rfl, made_own hM⟩
  · rcases app j m hm with ⟨h1, h2⟩ | ⟨rfl, rfl⟩ <;> rcases app k m' hm' with ⟨h3, h4⟩ | ⟨rfl, rfl⟩
    · exact h.sep j k m m' s s' hne h2 h4 hs hs'
    · exact fun e => made_fresh hM hs' (by rw [← e]; exact h.blk h2 hs)
    · exact fun e => made_fresh hM hs (by rw [e]; exact h.blk h4 hs')
    · exact absurd rfl hne
theorem Mails.congr {L : List Ml} {F : List By} {to_ to' : Nat → Int} {C C' : Nat → List Int} {be be' : Nat → Bool} {n : Nat} (h : Mails L F to_ C be n) (h1 : ∀ j, j < n → to' j = to_ j) (h2 : ∀ j, j < n → C' j = C j) (h3 : ∀ j, j < n → be' j = be j) : Mails L F to' C' be' n :=
  ⟨h.len, fun j hj => by rw [h1 j hj, h2 j hj, h3 j hj]; exact h.at_ j hj, h.sep⟩
/-- One mail is bent. -/
theorem Mails.bend {L : List Ml} {F : List By} {to_ : Nat → Int} {C : Nat → List Int} {be : Nat → Bool} {n a x : Nat} {v : Int} {e : By} (h : Mails L F to_ C be n) (he : e ∈ F) (hm : L[a]? = some ⟨to_ a, e.s, 0, 0, be a⟩) (hC : C a = e.bs) (ha : a < n) :
    Mails (L.set a ⟨to_ a, e.s, 0, 0, true⟩) (setB F e.b x v) to_ (fun j => if j = a then (C a).set x v else C j) (fun j => if j = a then true else be j) n := by
  have hal : a < L.length := by rw [h.len]; exact ha
  have old : ∀ (j : Nat) (m : Ml), (L.set a ⟨to_ a, e.s, 0, 0, true⟩)[j]? = some m → ∃ m' : Ml, L[j]? = some m' ∧ m.u = m'.u := fun j m hj => by
    by_cases ea : a = j
    · subst ea
      rw [List.getElem?_set_self hal] at hj
      obtain rfl : _ = m := by simpa using hj
      exact ⟨_, hm, rfl⟩
    · rw [List.getElem?_set_ne ea] at hj
      exact ⟨m, hj, rfl⟩
  refine ⟨by rw [List.length_set]; exact h.len, fun j hj => ?_, fun j k m m' s s' hne hj hk hs hs' => ?_⟩
  · by_cases ea : a = j
    · subst ea
      refine ⟨(⟨e.b, e.c, e.bs.set x v⟩ : By).s, ?_, ?_⟩
      · rw [List.getElem?_set_self hal, if_pos rfl]
        simp
      · rw [if_pos rfl, hC]
        exact .own (setB_same he)
    · obtain ⟨u, h1, h2⟩ := h.at_ j hj
      have ej : ¬ j = a := fun h => ea h.symm
      refine ⟨u, by rw [List.getElem?_set_ne ea, if_neg ej]; exact h1, ?_⟩
      rw [if_neg ej]
      rcases h2.or with ⟨rfl, hb⟩ | ⟨e', he', rfl, hb⟩
      · rw [hb]; exact .nil
      · rw [hb]; exact .own (setB_other he' (h.sep j a _ _ _ _ ej h1 hm rfl rfl))
  · obtain ⟨m1, g1, g2⟩ := old j m hj
    obtain ⟨m2, g3, g4⟩ := old k m' hk
    exact h.sep j k m1 m2 s s' hne g1 g3 (by rw [← g2]; exact hs) (by rw [← g4]; exact hs')
theorem memC_ren {ix : List (Nat × Nat)} {W : World} {F F' : List By} (h : F = F') : ChunkReLe ix (memC W F) (memC W F') := by
  subst h; exact ⟨id, Nat.le_refl _, fun j hj => absurd hj (Nat.not_lt_zero j)⟩
theorem airP_ren {ix : List (Nat × Nat)} {L L' : List Ml} (h : L = L') : ChunkReLe ix (airP L) (airP L') := by
  subst h; exact ⟨id, Nat.le_refl _, fun j hj => absurd hj (Nat.not_lt_zero j)⟩
theorem re_eq' {ix : List (Nat × Nat)} {v u : Value} (h : v = u) (hp : plain3 v = true) : Re ix v u := by subst h; exact .plain hp
theorem int_eq' {k : IntKind} {a b : Int} (h : a = b) : Value.int k a = .int k b := by rw [h]
theorem N.endM2 {v V : Value} {st : St} {W : World} (F : List By) (h1 : v = V) (h2 : st.h[0]? = some (some (memC W F))) : N (v = V ∧ ∃ F, st.h[0]? = some (some (memC W F))) := N.mk ⟨h1, F, h2⟩
/-- A byte that may not be bent. -/
theorem cBendArg (F : List By) (L : List Ml) (x : Nat) (q b : Int) (to_ at_ tr : Int) (u : Option Sl) (bs : List Int) (hm : L[x]? = some ⟨to_, u, at_, tr, false⟩) (ho : Own F u bs) (hno : ¬ ((0 ≤ q ∧ q < (bs.length : Nat)) ∧ b ≠ 0)) (i : Nat) (h : List (Option Chunk)) (hi : h[i]? = some (some (airP L))) :
    CallOK Try.prog 11 [.pointer (some ⟨i, 0, some 0⟩), .int .i64 (x : Nat), .int .i64 q, .int .u8 b] h (.int .i64 1) [(i, airP L)] [] := by
  by_cases h0 : q < 0
  · exact cBendArg1 L x q b to_ at_ tr u hm h0 i h hi
  · rcases ho.or with ⟨rfl, rfl⟩ | ⟨e, he, rfl, rfl⟩
    · exact cBendArg2 L x q b to_ at_ tr none hm (by omega) (by show (0 : Int) ≤ q; omega) i h hi
    · by_cases h1 : (e.bs.length : Int) ≤ q
      · exact cBendArg2 L x q b to_ at_ tr e.s hm (by omega) h1 i h hi
      · exact cBendArg3 L x q b to_ at_ tr e.s hm (by omega) (by show q < (e.bs.length : Nat); omega) (by
          by_cases hb : b = 0
          · exact hb
          · exact absurd ⟨⟨by omega, by omega⟩, hb⟩ hno) i h hi
theorem ne_str (x y : Operand) (s : ByteArray) : BinIs Try.prog .neq 9 x y (.string s) (.string s) (.bool false) := ⟨rfl, rfl, rfl, fun w => by go_simp⟩
theorem eq_str (x y : Operand) (s : ByteArray) : BinIs Try.prog .eql 9 x y (.string s) (.string s) (.bool true) := ⟨rfl, rfl, rfl, fun w => by go_simp⟩
/-- The second loop: how many were looked at, the bytes. -/
structure P2 where
  i : Nat
  F : List By
/-- The first loop: how many were put, the air, the bytes. -/
structure P1 where
  i : Nat
  L : List Ml
  F : List By
end Go.Proofs.Ytgikbmohmomgbaa.airOrder
