
/-
  AirPlays: what both airs have in common.
-/
import Derived.Test.YtgikbmohmomgbaaAirPlA
set_option linter.unusedVariables false
set_option linter.unusedSimpArgs false
namespace Go.Proofs.Ytgikbmohmomgbaa.airPlays
open Go Go.ChangeShapes Go.WideShapes Go.ChangeAt Go.RowKit Sx

/-- A mail's bytes are our own. -/
inductive Own (F : List By) : Option Sl → List Int → Prop
  | nil : Own F none []
  | own {e : By} (he : e ∈ F) : Own F e.s e.bs
theorem Own.src {W : World} {F : List By} {u : Option Sl} {bs : List Int} (h : Own F u bs) : Src W F u bs := by
  cases h with
  | nil => exact .nil
  | own he => exact .own he
theorem Own.more {F F' : List By} (hF : ∀ e ∈ F, e ∈ F') {u : Option Sl} {bs : List Int} (h : Own F u bs) : Own F' u bs := by
  cases h with
  | nil => exact .nil
  | own he => exact .own (hF _ he)
theorem Own.or {F : List By} {u : Option Sl} {bs : List Int} (h : Own F u bs) : (u = none ∧ bs = []) ∨ ∃ e ∈ F, u = e.s ∧ bs = e.bs := by
  cases h with
  | nil => exact .inl ⟨rfl, rfl⟩
  | own he => exact .inr ⟨_, he, rfl, rfl⟩
theorem Own.blk {F : List By} {u : Option Sl} {bs : List Int} (h : Own F u bs) {s : Sl} (hs : u = some s) : s.b ∈ F.map By.b := by
  cases h with
  | nil => cases hs
  | own he => cases hs; exact List.mem_map.2 ⟨_, he, rfl⟩
theorem made_own {F F' : List By} {bs : List Int} {u : Option Sl} (h : Made F bs u F') : Own F' u bs := by
  cases h with
  | nil h => subst h; exact .nil
  | new hb => exact .own (List.mem_cons_self ..)
theorem made_fresh {F F' : List By} {bs : List Int} {u : Option Sl} (h : Made F bs u F') {s : Sl} (hs : u = some s) : s.b ∉ F.map By.b := by
  cases h with
  | nil h => cases hs
  | new hb => cases hs; exact hb
/-- A block of a mail of ours. -/
def Ours (L : List Ml) (b : Nat) : Prop := ∃ m ∈ L, ∃ s, m.u = some s ∧ s.b = b
/-- Bytes that no mail of ours has. -/
inductive Sr (W : World) (F : List By) (P : Nat → Prop) : Option Sl → List Int → Prop
  | nil : Sr W F P none []
  | own {e : By} (he : e ∈ F) (ho : ¬ P e.b) : Sr W F P e.s e.bs
  | old {s : Sl} {bs : List Int} (hn : bs.length = s.n) (hs : s.sp = none ∨ s.n = 0) (hc : ∀ j, j < bs.length → W.cell? ⟨s.b, s.o + j, none⟩ = some (.int .u8 (bs.getD j 0))) : Sr W F P (some s) bs
theorem Sr.src {W : World} {F : List By} {P : Nat → Prop} {u : Option Sl} {bs : List Int} (h : Sr W F P u bs) : Src W F u bs := by
  cases h with
  | nil => exact .nil
  | own he ho => exact .own he
  | old hn hs hc => exact .old hn hs hc
theorem Sr.of {W : World} {F : List By} {P : Nat → Prop} {u : Option Sl} {bs : List Int} (h : Src W [] u bs) : Sr W F P u bs := by
  cases h with
  | nil => exact .nil
  | own he => cases he
  | old hn hs hc => exact .old hn hs hc
theorem Sr.more {W : World} {F F' : List By} {P P' : Nat → Prop} {u : Option Sl} {bs : List Int} (h : Sr W F P u bs) (hF : ∀ e ∈ F, e ∈ F') (hP : ∀ b, b ∈ F.map By.b → P' b → P b) : Sr W F' P' u bs := by
  cases h with
  | nil => exact .nil
  | own he ho => exact .own (hF _ he) fun h => ho (hP _ (List.mem_map.2 ⟨_, he, rfl⟩) h)
  | old hn hs hc => exact .old hn hs hc
/-- Both airs: the same mails; ours have bytes of their own. -/
structure AirR (W : World) (F : List By) (L L' : List Ml) : Prop where
  len : L.length = L'.length
  most : L.length ≤ 512
  at_ : ∀ (j : Nat) (m : Ml), L[j]? = some m → ∃ u' bs, L'[j]? = some ⟨m.to_, u', m.at_, m.tr, m.be⟩ ∧ bs.length ≤ 1000 ∧ Own F m.u bs ∧ Sr W F (Ours L) u' bs
  sep : ∀ (j k : Nat) (m m' : Ml) (s s' : Sl), j ≠ k → L[j]? = some m → L[k]? = some m' → m.u = some s → m'.u = some s' → s.b ≠ s'.b
theorem AirR.nil {W : World} : AirR W [] [] [] := ⟨rfl, by decide, fun j m h => by simp at h, fun j k m m' s s' _ h => by simp at h⟩
theorem AirR.ours {W : World} {F : List By} {L L' : List Ml} (h : AirR W F L L') {b : Nat} (hb : Ours L b) : b ∈ F.map By.b := by
  obtain ⟨m, hm, s, hs, rfl⟩ := hb
  obtain ⟨j, hj⟩ := List.getElem?_of_mem hm
  obtain ⟨u', bs, _, _, ho, _⟩ := h.at_ j m hj
  exact ho.blk hs
theorem AirR.more {W : World} {F F' : List By} {L L' : List Ml} (h : AirR W F L L') (hF : ∀ e ∈ F, e ∈ F') : AirR W F' L L' :=
  ⟨h.len, h.most, fun j m hj => by
    obtain ⟨u', bs, h1, h2, h3, h4⟩ := h.at_ j m hj
    exact ⟨u', bs, h1, h2, h3.more hF, h4.more hF fun _ _ hb => hb⟩, h.sep⟩
theorem AirR.app {W : World} {F F' : List By} {L L' : List Ml} (h : AirR W F L L') (hl : L.length < 512) (hF : ∀ e ∈ F, e ∈ F') {to_ at_ tr : Int} {be : Bool} {u2 u' : Option Sl} {bs : List Int} (ho : Own F' u2 bs) (hf : ∀ s, u2 = some s → s.b ∉ F.map By.b) (hb : bs.length ≤ 1000) (hr : Sr W F' (Ours (L ++ [⟨to_, u2, at_, tr, be⟩])) u' bs) :
    AirR W F' (L ++ [⟨to_, u2, at_, tr, be⟩]) (L' ++ [⟨to_, u', at_, tr, be⟩]) := by
  have app : ∀ (j : Nat) (m : Ml), (L ++ [(⟨to_, u2, at_, tr, be⟩ : Ml)])[j]? = some m → (j < L.length ∧ L[j]? = some m) ∨ (j = L.length ∧ m = ⟨to_, u2, at_, tr, be⟩) := fun j m hm => by
    by_cases hj : j < L.length
    · rw [List.getElem?_append_left hj] at hm
      exact .inl ⟨hj, hm⟩
    · have hl := (List.getElem?_eq_some_iff.1 hm).1
      rw [List.length_append] at hl
      have hl : j < L.length + 1 := hl
      obtain rfl : j = L.length := by omega
      rw [List.getElem?_append_right (Nat.le_refl _), Nat.sub_self] at hm
      exact .inr ⟨rfl, by simpa using hm.symm⟩
  have hOu : ∀ b, b ∈ F.map By.b → Ours (L ++ [⟨to_, u2, at_, tr, be⟩]) b → Ours L b := fun b hb ⟨m, hm, s, hs, e⟩ => by
    rcases List.mem_append.1 hm with hm | hm
    · exact ⟨m, hm, s, hs, e⟩
    · obtain rfl := List.mem_singleton.1 hm
      subst e
      exact absurd hb (hf s hs)
  refine ⟨by rw [List.length_append, List.length_append, h.len]; rfl, by rw [List.length_append]; exact hl, fun j m hm => ?_, fun j k m m' s s' hne hm hm' hs hs' => ?_⟩
  · rcases app j m hm with ⟨hj, hm⟩ | ⟨rfl, rfl⟩
    · obtain ⟨u', bs, h1, h2, h3, h4⟩ := h.at_ j m hm
      exact ⟨u', bs, by rw [List.getElem?_append_left (by rw [← h.len]; exact hj)]; exact h1, h2, h3.more hF, h4.more hF hOu⟩
    · exact ⟨u', bs, by rw [h.len, List.getElem?_append_right (Nat.le_refl _), Nat.sub_self]; rfl, hb, ho, hr⟩
  · rcases app j m hm with ⟨h1, h2⟩ | ⟨rfl, rfl⟩ <;> rcases app k m' hm' with ⟨h3, h4⟩ | ⟨rfl, rfl⟩
    · exact h.sep j k m m' s s' hne h2 h4 hs hs'
    · exact fun e => hf s' hs' (by rw [← e]; exact h.ours ⟨m, List.mem_of_getElem? h2, s, hs, rfl⟩)
    · exact fun e => hf s hs (by rw [e]; exact h.ours ⟨m', List.mem_of_getElem? h4, s', hs', rfl⟩)
    · exact absurd rfl hne
/-- The same mail once more. -/
theorem AirR.dbl {W : World} {F F1 F2 : List By} {L L' : List Ml} (h : AirR W F L L') (hl : L.length < 512) {to_ at_ tr : Int} {be : Bool} {u1 u2 u' : Option Sl} {bs : List Int} (h1 : Made F bs u1 F1) (h2 : Made F1 bs u2 F2) (hb : bs.length ≤ 1000) (hr : Sr W F (Ours L) u' bs) :
    AirR W F2 (L ++ [⟨to_, u2, at_, tr, be⟩]) (L' ++ [⟨to_, u', at_, tr, be⟩]) := by
  have hF : ∀ e ∈ F, e ∈ F2 := fun e he => h2.sub e (h1.sub e he)
  have hf : ∀ s, u2 = some s → s.b ∉ F.map By.b := fun s hs hb => made_fresh h2 hs (by
    obtain ⟨e, he, hb⟩ := List.mem_map.1 hb
    exact List.mem_map.2 ⟨e, h1.sub e he, hb⟩)
  refine h.app hl hF (made_own h2) hf hb (hr.more hF fun b hb ⟨m, hm, s, hs, e⟩ => ?_)
  rcases List.mem_append.1 hm with hm | hm
  · exact ⟨m, hm, s, hs, e⟩
  · obtain rfl := List.mem_singleton.1 hm
    subst e
    exact absurd hb (hf s hs)
/-- A mail goes. -/
theorem AirR.del {W : World} {F : List By} {L L' : List Ml} (h : AirR W F L L') (x : Nat) (hx : x < L.length) : AirR W F (L.eraseIdx x) (L'.eraseIdx x) := by
  have hx' : x < L'.length := by rw [← h.len]; exact hx
  have up : ∀ j, ∃ j', (L.eraseIdx x)[j]? = L[j']? ∧ (L'.eraseIdx x)[j]? = L'[j']? ∧ j' = (if j < x then j else j + 1) := fun j => by
    rw [List.getElem?_eraseIdx, List.getElem?_eraseIdx]
    by_cases e : j < x
    · exact ⟨j, by rw [if_pos e], by rw [if_pos e], by rw [if_pos e]⟩
    · exact ⟨j + 1, by rw [if_neg e], by rw [if_neg e], by rw [if_neg e]⟩
  refine ⟨by rw [List.length_eraseIdx_of_lt hx, List.length_eraseIdx_of_lt hx', h.len], by rw [List.length_eraseIdx_of_lt hx]; have := h.most; omega, fun j m hm => ?_, fun j k m m' s s' hne hm hm' hs hs' => ?_⟩
  · obtain ⟨j', e1, e2, _⟩ := up j
    rw [e1] at hm
    obtain ⟨u', bs, h1, h2, h3, h4⟩ := h.at_ j' m hm
    exact ⟨u', bs, by rw [e2]; exact h1, h2, h3, h4.more (fun _ h => h) fun b _ ⟨m, hm, s, hs, e⟩ => ⟨m, List.mem_of_mem_eraseIdx hm, s, hs, e⟩⟩
  · obtain ⟨j', e1, _, ej⟩ := up j
    obtain ⟨k', e2, _, ek⟩ := up k
    rw [e1] at hm
    rw [e2] at hm'
    exact h.sep j' k' m m' s s' (by rw [ej, ek]; split <;> split <;> omega) hm hm' hs hs'
/-- A byte of a mail is turned in both. -/
theorem AirR.bend {W : World} {F : List By} {L L' : List Ml} (h : AirR W F L L') {x q g k : Nat} {v : Int} {e : By} {to_ at_ tr : Int} {be : Bool} (he : e ∈ F) (hm : L[x]? = some ⟨to_, e.s, at_, tr, be⟩) (hg : g ∉ (setB F e.b q v).map By.b) (hb : e.bs.length ≤ 1000) :
    AirR W (setB (⟨g, k, e.bs⟩ :: setB F e.b q v) g q v) (L.set x ⟨to_, e.s, at_, tr, true⟩) (L'.set x ⟨to_, (By.mk g k e.bs).s, at_, tr, true⟩) := by
  rw [setB_b] at hg
  have hx : x < L.length := (List.getElem?_eq_some_iff.1 hm).1
  have hx' : x < L'.length := by rw [← h.len]; exact hx
  have hge : ∀ e' ∈ F, e'.b ≠ g := fun e' he' h => hg (List.mem_map.2 ⟨e', he', h⟩)
  have keep : ∀ e' ∈ setB F e.b q v, e'.b ≠ g → e' ∈ setB (⟨g, k, e.bs⟩ :: setB F e.b q v) g q v := fun e' he' hn => setB_other (List.mem_cons_of_mem _ he') hn
  have old : ∀ (j : Nat) (m : Ml), (L.set x ⟨to_, e.s, at_, tr, true⟩)[j]? = some m → ∃ m' : Ml, L[j]? = some m' ∧ m.u = m'.u := fun j m hj => by
    by_cases ea : x = j
    · subst ea
      rw [List.getElem?_set_self hx] at hj
      obtain rfl : _ = m := by simpa using hj
      exact ⟨_, hm, rfl⟩
    · rw [List.getElem?_set_ne ea] at hj
      exact ⟨m, hj, rfl⟩
  have hO : ∀ b, Ours (L.set x ⟨to_, e.s, at_, tr, true⟩) b → Ours L b := fun b ⟨m, hm, s, hs, eb⟩ => by
    obtain ⟨j, hj⟩ := List.getElem?_of_mem hm
    obtain ⟨m', h1, h2⟩ := old j m hj
    exact ⟨m', List.mem_of_getElem? h1, s, by rw [← h2]; exact hs, eb⟩
  have hEo : Ours L e.b := ⟨_, List.mem_of_getElem? hm, _, rfl, rfl⟩
  refine ⟨by rw [List.length_set, List.length_set]; exact h.len, by rw [List.length_set]; exact h.most, fun j m hj => ?_, fun j l m m' s s' hne hj hl hs hs' => ?_⟩
  · by_cases ea : x = j
    · subst ea
      rw [List.getElem?_set_self hx] at hj
      obtain rfl : _ = m := by simpa using hj
      refine ⟨(By.mk g k e.bs).s, e.bs.set q v, by rw [List.getElem?_set_self hx'], by rw [List.length_set]; exact hb, ?_, ?_⟩
      · have e1 : e.s = (⟨e.b, e.c, e.bs.set q v⟩ : By).s := by simp [By.s]
        show Own _ e.s (e.bs.set q v)
        rw [e1]
        exact .own (keep _ (setB_same he) (hge e he))
      · have e1 : (By.mk g k e.bs).s = (⟨g, k, e.bs.set q v⟩ : By).s := by simp [By.s]
        rw [e1]
        exact .own (setB_same (F := ⟨g, k, e.bs⟩ :: setB F e.b q v) (e := ⟨g, k, e.bs⟩) (List.mem_cons_self ..)) fun hh => hg (h.ours (hO _ hh))
    · rw [List.getElem?_set_ne ea] at hj
      obtain ⟨u', bs, h1, h2, h3, h4⟩ := h.at_ j m hj
      refine ⟨u', bs, by rw [List.getElem?_set_ne ea]; exact h1, h2, ?_, ?_⟩
      · rcases h3.or with ⟨e1, e2⟩ | ⟨e', he', e1, e2⟩
        · rw [e1, e2]; exact .nil
        · rw [e1, e2]
          exact .own (keep _ (setB_other he' (h.sep j x _ _ _ _ (Ne.symm ea) hj hm e1 rfl)) (hge e' he'))
      · cases h4 with
        | nil => exact .nil
        | @own e' he' ho =>
          refine .own (keep _ (setB_other he' fun hb => ho (by rw [hb]; exact hEo)) (hge e' he')) fun hh => ho (hO _ hh)
        | old hn hs hc => exact .old hn hs hc
  · obtain ⟨m1, g1, g2⟩ := old j m hj
    obtain ⟨m2, g3, g4⟩ := old l m' hl
    exact h.sep j l m1 m2 s s' hne g1 g3 (by rw [← g2]; exact hs) (by rw [← g4]; exact hs')
theorem AirR.bent {W : World} {F : List By} {L L' : List Ml} (h : AirR W F L L') {q : Nat} {v : Int} {e : By} {u' : Option Sl} {bs : List Int} (hEo : Ours L e.b) (hr : Sr W F (Ours L) u' bs) : Src W (setB F e.b q v) u' bs := by
  cases hr with
  | nil => exact .nil
  | @own e' he' ho => exact .own (setB_other he' fun hb => ho (by rw [hb]; exact hEo))
  | old hn hs hc => exact .old hn hs hc
theorem memC_ren {ix : List (Nat × Nat)} {W : World} {F F' : List By} (h : F = F') : ChunkReLe ix (memC W F) (memC W F') := by
  subst h; exact ⟨id, Nat.le_refl _, fun j hj => absurd hj (Nat.not_lt_zero j)⟩
theorem airP_ren {ix : List (Nat × Nat)} {L L' : List Ml} (h : L = L') : ChunkReLe ix (airP L) (airP L') := by
  subst h; exact ⟨id, Nat.le_refl _, fun j hj => absurd hj (Nat.not_lt_zero j)⟩
theorem refC_ren {ix : List (Nat × Nat)} {u : Option Sl} {L : List Ml} : ChunkReLe ix (refC u L) (refC u L) := ⟨id, Nat.le_refl _, refC_re⟩
theorem refC_ren0 {ix : List (Nat × Nat)} {c : Chunk} (ho : c.own = true) (hn : 1 ≤ c.n) (hf : c.f 0 = .slice none 0 0) : ChunkReLe ix (refC none []) c :=
  @ChunkReLe.mk ix (refC none []) c ⟨.inl rfl⟩ (fun _ => ho) hn fun j hj => by
    have hj : j < 1 := hj
    obtain rfl : j = 0 := by omega
    rw [hf]; exact .any (fun _ _ => rfl)
theorem re_eq' {ix : List (Nat × Nat)} {v u : Value} (h : v = u) (hp : plain3 v = true) : Re ix v u := by subst h; exact .plain hp
theorem int_eq' {k : IntKind} {a b : Int} (h : a = b) : Value.int k a = .int k b := by rw [h]
theorem N.endM2 {v V : Value} {st : St} {W : World} (F : List By) (h1 : v = V) (h2 : st.h[0]? = some (some (memC W F))) : N (v = V ∧ ∃ F, st.h[0]? = some (some (memC W F))) := N.mk ⟨h1, F, h2⟩
/-- The loop: how many calls there were, the document's slice, both airs, the bytes. -/
structure P3 where
  i : Nat
  u : Option Sl
  L : List Ml
  L' : List Ml
  F : List By
theorem bne_self (b : Bool) : (b != b) = false := by cases b <;> rfl
/-- Both airs answer Get alike. -/
theorem getBoth {W : World} {F : List By} {L L' : List Ml} {u : Option Sl} (hR : AirR W F L L') (hu : UOK u L') (k : Int) : ∃ to_ at_ tr be uk bk b, (∀ (h : List (Option Chunk)), h[1]? = some (some (airP L)) → h[0]? = some (some (memC W F)) → CallAll Try.prog 13 [.pointer (some ⟨1, 0, some 0⟩), .int .i64 k] h (fun v ms => ∃ u1 F1, (∀ e ∈ F, e ∈ F1) ∧ Src W F1 u1 bk ∧ v = .tuple ⟨[mailV to_ u1 at_ tr be, .bool b]⟩ ∧ ms = [(1, airP L), (0, memC W F1)])) ∧
    (∀ (h : List (Option Chunk)), h[5]? = some (some (refC u L')) → CallOK Try.prog 20 [.pointer (some ⟨5, 0, some 0⟩), .int .i64 k] h (.tuple ⟨[mailV to_ uk at_ tr be, .bool b]⟩) [(5, refC u L')] []) ∧ Src W F uk bk := by
  by_cases hk : 0 ≤ k ∧ k < (L.length : Nat)
  · obtain ⟨kn, rfl⟩ : ∃ kn : Nat, k = kn := ⟨k.toNat, by omega⟩
    obtain ⟨mk, hmk⟩ : ∃ m, L[kn]? = some m := ⟨_, List.getElem?_eq_getElem (by omega)⟩
    obtain ⟨uk, bk, hk1, hk2, hk3, hk4⟩ := hR.at_ kn mk hmk
    refine ⟨mk.to_, mk.at_, mk.tr, mk.be, uk, bk, true, fun h h1 h0 => ?_, fun h h5 => cQGetY _ _ hu kn _ hk1 5 h h5, hk4.src⟩
    refine CallAll.to (cGetM W F L kn mk bk 1 0 (by decide) h h1 h0 hmk hk3.src (by omega)) ?_
    rintro v ms ⟨u', F', hM, rfl, rfl⟩
    exact ⟨u', F', hM.sub, hM.src, rfl, rfl⟩
  · refine ⟨0, 0, 0, false, none, [], false, fun h h1 h0 => ?_, fun h h5 => cQGetBad _ _ hu k (by rw [← hR.len]; omega) 5 h h5, .nil⟩
    have key := cGetBad L k (by omega) 1 h h1
    intro X ρ w xs H hx
    have hk := key h (fun i hi => rfl) (fun m hm => rfl) X ρ w xs H hx
    have e : modH h [(1, airP L)] = modH h [(1, airP L), (0, memC W F)] := by
      show h.set 1 (some (airP L)) = (h.set 1 (some (airP L))).set 0 (some (memC W F))
      rw [set_here h1, set_here h0]
    rw [e] at hk
    rcases hk with ⟨x, w', hr, ρ', ha, hh, hd⟩ | ⟨hr, hcl⟩
    · exact .inl ⟨x, w', hr, _, _, ρ', ⟨none, F, fun _ h => h, .nil, rfl, rfl⟩, ha, hh, hd⟩
    · refine .inr ⟨hr, hcl.mono ?_⟩
      rintro e w' ⟨x, he, ρ', ha, hh, hd⟩
      exact ⟨x, he, _, _, ρ', ⟨none, F, fun _ h => h, .nil, rfl, rfl⟩, ha, hh, hd⟩
end Go.Proofs.Ytgikbmohmomgbaa.airPlays
