/-
  A function that writes one stretch of cells, through a pointer: its contract, as the evaluator takes it.
-/
import Derived.Test.YtioohgocbpdkeaaTwr
import Derived.Test.YtioohgocbpdkeaaSub
set_option linter.unusedVariables false
set_option linter.unusedSimpArgs false
namespace Go.Proofs.Ytioohgocbpdkeaa.Sx
open Go Go.RowKit

def HeadLe (d : Chunk) (h : List (Option Chunk)) : Prop := ∃ c r, h = some c :: r ∧ ChunkLe d c

section
variable {P : Program} {G : Tys}
theorem call_ptr {g : FuncId} {fn : Func} {cd : Code} {h : List (Option Chunk)} {i f n : Nat} {ps : List (Nat × Nat × Value)} {rest : List Value} {V : Value} {d : Chunk}
    (hG : TysOK P G) (hm : P.follows .mixedOrders = true) (hf : P.funcs[g]? = some fn) (hb : fn.body = some cd) (hr : ∀ xs w, (callFunc g xs).run P w = .ok (.enter g xs) w)
    (hi : h[i]? = some (some ⟨true, n, ps⟩)) (hps : ∀ j, j < n → plain1 (cellOf ps j) = true) (hd : d.own = true) (hn : d.n = n) (hds : ∀ j, j < n → plain1 (d.f j) = true) (hrest : rest.all plain2 = true) (hV : plain3 V = true)
    (hwp : initK (.pointer (some ⟨0, f, some 0⟩) :: rest) fn.ntmps fun t => wpC P G 1 cd (bodyQ P G fn fun v st => N (Obl (v = V) (N (Obl (HeadLe d st.h) (N True))))) ⟨t, [some ⟨true, n, ps⟩]⟩) :
    CallOK P g (.pointer (some ⟨i, f, some 0⟩) :: rest) h V [(i, d)] [] := fun h₂ _ hms X ρ w xs H hx => by
  have h2 : h₂[i]? = some (some ⟨true, n, ps⟩) := (hms (i, d) (by simp)).trans hi
  have hl := (List.getElem?_eq_some_iff.1 h2).1
  match xs, hx with
  | [], hx => exact hx.elim
  | x0 :: xr, hx =>
  obtain ⟨hx0, hxr⟩ := hx
  obtain rfl := den_all_eq hrest hxr
  have hx0 := hx0.self
  subst hx0
  refine .inr ⟨hr _ w, ?_⟩
  let M' : Addr → Prop := fun a => a.block = (ρ i).1 ∧ (ρ i).2 ≤ a.off ∧ a.off < (ρ i).2 + n ∧ a.spot = none
  have H' : HOK ⟨w, M', 1, fun _ => ρ i⟩ (fun _ => ρ i) [some ⟨true, n, ps⟩] w := by
    refine ⟨Evo.refl _ _, fun k hk => ?_, fun k c hk => ?_, fun k c hk j hj => ?_, fun k c hk ho j hj => ?_, fun k c l e hk ho hl hne => ?_⟩
    · have hk : k < 1 := hk
      obtain rfl : k = 0 := by omega
      exact ⟨⟨_, rfl⟩, rfl⟩
    · exact H.lt _ _ h2
    · cases k with
      | zero =>
        obtain rfl : (⟨true, n, ps⟩ : Chunk) = c := by simpa using hk
        obtain ⟨x, hx, hdx⟩ := H.cell _ _ h2 j hj
        have := den1_any (hps j hj) hdx
        exact ⟨x, hx, by rw [this]; exact Den1.plain (hps j hj)⟩
      | succ k => simp at hk
    · cases k with
      | zero =>
        obtain rfl : (⟨true, n, ps⟩ : Chunk) = c := by simpa using hk
        exact ⟨(H.own _ _ h2 rfl j hj).1, .inr ⟨rfl, Nat.le_add_right _ _, Nat.add_lt_add_left hj _, rfl⟩⟩
      | succ k => simp at hk
    · cases k with
      | zero =>
        cases l with
        | zero => exact absurd rfl hne
        | succ l => simp at hl
      | succ k => simp at hk
  have hargs : All2 (Den (Fil [some ⟨true, n, ps⟩]) (fun _ => ρ i)) (.pointer (some ⟨0, f, some 0⟩) :: xr) (den ρ (.pointer (some ⟨i, f, some 0⟩)) :: xr) := by
    refine ⟨fun r hrr => ?_, den_all hrest⟩
    have := hrr 0 ⟨_, rfl⟩
    simp only [den, den2, den1, den0, denA, this]
  refine (calls_sx (X := ⟨w, M', 1, fun _ => ρ i⟩) (args := ⟨den ρ (.pointer (some ⟨i, f, some 0⟩)) :: xr⟩) hG hm hf hb H' hargs hwp).mono ?_
  rintro e w' ⟨ρ1, v, st, x, rfl, H1, hdx, hq⟩
  have q1 : v = V ∧ N (Obl (HeadLe d st.h) (N True)) := N.out hq
  have q2 : HeadLe d st.h ∧ N True := N.out q1.2
  have ev := q1.1
  subst ev
  obtain ⟨c, r, hst, hle⟩ := q2.1
  have hc0 : st.h[0]? = some (some c) := by rw [hst]; rfl
  have hρ : ρ1 0 = ρ i := (H1.base 0 (show 0 < 1 by decide)).2
  obtain ⟨hle1, hle2, hle3⟩ := hle
  have e1 : w.heap.size ≤ w'.heap.size := H1.evo.size
  have hsp : ∀ b, ¬ M' ⟨b, 0, some 0⟩ := fun b hb => by simp [M'] at hb
  have same : ∀ k c', h₂[k]? = some (some c') → k ≠ i → w'.heap[(ρ k).1]? = w.heap[(ρ k).1]? := fun k c' hk hne =>
    H1.evo.same (H.lt _ _ hk) (hsp _) fun j hj => H.sep _ _ _ _ h2 rfl hk (fun e => hne e.symm) hj.1.symm
  have get : ∀ k e, (h₂.set i (some d))[k]? = some (some e) → (k = i ∧ e = d) ∨ (k ≠ i ∧ h₂[k]? = some (some e)) := fun k e hk => by
    by_cases ek : i = k
    · subst ek
      rw [List.getElem?_set_self hl] at hk
      exact .inl ⟨rfl, by simpa using hk.symm⟩
    · rw [List.getElem?_set_ne ek] at hk
      exact .inr ⟨fun h => ek h.symm, hk⟩
  have fil : ∀ k, Fil h₂ k → Fil (h₂.set i (some d)) k := fun k hk => hk.set
  refine ⟨x, rfl, ρ, AgreeOn.refl _ _, ?_, ?_⟩
  · show HOK X ρ (h₂.set i (some d)) w'
    refine ⟨H.evo.into H1.evo hsp fun p j hj => ?_, fun k hk => ⟨fil k (H.base k hk).1, (H.base k hk).2⟩, fun k e hk => ?_, fun k e hk j hj => ?_, fun k e hk hoe j hj => ?_, fun k e l f' hk hoe hlf hne => ?_⟩
    · obtain ⟨m1, m2, m3, _⟩ := hj
      have m1 : p = (ρ i).1 := m1
      have m2 : (ρ i).2 ≤ j := m2
      have m3 : j < (ρ i).2 + n := m3
      have := (H.own _ _ h2 rfl (j - (ρ i).2) (by show _ < n; omega)).2
      rw [show (ρ i).2 + (j - (ρ i).2) = j from by omega, ← m1] at this
      exact this
    · rcases get k e hk with ⟨rfl, rfl⟩ | ⟨_, hk⟩
      · exact Nat.lt_of_lt_of_le (H.lt _ _ h2) e1
      · exact Nat.lt_of_lt_of_le (H.lt _ _ hk) e1
    · rcases get k e hk with ⟨rfl, rfl⟩ | ⟨hne, hk⟩
      · obtain ⟨y, hy, hdy⟩ := H1.cell 0 c hc0 j (Nat.lt_of_lt_of_le hj hle2)
        rw [hρ] at hy
        refine ⟨y, hy, ?_⟩
        have hp := hds j (hn ▸ hj)
        rw [← hle3 j hj] at hdy
        have := den1_any hp hdy
        rw [this]; exact Den1.plain hp
      · obtain ⟨y, hy, hdy⟩ := H.cell _ _ hk j hj
        refine ⟨y, ?_, hdy.more (AgreeOn.refl _ _) fil⟩
        have := same k e hk hne
        rw [← hy]
        unfold World.cell?
        simp only [this]
    · rcases get k e hk with ⟨rfl, rfl⟩ | ⟨hne, hk⟩
      · have hj' : j < c.n := Nat.lt_of_lt_of_le hj hle2
        have := (H1.own 0 c hc0 (hle1 hd) j hj').1
        rw [hρ] at this
        exact ⟨this, (H.own _ _ h2 rfl j (hn ▸ hj)).2⟩
      · obtain ⟨hy, hdy⟩ := H.own _ _ hk hoe j hj
        refine ⟨?_, hdy⟩
        have := same k e hk hne
        rw [← hy]
        unfold World.frozen?
        simp only [this]
    · rcases get k e hk with ⟨rfl, rfl⟩ | ⟨hk1, hk'⟩ <;> rcases get l f' hlf with ⟨rfl, rfl⟩ | ⟨hl1, hl'⟩
      · exact absurd rfl hne
      · exact H.sep _ _ _ _ h2 rfl hl' hne
      · exact H.sep _ _ _ _ hk' hoe h2 hne
      · exact H.sep _ _ _ _ hk' hoe hl' hne
  · have : x = v := by rw [← hdx.self, den_plain3 hV]
    rw [this]; exact fun r _ => den_plain3 hV r
/-- A function that returns a pointer to a new stretch. -/
def NewAt (d : Chunk) (v : Value) (h : List (Option Chunk)) : Prop := ∃ k c, v = .pointer (some ⟨k, 0, some 0⟩) ∧ h[k]? = some (some c) ∧ ChunkLe d c
theorem call_new {g : FuncId} {fn : Func} {cd : Code} {h : List (Option Chunk)} {i : Nat} {rest : List Value} {d : Chunk}
    (hG : TysOK P G) (hm : P.follows .mixedOrders = true) (hf : P.funcs[g]? = some fn) (hb : fn.body = some cd) (hr : ∀ xs w, (callFunc g xs).run P w = .ok (.enter g xs) w)
    (hi : h[i]? = some none) (hd : d.own = true) (hn0 : 0 < d.n) (hds : ∀ j, j < d.n → plain1 (d.f j) = true) (hrest : rest.all plain2 = true)
    (hwp : initK rest fn.ntmps fun t => wpC P G 0 cd (bodyQ P G fn fun v st => N (Obl (NewAt d v st.h) (N True))) ⟨t, []⟩) :
    CallOK P g rest h (.pointer (some ⟨i, 0, some 0⟩)) [(i, d)] [] := fun h₂ _ hms X ρ w xs H hx => by
  have h2 : h₂[i]? = some none := (hms (i, d) (by simp)).trans hi
  have hl := (List.getElem?_eq_some_iff.1 h2).1
  obtain rfl := den_all_eq hrest hx
  refine .inr ⟨hr _ w, ?_⟩
  have H' : HOK ⟨w, fun _ => False, 0, fun _ => (0, 0)⟩ (fun _ => (0, 0)) [] w := ⟨Evo.refl _ _, fun i hi => absurd hi (by simp), fun i c hi => by simp at hi, fun i c hi => by simp at hi, fun i c hi => by simp at hi, fun i c j d hi => by simp at hi⟩
  refine (calls_sx (X := ⟨w, fun _ => False, 0, fun _ => (0, 0)⟩) hG hm hf hb H' (den_all hrest) hwp).mono ?_
  rintro e w' ⟨ρ1, v, st, x, rfl, H1, hdx, hq⟩
  have q1 : NewAt d v st.h ∧ N True := N.out hq
  obtain ⟨k0, c, hv, hc0, hle1, hle2, hle3⟩ := q1.1
  subst hv
  have Hf := H.frame H1.evo.below
  have hown := H1.own k0 c hc0 (hle1 hd)
  have hge : w.heap.size ≤ (ρ1 k0).1 := by
    rcases (hown 0 (Nat.lt_of_lt_of_le hn0 hle2)).2 with h | h
    · exact h
    · exact h.elim
  let ρ' : Nat → Nat × Nat := fun j => if j = i then ρ1 k0 else ρ j
  have ρi : ρ' i = ρ1 k0 := if_pos rfl
  have ρn : ∀ j, j ≠ i → ρ' j = ρ j := fun j hj => if_neg hj
  have nf : ∀ j, Fil h₂ j → j ≠ i := fun j ⟨e, he⟩ hj => by subst hj; rw [h2] at he; simp at he
  have ag : AgreeOn (Fil h₂) ρ ρ' := fun j hj => ρn j (nf j hj)
  have get : ∀ k e, (h₂.set i (some d))[k]? = some (some e) → (k = i ∧ e = d) ∨ (k ≠ i ∧ h₂[k]? = some (some e)) := fun k e hk => by
    by_cases ek : i = k
    · subst ek
      rw [List.getElem?_set_self hl] at hk
      exact .inl ⟨rfl, by simpa using hk.symm⟩
    · rw [List.getElem?_set_ne ek] at hk
      exact .inr ⟨fun h => ek h.symm, hk⟩
  have fil : ∀ k, Fil h₂ k → Fil (h₂.set i (some d)) k := fun k hk => hk.set
  refine ⟨x, rfl, ρ', ag, ?_, ?_⟩
  · show HOK X ρ' (h₂.set i (some d)) w'
    refine ⟨Hf.evo, fun k hk => ⟨fil k (Hf.base k hk).1, (ρn k (nf k (Hf.base k hk).1)).trans (Hf.base k hk).2⟩, fun k e hk => ?_, fun k e hk j hj => ?_, fun k e hk hoe j hj => ?_, fun k e l f' hk hoe hlf hne => ?_⟩
    · rcases get k e hk with ⟨rfl, rfl⟩ | ⟨hne, hk⟩
      · rw [ρi]; exact H1.lt _ _ hc0
      · rw [ρn _ hne]; exact Hf.lt _ _ hk
    · rcases get k e hk with ⟨rfl, rfl⟩ | ⟨hne, hk⟩
      · obtain ⟨y, hy, hdy⟩ := H1.cell k0 c hc0 j (Nat.lt_of_lt_of_le hj hle2)
        rw [ρi]
        refine ⟨y, hy, ?_⟩
        have hp := hds j hj
        rw [← hle3 j hj] at hdy
        have := den1_any hp hdy
        rw [this]; exact Den1.plain hp
      · rw [ρn _ hne]
        obtain ⟨y, hy, hdy⟩ := Hf.cell _ _ hk j hj
        exact ⟨y, hy, hdy.more ag fil⟩
    · rcases get k e hk with ⟨rfl, rfl⟩ | ⟨hne, hk⟩
      · rw [ρi]
        exact ⟨(hown j (Nat.lt_of_lt_of_le hj hle2)).1, .inl (Nat.le_trans H.evo.size hge)⟩
      · rw [ρn _ hne]; exact Hf.own _ _ hk hoe j hj
    · rcases get k e hk with ⟨rfl, rfl⟩ | ⟨hk1, hk'⟩ <;> rcases get l f' hlf with ⟨rfl, rfl⟩ | ⟨hl1, hl'⟩
      · exact absurd rfl hne
      · rw [ρi, ρn _ hl1]; have := H.lt _ _ hl'; omega
      · rw [ρi, ρn _ hk1]; have := H.lt _ _ hk'; omega
      · rw [ρn _ hk1, ρn _ hl1]; exact Hf.sep _ _ _ _ hk' hoe hl' hne
  · intro r hrr
    have e1 := hdx.self
    rw [← e1]
    have := hrr i ⟨d, by rw [show modH h₂ [(i, d)] = h₂.set i (some d) from rfl, List.getElem?_set_self hl]⟩
    rw [ρi] at this
    simp only [den, den2, den1, den0, denA, this]
end
end Go.Proofs.Ytioohgocbpdkeaa.Sx
