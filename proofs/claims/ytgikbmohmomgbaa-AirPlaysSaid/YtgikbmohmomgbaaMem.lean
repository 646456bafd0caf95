
/-
  Memory at real addresses: all that was there at the beginning, and byte strings of our own.
-/
import Derived.Test.YtgikbmohmomgbaaPack
import Derived.Test.YtgikbmohmomgbaaArg
import Derived.Test.YtgikbmohmomgbaaExt
import Derived.Test.YtgikbmohmomgbaaClone
import Derived.Laws.BytesArg
import Derived.Laws.OwnMore
set_option linter.unusedVariables false
set_option linter.unusedSimpArgs false
namespace Go.Proofs.Ytgikbmohmomgbaa.Sx
open Go Go.RowKit

/-- A slice at a real address (sp: a place between cells, as an empty slice may have). -/
structure Sl where
  b : Nat
  o : Nat
  n : Nat
  c : Nat
  sp : Option Nat
/-- A slice, or none: as it is, and as it is written here. -/
def uR : Option Sl → Value
  | none => .slice none 0 0
  | some s => .slice (some ⟨s.b, s.o, s.sp⟩) s.n s.c
abbrev uV (u : Option Sl) : Value := .iface 99999999 (uR u)
theorem uR_sl (u : Option Sl) : ∃ a l c, uR u = .slice a l c := by cases u with
  | none => exact ⟨_, _, _, rfl⟩
  | some s => exact ⟨_, _, _, rfl⟩
theorem uV_den0 (u : Option Sl) (ρ : Nat → Nat × Nat) : den0 ρ (uV u) = uR u := by
  obtain ⟨a, l, c, e⟩ := uR_sl u
  rw [uV, e]; rfl
theorem uV_den1 (u : Option Sl) (ρ : Nat → Nat × Nat) : den1 ρ (uV u) = uR u := uV_den0 u ρ
theorem uV_den (u : Option Sl) (ρ : Nat → Nat × Nat) : den ρ (uV u) = uR u := uV_den0 u ρ
theorem uV_one (u : Option Sl) : (uV u).oneCell' = true := rfl
theorem uV_re1 (u : Option Sl) {ix : List (Nat × Nat)} : Re1 ix (uV u) (uV u) := .quo
def uN : Option Sl → Nat
  | none => 0
  | some s => s.n
/-- Bytes of our own: their block, the room, what they are. -/
structure By where
  b : Nat
  c : Nat
  bs : List Int
abbrev By.s (e : By) : Option Sl := some ⟨e.b, 0, e.bs.length, e.c, none⟩
/-- The bytes that a slice shows. -/
def BsIn (w : World) (u : Option Sl) (bs : List Int) : Prop := bs.length = uN u ∧ ∀ s, u = some s → (s.sp = none ∨ s.n = 0) ∧ ∀ j, j < bs.length → w.cell? ⟨s.b, s.o + j, none⟩ = some (.int .u8 (bs.getD j 0))
structure ByAt (w : World) (e : By) : Prop where
  lt : e.b < w.heap.size
  cell : ∀ j, j < e.bs.length → w.cell? ⟨e.b, j, none⟩ = some (.int .u8 (e.bs.getD j 0))
  own : ∀ j, j < e.bs.length → w.frozen? ⟨e.b, j, none⟩ = false
theorem cellM_same {w w' : World} {b o : Nat} (h : w'.heap[b]? = w.heap[b]?) : w'.cell? ⟨b, o, none⟩ = w.cell? ⟨b, o, none⟩ := by
  simp only [World.cell?, h]
theorem frozM_same {w w' : World} {b o : Nat} (h : w'.heap[b]? = w.heap[b]?) : w'.frozen? ⟨b, o, none⟩ = w.frozen? ⟨b, o, none⟩ := by
  simp only [World.frozen?, h]
theorem lt_same {w w' : World} {b : Nat} (hl : b < w.heap.size) (h : w'.heap[b]? = w.heap[b]?) : b < w'.heap.size := by
  have : w.heap[b]? = some (w.heap[b]'hl) := Array.getElem?_eq_getElem hl
  rw [this] at h
  exact (Array.getElem?_eq_some_iff.1 h).1
theorem cell_lt {w : World} {b o : Nat} {v : Value} (h : w.cell? ⟨b, o, none⟩ = some v) : b < w.heap.size := World.block_lt_of_cell? _ _ h
theorem ByAt.keep {w w' : World} {e : By} (h : ByAt w e) (hb : w'.heap[e.b]? = w.heap[e.b]?) : ByAt w' e :=
  ⟨lt_same h.lt hb, fun j hj => (cellM_same hb).trans (h.cell j hj), fun j hj => (frozM_same hb).trans (h.own j hj)⟩
structure MemOK (W : World) (F : List By) (p : Nat × Nat) (S : Nat → Prop) (w : World) : Prop where
  at_ : p.1 < W.heap.size
  dom : ∀ b, S b ↔ b < W.heap.size ∨ ∃ e ∈ F, e.b = b
  size : W.heap.size ≤ w.heap.size
  old : ∀ b, b < W.heap.size → w.heap[b]? = W.heap[b]?
  nodup : (F.map By.b).Nodup
  cell : ∀ e ∈ F, W.heap.size ≤ e.b ∧ ByAt w e
abbrev memX (W : World) (F : List By) : Ext where
  inv := fun p S w => MemOK W F p S w
  keep := fun {p S w w'} h hb => ⟨h.at_, h.dom, by
      have h1 := h.at_
      have h2 := hb (W.heap.size - 1) ((h.dom _).2 (.inl (by omega)))
      have h3 := lt_same (b := W.heap.size - 1) (w := w) (by have := h.size; omega) h2
      omega, fun b hl => (hb b ((h.dom b).2 (.inl hl))).trans (h.old b hl), h.nodup, fun e he => ⟨(h.cell e he).1, (h.cell e he).2.keep (hb _ ((h.dom _).2 (.inr ⟨e, he, rfl⟩)))⟩⟩
/-- All old memory, and byte strings. -/
abbrev memC (W : World) (F : List By) : Chunk := @Chunk.mk (memX W F) true 0 []
theorem memX_selfish {W : World} {F : List By} : Selfish (memX W F) := fun p S w h => (h.dom _).2 (.inl h.at_)
theorem memC_ne (W : World) (F : List By) : (memC W F).x ≠ Ext.none := fun e => by
  have h1 : ∀ p S w, (memC W F).x.inv p S w → S p.1 := fun p S w h => memX_selfish p S w h
  rw [e] at h1
  exact (h1 (0, 0) (fun _ => False) default fun _ h => h).elim
/-- A slice whose bytes are known: none, our own, or old. -/
inductive Src (W : World) (F : List By) : Option Sl → List Int → Prop
  | nil : Src W F none []
  | own {e : By} (he : e ∈ F) : Src W F e.s e.bs
  | old {s : Sl} {bs : List Int} (hn : bs.length = s.n) (hs : s.sp = none ∨ s.n = 0) (hc : ∀ j, j < bs.length → W.cell? ⟨s.b, s.o + j, none⟩ = some (.int .u8 (bs.getD j 0))) : Src W F (some s) bs
theorem MemOK.src {W : World} {F : List By} {p : Nat × Nat} {S : Nat → Prop} {w : World} (M : MemOK W F p S w) {u : Option Sl} {bs : List Int} (h : Src W F u bs) : BsIn w u bs := by
  cases h with
  | nil => exact ⟨rfl, fun s hs => by cases hs⟩
  | own he =>
    refine ⟨rfl, fun s hs => ⟨?_, fun j hj => ?_⟩⟩
    · cases hs; exact .inl rfl
    cases hs
    show w.cell? ⟨_, 0 + j, none⟩ = _
    rw [Nat.zero_add]
    exact (M.cell _ he).2.cell j hj
  | old hn hsp hc =>
    refine ⟨hn, fun s hs => ⟨?_, fun j hj => ?_⟩⟩
    · cases hs; exact hsp
    cases hs
    have h1 := hc j hj
    rw [← h1]
    exact cellM_same (M.old _ (cell_lt h1))
theorem Src.more {W : World} {F F' : List By} (hF : ∀ e ∈ F, e ∈ F') {u : Option Sl} {bs : List Int} (h : Src W F u bs) : Src W F' u bs := by
  cases h with
  | nil => exact .nil
  | own he => exact .own (hF _ he)
  | old hn hsp hc => exact .old hn hsp hc
/-- What a copy of bytes makes of memory. -/
inductive Made (F : List By) (bs : List Int) : Option Sl → List By → Prop
  | nil : bs = [] → Made F bs none F
  | new {b c : Nat} (hb : b ∉ F.map By.b) : Made F bs (By.mk b c bs).s (⟨b, c, bs⟩ :: F)
theorem Made.src {W : World} {F F' : List By} {bs : List Int} {u : Option Sl} (h : Made F bs u F') : Src W F' u bs := by
  cases h with
  | nil h => subst h; exact .nil
  | new hb => exact .own (List.mem_cons_self ..)
theorem Made.sub {F F' : List By} {bs : List Int} {u : Option Sl} (h : Made F bs u F') : ∀ e ∈ F, e ∈ F' := by
  cases h with
  | nil h => exact fun e he => he
  | new hb => exact fun e he => List.mem_cons_of_mem _ he
section
variable {X : Ctx} {ρ : Nat → Nat × Nat} {h : List (Option Chunk)} {w w' : World}
theorem mem_more {i : Nat} {W : World} {F : List By} {e : By} (H : HOK X ρ h w) (hi : h[i]? = some (some (memC W F))) (hB : Below w.heap.size w w') (he : ByAt w' e) (hge : w.heap.size ≤ e.b) : e.b ∉ F.map By.b ∧ HOK X ρ (h.set i (some (memC W (e :: F)))) w' := by
  obtain ⟨S, E⟩ := H.ext
  have M : MemOK W F (ρ i) (S i) w := E.inv i _ hi
  have hno : e.b ∉ F.map By.b := fun hm => by
    obtain ⟨x, hx, hxb⟩ := List.mem_map.1 hm
    have := (M.cell x hx).2.lt
    omega
  refine ⟨hno, H.turnX E hi (d := memC W (e :: F)) (S' := fun b => S i b ∨ b = e.b) id (Nat.le_refl _) (fun j hj => absurd hj (Nat.not_lt_zero j)) hB.os hB.tape hB.output hB.size (fun b hb _ => hB.block b hb) (fun b hb => ?_) ?_⟩
  · rcases hb with hb | rfl
    · exact ⟨Nat.lt_of_lt_of_le (E.mine i _ b hi hb).2.1 hB.size, .inl rfl, .inl hb⟩
    · exact ⟨he.lt, .inl rfl, .inr hge⟩
  · refine ⟨M.at_, fun b => ⟨fun hb => ?_, fun hb => ?_⟩, Nat.le_trans M.size hB.size, fun b hb => (hB.block b (Nat.lt_of_lt_of_le hb M.size)).trans (M.old b hb), ?_, fun x hx => ?_⟩
    · rcases hb with hb | rfl
      · rcases (M.dom b).1 hb with hb | ⟨x, hx, hxb⟩
        · exact .inl hb
        · exact .inr ⟨x, List.mem_cons_of_mem _ hx, hxb⟩
      · exact .inr ⟨e, List.mem_cons_self .., rfl⟩
    · rcases hb with hb | ⟨x, hx, rfl⟩
      · exact .inl ((M.dom b).2 (.inl hb))
      · rcases List.mem_cons.1 hx with rfl | hx
        · exact .inr rfl
        · exact .inl ((M.dom _).2 (.inr ⟨x, hx, rfl⟩))
    · rw [List.map_cons, List.nodup_cons]; exact ⟨hno, M.nodup⟩
    · rcases List.mem_cons.1 hx with rfl | hx
      · exact ⟨Nat.le_trans M.size hge, he⟩
      · exact ⟨(M.cell x hx).1, (M.cell x hx).2.keep (hB.block _ (M.cell x hx).2.lt)⟩
end
/-- A byte is turned. -/
def setB (F : List By) (b j : Nat) (v : Int) : List By := F.map fun e => if e.b = b then ⟨e.b, e.c, e.bs.set j v⟩ else e
theorem setB_b (F : List By) (b j : Nat) (v : Int) : (setB F b j v).map By.b = F.map By.b := by
  unfold setB
  rw [List.map_map]
  refine List.map_congr_left fun e _ => ?_
  show (if e.b = b then (⟨e.b, e.c, e.bs.set j v⟩ : By) else e).b = e.b
  split <;> rfl
theorem setB_other {F : List By} {b j : Nat} {v : Int} {e : By} (he : e ∈ F) (hb : e.b ≠ b) : e ∈ setB F b j v := List.mem_map.2 ⟨e, he, if_neg hb⟩
theorem setB_same {F : List By} {j : Nat} {v : Int} {e : By} (he : e ∈ F) : (⟨e.b, e.c, e.bs.set j v⟩ : By) ∈ setB F e.b j v := List.mem_map.2 ⟨e, he, if_pos rfl⟩
theorem nodup_eq {F : List By} (h : (F.map By.b).Nodup) {x y : By} (hx : x ∈ F) (hy : y ∈ F) (e : x.b = y.b) : x = y := by
  induction F with
  | nil => cases hx
  | cons a r ih =>
    rw [List.map_cons, List.nodup_cons] at h
    rcases List.mem_cons.1 hx with h1 | hx <;> rcases List.mem_cons.1 hy with h2 | hy
    · rw [h1, h2]
    · rw [h1] at e; exact absurd (List.mem_map.2 ⟨y, hy, e.symm⟩) h.1
    · rw [h2] at e; exact absurd (List.mem_map.2 ⟨x, hx, e⟩) h.1
    · exact ih h.2 hx hy
section
variable {X : Ctx} {ρ : Nat → Nat × Nat} {h : List (Option Chunk)} {w : World}
theorem mem_store {i j : Nat} {W : World} {F : List By} {e : By} {v : Int} (H : HOK X ρ h w) (hi : h[i]? = some (some (memC W F))) (he : e ∈ F) (hj : j < e.bs.length) : w.frozen? ⟨e.b, j, none⟩ = false ∧ (∃ x, w.cell? ⟨e.b, j, none⟩ = some x) ∧ HOK X ρ (h.set i (some (memC W (setB F e.b j v)))) (w.setCell ⟨e.b, j, none⟩ (.int .u8 v)) := by
  obtain ⟨S, E⟩ := H.ext
  have M : MemOK W F (ρ i) (S i) w := E.inv i _ hi
  obtain ⟨hge, hat⟩ := M.cell e he
  have hsz : (w.setCell ⟨e.b, j, none⟩ (.int .u8 v)).heap.size = w.heap.size := by simp [World.setCell]
  have hbl : ∀ b, b ≠ e.b → (w.setCell ⟨e.b, j, none⟩ (.int .u8 v)).heap[b]? = w.heap[b]? := fun b hb => Below.heap_setCell w _ _ b hb
  refine ⟨hat.own j hj, ⟨_, hat.cell j hj⟩, H.turnX E hi (d := memC W (setB F e.b j v)) (S' := S i) id (Nat.le_refl _) (fun j hj => absurd hj (Nat.not_lt_zero j)) rfl rfl rfl (Nat.le_of_eq hsz.symm) (fun b hb hS => hbl b fun eb => hS ((M.dom b).2 (.inr ⟨e, he, eb.symm⟩))) (fun b hb => ?_) ?_⟩
  · exact ⟨by rw [hsz]; exact (E.mine i _ b hi hb).2.1, .inl rfl, .inl hb⟩
  · refine ⟨M.at_, fun b => (M.dom b).trans ⟨fun hb => ?_, fun hb => ?_⟩, by rw [hsz]; exact M.size, fun b hb => (hbl b (by omega)).trans (M.old b hb), by rw [setB_b]; exact M.nodup, fun x hx => ?_⟩
    · rcases hb with hb | ⟨x, hx, rfl⟩
      · exact .inl hb
      · by_cases ex : x.b = e.b
        · exact .inr ⟨_, setB_same (j := j) (v := v) he, ex.symm⟩
        · exact .inr ⟨x, setB_other hx ex, rfl⟩
    · rcases hb with hb | ⟨x, hx, rfl⟩
      · exact .inl hb
      · have : x.b ∈ F.map By.b := by rw [← setB_b F e.b j v]; exact List.mem_map.2 ⟨x, hx, rfl⟩
        obtain ⟨y, hy, hyb⟩ := List.mem_map.1 this
        exact .inr ⟨y, hy, hyb⟩
    · obtain ⟨y, hy, rfl⟩ := List.mem_map.1 hx
      by_cases ey : y.b = e.b
      · obtain rfl := nodup_eq M.nodup hy he ey
        rw [if_pos rfl]
        refine ⟨hge, by rw [hsz]; exact hat.lt, fun k hk => ?_, fun k hk => ?_⟩
        · have hk : k < y.bs.length := by simpa using hk
          by_cases ek : k = j
          · subst ek
            rw [World.cell?_setCell_same w _ _ (hat.cell k hj)]
            show some (Value.int .u8 v) = some (.int .u8 ((y.bs.set k v).getD k 0))
            rw [List.getD_eq_getElem?_getD, List.getElem?_set_self hj]; rfl
          · rw [World.cell?_setCell_other w _ _ _ (by intro e'; simp only [Addr.mk.injEq] at e'; omega), hat.cell k hk]
            show some (Value.int .u8 (y.bs.getD k 0)) = some (.int .u8 ((y.bs.set j v).getD k 0))
            rw [List.getD_eq_getElem?_getD, List.getD_eq_getElem?_getD, List.getElem?_set_ne (fun h => ek h.symm)]
        · have hk : k < y.bs.length := by simpa using hk
          rw [World.frozen?_setCell]; exact hat.own k hk
      · rw [if_neg ey]
        exact ⟨(M.cell y hy).1, (M.cell y hy).2.keep (hbl _ ey)⟩
end

/-! ### Operations at real addresses -/
section
variable {P : Program} {G : Tys} {o : Oper} {st : St}
theorem ev_real {X : Ctx} {ρ : Nat → Nat × Nat} {st : St} {a : Act} {w : World} {x : Operand} {v : Value} (h : EvTo x st v) (hp : plain2 v = true) (R : Rel X ρ st a w) : a.eval x = v := by
  rw [← (h.den R).self, den_plain hp]
theorem N.op {slot : Nat} {K : Value → List (Nat × Chunk) → List Nat → Prop} {v : Value} {ms : List (Nat × Chunk)} {rh : List Nat} (h : OKs P o st v ms rh) (k : K v ms rh) : N (OpN P o st slot K) := N.mk ⟨v, ms, rh, h, k⟩
theorem ok_idxR {t : TypeId} {x y : Operand} {b f l c sz g : Nat} {a : Int} {k : IntKind} {v : Value} (hG : TysOK P G) (ho : o.op = .indexAddr t x y) (hx : EvTo x st v) (hxv : ∀ ρ, den ρ v = .slice (some ⟨b, f, none⟩) l c) (hy : EvTo y st (.int k a))
    (ht : lookT G t fun _ d => match d with | .slice e => lookT G e fun ei _ => ei.size = sz | _ => False) (h0 : 0 ≤ a) (hn : a < l) (hg : f + a.toNat * sz = g) : OKs P o st (.pointer (some ⟨b, g, none⟩)) [] [] := fun st₂ hs _ _ =>
  eff_pure fun X ρ act w R => by
    subst hg
    have hx' : act.eval x = .slice (some ⟨b, f, none⟩) l c := by rw [← ((hs x (by simp [ho, Op.operands]) _ hx).den R).self, hxv]
    have hy' := ev_real (hs y (by simp [ho, Op.operands]) _ hy) rfl R
    obtain ⟨i, d, _, h1, hd⟩ := lookT_out hG ht
    split at hd
    · obtain ⟨ei, ed, h2, _, rfl⟩ := lookT_out hG hd
      refine ⟨_, ?_, Den.plain rfl⟩
      simp only [execOp, ho, hx', hy', Instr.indexAt, asIntOf, underlying, Sem.run_bind, run_program, Result.andThen_ok, h1, Sem.run_pure, h0, hn, and_self, if_true, run_sizeOf h2, add_at, Nat.add_assoc]
    · exact hd.elim
/-- What a cell holds, by what is known of memory. -/
def Known (W : World) (F : List By) (b f : Nat) (v : Value) : Prop := ∀ p S w, MemOK W F p S w → w.cell? ⟨b, f, none⟩ = some v
theorem known_old {W : World} {F : List By} {b f : Nat} {v : Value} (h : W.cell? ⟨b, f, none⟩ = some v) : Known W F b f v := fun p S w M => by
  rw [← h]; exact cellM_same (M.old _ (cell_lt h))
theorem known_src {W : World} {F : List By} {s : Sl} {bs : List Int} (h : Src W F (some s) bs) {j f : Nat} (hj : j < bs.length) (hf : f = s.o + j) : Known W F s.b f (.int .u8 (bs.getD j 0)) := fun p S w M => by
  subst hf; exact ((M.src h).2 s rfl).2 j hj
theorem ok_loadR {t : TypeId} {x : Operand} {b f i : Nat} {W : World} {F : List By} {v : Value} (hG : TysOK P G) (ho : o.op = .load t x) (hx : EvTo x st (.pointer (some ⟨b, f, none⟩))) (hi : st.h[i]? = some (some (memC W F)))
    (ht : lookT G t fun _ d => isAggD d = false) (hp : plain1 v = true) (hk : Known W F b f v) : OKs P o st v [] [i] := fun st₂ hs hh _ =>
  eff_pure fun X ρ a w R => by
    have hi2 : st₂.h[i]? = some (some (memC W F)) := (hh i (by simp)).trans hi
    have hx' := ev_real (hs x (by simp [ho, Op.operands]) _ hx) rfl R
    obtain ⟨ti, d, _, h2, hd⟩ := lookT_out hG ht
    obtain ⟨S, E⟩ := R.heap.ext
    have hy := hk _ _ _ (E.inv i _ hi2)
    refine ⟨v, ?_, fun r _ => ?_⟩
    · simp only [execOp, ho, hx', Instr.loadAt, Instr.sureAddr, loadVar, Sem.run_bind, Sem.run_pure, Result.andThen_ok, run_isAgg h2, hd, Bool.false_eq_true, if_false, run_load, hy]
    · cases v <;> first | exact den_plain (by exact hp) r | (simp [plain1] at hp)
theorem ok_loadRA {t : TypeId} {x : Operand} {b f i sz : Nat} {W : World} {F : List By} {cs : List Value} (hG : TysOK P G) (ho : o.op = .load t x) (hx : EvTo x st (.pointer (some ⟨b, f, none⟩))) (hi : st.h[i]? = some (some (memC W F)))
    (ht : lookT G t fun ti d => isAggD d = true ∧ ti.size = sz) (hp : cs.all plain1 = true) (hl : cs.length = sz) (hk : ∀ j v, cs[j]? = some v → Known W F b (f + j) v) : OKs P o st (.agg ⟨cs⟩) [] [i] := fun st₂ hs hh _ =>
  eff_pure fun X ρ a w R => by
    have hi2 : st₂.h[i]? = some (some (memC W F)) := (hh i (by simp)).trans hi
    have hx' := ev_real (hs x (by simp [ho, Op.operands]) _ hx) rfl R
    obtain ⟨ti, d, h1, h2, hd, rfl⟩ := lookT_out hG ht
    obtain ⟨S, E⟩ := R.heap.ext
    have hcells : ∀ j v, cs[j]? = some v → w.cell? ((⟨b, f, none⟩ : Addr).add j) = some v := fun j v hv => by
      rw [add_at]; exact hk j v hv _ _ _ (E.inv i _ hi2)
    refine ⟨.agg ⟨cs⟩, ?_, Den.plain hp⟩
    simp only [execOp, ho, hx', Instr.loadAt, Instr.sureAddr, loadVar, Sem.run_bind, Sem.run_pure, Result.andThen_ok, run_isAgg h2, hd, if_true, run_sizeOf h1]
    rw [← hl, run_loadCells_list _ _ _ hcells]
    rfl
theorem ok_storeB {t : TypeId} {x y : Operand} {i j : Nat} {W : World} {F : List By} {e : By} {v : Int} (hG : TysOK P G) (ho : o.op = .store t x y) (hx : EvTo x st (.pointer (some ⟨e.b, j, none⟩))) (hy : EvTo y st (.int .u8 v)) (hi : st.h[i]? = some (some (memC W F)))
    (ht : lookT G t fun ti _ => ti.size = 1) (he : e ∈ F) (hj : j < e.bs.length) : OKs P o st undef [(i, memC W (setB F e.b j v))] [] := fun st₂ hs _ hh =>
  eff_skip fun X ρ a w R => by
    have hi2 : st₂.h[i]? = some (some (memC W F)) := (hh _ (List.mem_singleton.2 rfl)).trans hi
    have hx' := ev_real (hs x (by simp [ho, Op.operands]) _ hx) rfl R
    have hy' := ev_real (hs y (by simp [ho, Op.operands]) _ hy) rfl R
    obtain ⟨ti, d, h1, h2, hsz⟩ := lookT_out hG ht
    obtain ⟨hfr, ⟨z, hz⟩, H'⟩ := mem_store (v := v) R.heap hi2 he hj
    refine ⟨ρ, _, ?_, AgreeOn.refl _ _, H'⟩
    have hst : (store ⟨e.b, j, none⟩ (.int .u8 v)).run P w = .ok () (w.setCell ⟨e.b, j, none⟩ (.int .u8 v)) := by
      rw [run_store P w _ _ _ rfl]; simp [hz, hfr]
    have hadd : (⟨e.b, j, none⟩ : Addr).add 0 = ⟨e.b, j, none⟩ := by rw [add_at, Nat.add_zero]
    simp only [execOp, ho, hx', hy', Instr.storeAt, Instr.sureAddr, storeVar, Sem.run_bind, Sem.run_pure, Result.andThen_ok, run_sizeOf h1, hsz]
    simp [Value.cells, storeCells, hadd, hst, Sem.run_bind, Sem.run_pure]
/-- Bytes at a real address, as a string. -/
theorem ok_strR {s d : TypeId} {x : Operand} {i : Nat} {W : World} {F : List By} {u : Option Sl} {bs : List Int} (hG : TysOK P G) (ho : o.op = .convert s d x) (hx : EvTo x st (uV u)) (hi : st.h[i]? = some (some (memC W F)))
    (ht : lookT G s fun _ sd => match sd with | .slice e => lookT G e fun _ ed => ed = .int .u8 | _ => False) (hd : lookT G d fun _ dd => dd = .string) (hs : Src W F u bs) : OKs P o st (.string (strOfNums bs)) [] [i] := fun st₂ hs2 hh _ =>
  eff_pure fun X ρ a w R => by
    have hi2 : st₂.h[i]? = some (some (memC W F)) := (hh i (by simp)).trans hi
    have hx' : a.eval x = uR u := by rw [← ((hs2 x (by simp [ho, Op.operands]) _ hx).den R).self, uV_den]
    obtain ⟨_, sd, _, h1, ht⟩ := lookT_out hG ht
    obtain ⟨_, dd, _, h2, rfl⟩ := lookT_out hG hd
    obtain ⟨S, E⟩ := R.heap.ext
    have hb := (show MemOK W F (ρ i) (S i) w from E.inv i _ hi2).src hs
    split at ht
    · obtain ⟨_, ed, _, h3, rfl⟩ := lookT_out hG ht
      refine ⟨_, ?_, Den.plain rfl⟩
      simp only [execOp, ho, hx', Sem.run_bind, Sem.run_pure, Result.andThen_ok]
      cases u with
      | none =>
        obtain rfl : bs = [] := List.length_eq_zero_iff.1 hb.1
        rw [show uR none = .slice none 0 0 from rfl, run_convert_bytes_nil (w := w) s _ h1 h3 0 0 d h2]
        rfl
      | some q =>
        obtain ⟨qb, qo, qn, qc, sp⟩ := q
        have hn : bs.length = qn := hb.1
        rcases (hb.2 _ rfl).1 with hsp | hsp
        · have hsp : sp = none := hsp
          subst hsp
          rw [show uR (some ⟨qb, qo, qn, qc, none⟩) = .slice (some ⟨qb, qo, none⟩) qn qc from rfl, run_convert_bytes_arg w s _ h1 h3 qb qo qn qc bs hn (fun j hj => (hb.2 _ rfl).2 j (by omega)) d h2]
          rfl
        · have hsp : qn = 0 := hsp
          subst hsp
          obtain rfl : bs = [] := List.length_eq_zero_iff.1 hn
          have hl : (loadCells ⟨qb, qo, sp⟩ 0).run P w = .ok (([] : List Int).map (Value.int .u8)).toArray w := by simpa using run_loadCells_list (P := P) w ⟨qb, qo, sp⟩ [] (by simp)
          rw [show uR (some ⟨qb, qo, 0, qc, sp⟩) = .slice (some ⟨qb, qo, sp⟩) 0 qc from rfl, run_convert_bytes_string w s d _ _ 0 qc h1 h3 h2, run_bytesToString w _ 0 qc [] hl]
          rfl
    · exact ht.elim
/-- The length of a slice in memory. -/
theorem ok_lenU {x : Operand} {ts : Array TypeId} {u : Option Sl} (ho : o.op = .call ⟨.builtin .len, ⟨[x]⟩, ts⟩) (hx : EvTo x st (uV u)) (ht : ∃ t, ts = #[t] ∧ ∃ e, P.underlying t = some (.slice e)) : OKs P o st (.int .i64 (uN u : Nat)) [] [] := fun st₂ hs2 hh _ =>
  eff_pure fun X ρ a w R => by
    have hx' : a.eval x = uR u := by rw [← ((hs2 x (by simp [ho, Op.operands, Call.operands]) _ hx).den R).self, uV_den]
    obtain ⟨t, rfl, e, he⟩ := ht
    refine ⟨.int .i64 (uN u : Nat), ?_, Den.plain rfl⟩
    cases u with
    | none =>
      simp [execOp, ho, resolve, invoke, builtin, hx', uR, uN, Builtin.len_, Sem.run_bind, Sem.run_pure, Result.andThen_ok, run_underlying he, Builtin.lenOf]
      rfl
    | some s =>
      simp [execOp, ho, resolve, invoke, builtin, hx', uR, uN, Builtin.len_, Sem.run_bind, Sem.run_pure, Result.andThen_ok, run_underlying he, Builtin.lenOf]
      rfl
end
end Go.Proofs.Ytgikbmohmomgbaa.Sx
