
/-
  Copies of bytes: what slices.Clone and mail's own make of memory; laws whose arguments hold slices.
-/
import Derived.Test.YtgikbmohmomgbaaMem
import Derived.Test.YtgikbmohmomgbaaRen
import Derived.Test.YtgikbmohmomgbaaMore
set_option linter.unusedVariables false
set_option linter.unusedSimpArgs false
namespace Go.Proofs.Ytgikbmohmomgbaa
open Go Go.RowKit Sx

theorem set_here {h : List (Option Chunk)} {i : Nat} {c : Chunk} (hi : h[i]? = some (some c)) : h.set i (some c) = h := by
  refine List.ext_getElem? fun j => ?_
  by_cases e : i = j
  · subst e; rw [List.getElem?_set_self (List.getElem?_eq_some_iff.1 hi).1, hi]
  · rw [List.getElem?_set_ne e]
theorem row_by {w : World} {B g c : Nat} {bs : List Int} (h : w.ownsRow B 5 1 (.slice (some ⟨g, 0, none⟩) bs.length c) bs.length (bs.map (Value.int .u8))) : ByAt w ⟨g, c, bs⟩ := by
  refine ⟨(World.ownsRow.lt h g rfl).2, fun j hj => ?_, fun j hj => World.ownsRow.frozenAt h j⟩
  have hj : j < bs.length := hj
  rw [World.ownsRow.cellAt h j (by omega)]
  simp [List.getD_eq_getElem?_getD, hj]
/-- A mail. -/
abbrev mailV (to_ : Int) (u : Option Sl) (at_ tr : Int) (be : Bool) : Value := .agg ⟨[.int .i64 to_, uV u, .int .i64 at_, .int .i64 tr, .bool be]⟩
abbrev mailR (to_ : Int) (u : Option Sl) (at_ tr : Int) (be : Bool) : Value := .agg ⟨[.int .i64 to_, uR u, .int .i64 at_, .int .i64 tr, .bool be]⟩
theorem mailV_den (to_ : Int) (u : Option Sl) (at_ tr : Int) (be : Bool) (ρ : Nat → Nat × Nat) : den ρ (mailV to_ u at_ tr be) = mailR to_ u at_ tr be := by
  show Value.agg (#[.int .i64 to_, uV u, .int .i64 at_, .int .i64 tr, .bool be].map (den1 ρ)) = _
  have e := uV_den1 u ρ
  simp only [List.map_toArray, List.map_cons, List.map_nil]
  rw [e]
  rfl
theorem mailV_re (to_ : Int) (u : Option Sl) (at_ tr : Int) (be : Bool) {ix : List (Nat × Nat)} : Re2 ix (mailV to_ u at_ tr be) (mailV to_ u at_ tr be) := .agg ⟨.plain rfl, uV_re1 u, .plain rfl, .plain rfl, .plain rfl, trivial⟩
theorem mail_flat (to_ : Int) (u : Option Sl) (at_ tr : Int) (be : Bool) : flatB (mailV to_ u at_ tr be) 5 = true := by
  rfl
theorem plain3_of2 {v : Value} (h : plain2 v = true) : plain3 v = true := by
  cases v <;> first | exact h | (simp [plain2, plain1] at h; first | done | exact h)
theorem cOwnM (W : World) (F : List By) (u : Option Sl) (bs : List Int) (hs : Src W F u bs) (hm : bs.length ≤ 1048576) (to_ at_ tr : Int) (be : Bool) (i : Nat) (h : List (Option Chunk)) (hi : h[i]? = some (some (memC W F))) :
    CallAll Try.prog 21 [mailV to_ u at_ tr be] h fun v ms => ∃ u' F', Made F bs u' F' ∧ v = mailV to_ u' at_ tr be ∧ ms = [(i, memC W F')] := fun X ρ w xs H hx => by
  obtain ⟨S, E⟩ := H.ext
  have M : MemOK W F (ρ i) (S i) w := E.inv i _ hi
  have hb := M.src hs
  match xs, hx with
  | [x], hx =>
    obtain rfl : mailR to_ u at_ tr be = x := by have := hx.1.self; rwa [mailV_den] at this
    refine .inr ⟨Try.call21 _ w, ?_⟩
    cases u with
    | none =>
      obtain rfl : bs = [] := List.length_eq_zero_iff.1 hb.1
      refine (own_nil to_ at_ tr be w).mono ?_
      rintro e w' ⟨rfl, hB⟩
      refine ⟨_, rfl, mailV to_ none at_ tr be, _, ρ, ⟨none, F, .nil rfl, rfl, rfl⟩, AgreeOn.refl _ _, ?_, fun r _ => mailV_den _ _ _ _ _ r⟩
      show HOK X ρ (h.set i (some (memC W F))) w'
      rw [set_here hi]; exact H.frame hB
    | some s =>
      have hn : bs.length = s.n := hb.1
      have hc : ∀ j, j < bs.length → w.cell? ((⟨s.b, s.o, s.sp⟩ : Addr).add j) = some (.int .u8 (bs.getD j 0)) := fun j hj => by
        obtain ⟨h1, h2⟩ := hb.2 s rfl
        have hsp : s.sp = none := by rcases h1 with h1 | h1; exact h1; omega
        rw [hsp, add_at]; exact h2 j hj
      have := own_some to_ at_ tr be ⟨s.b, s.o, s.sp⟩ s.c bs w hm hc
      rw [hn] at this
      refine this.mono ?_
      rintro e w' ⟨g, c, rfl, ho, hg, hB⟩
      rw [← hn] at ho
      have hat := row_by ho
      obtain ⟨hno, H'⟩ := mem_more (e := ⟨g, c, bs⟩) H hi hB hat hg
      refine ⟨_, rfl, mailV to_ (By.mk g c bs).s at_ tr be, _, ρ, ⟨_, _, .new hno, rfl, rfl⟩, AgreeOn.refl _ _, H', fun r _ => ?_⟩
      rw [mailV_den]
      show mailR to_ (some ⟨g, 0, bs.length, c, none⟩) at_ tr be = _
      rw [hn]; rfl
/-- A law whose arguments hold slices: all old memory is one stretch. -/
theorem calls_mem {f : FuncId} {fn : Func} {c : Code} {vs : List Value} {V : Value} (W : World) (hG : TysOK Try.prog tys) (hm : Try.prog.follows .mixedOrders = true) (hf : Try.prog.funcs[f]? = some fn) (hb : fn.body = some c) (hW : 0 < W.heap.size) (hp : vs.all plain2 = true) (hV : plain3 V = true)
    (hwp : initK vs fn.ntmps fun t => wpC Try.prog tys 1 c (bodyQ Try.prog tys fn fun v st => N (v = V ∧ ∃ F, st.h[0]? = some (some (memC W F)))) ⟨t, [some (memC W [])]⟩) : Calls Try.prog f ⟨vs⟩ W fun e w' => e = .returned V ∧ Below W.heap.size W w' := by
  let X : Ctx := ⟨W, fun a => a.block < W.heap.size, 1, fun _ => (0, 0)⟩
  have one : ∀ (k : Nat) (d : Chunk), [some (memC W [])][k]? = some (some d) → k = 0 ∧ d = memC W [] := fun k d hk => by
    cases k with
    | zero => exact ⟨rfl, by simpa using hk.symm⟩
    | succ k => simp at hk
  have H : HOK X (fun _ => (0, 0)) [some (memC W [])] W := by
    refine ⟨Evo.refl _ _, fun i hi => ⟨⟨_, by
        have hi : i < 1 := hi
        obtain rfl : i = 0 := by omega
        rfl⟩, rfl⟩, fun k d hk => hW, fun k d hk j hj => ?_, fun k d hk ho j hj => ?_, fun k d l e hk ho hl hne => ?_, fun i b => i = 0 ∧ b < W.heap.size, fun k d hk => ?_, fun k d b hk hS => ?_, fun k d b l e hk hS hl hne => ?_⟩
    · obtain ⟨rfl, rfl⟩ := one k d hk; exact absurd hj (Nat.not_lt_zero j)
    · obtain ⟨rfl, rfl⟩ := one k d hk; exact absurd hj (Nat.not_lt_zero j)
    · exact absurd ((one k d hk).1.trans (one l e hl).1.symm) hne
    · obtain ⟨rfl, rfl⟩ := one k d hk
      exact ⟨hW, fun b => ⟨fun h => .inl h.2, fun h => by
        rcases h with h | ⟨e, he, _⟩
        · exact ⟨rfl, h⟩
        · cases he⟩, Nat.le_refl _, fun _ _ => rfl, List.nodup_nil, fun e he => by cases he⟩
    · obtain ⟨rfl, rfl⟩ := one k d hk
      exact ⟨.inl rfl, hS.2, .inr ⟨hS.2, fun _ => hS.2⟩⟩
    · exact absurd ((one l e hl).1.trans (one k d hk).1.symm) hne
  have hd : ∀ {vs : List Value}, vs.all plain2 = true → All2 (Den (Fil [some (memC W [])]) (fun _ => (0, 0))) vs vs := by
    intro vs
    induction vs with
    | nil => exact fun _ => trivial
    | cons v r ih =>
      intro hp
      simp only [List.all_cons, Bool.and_eq_true] at hp
      exact ⟨Den.plain hp.1, ih hp.2⟩
  refine (calls_sx (args := ⟨vs⟩) (X := X) hG hm hf hb H (hd hp) hwp).mono ?_
  rintro e w' ⟨ρ', v, st, x, rfl, H', hdx, hq⟩
  obtain ⟨rfl, F, hF⟩ := hq.out
  obtain ⟨S, E⟩ := H'.ext
  have M : MemOK W F (ρ' 0) (S 0) w' := E.inv 0 _ hF
  exact ⟨by rw [← hdx.self, den_plain3 hV], H'.evo.os, H'.evo.tape, H'.evo.output, H'.evo.size, fun b hb => M.old b hb⟩
end Go.Proofs.Ytgikbmohmomgbaa
