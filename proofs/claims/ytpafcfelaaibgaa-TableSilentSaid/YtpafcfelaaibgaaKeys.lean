/-
  The keys of a map of entries, sorted: slices.Sorted(maps.Keys(m)).
-/
import Derived.Test.YtpafcfelaaibgaaTbl2
import Derived.Test.YtpafcfelaaibgaaIter
import Derived.WideShapes
set_option linter.unusedVariables false
set_option linter.unusedSimpArgs false
namespace Go.Proofs.Ytpafcfelaaibgaa
open Go Go.RowKit Sx

/-- A new block of known plain cells. -/
theorem HOK.newB {X : Ctx} {ρ : Nat → Nat × Nat} {h : List (Option Chunk)} {w w' : World} {i g : Nat} {d : Chunk} (H : HOK X ρ h w) (hi : h[i]? = some none) (hB : Below w.heap.size w w') (hg : w.heap.size ≤ g ∧ g < w'.heap.size) (hx : d.x = Ext.none)
    (hc : ∀ j, j < d.n → w'.cell? ⟨g, j, none⟩ = some (d.f j) ∧ plain1 (d.f j) = true ∧ w'.frozen? ⟨g, j, none⟩ = false) : ∃ ρ', AgreeOn (Fil h) ρ ρ' ∧ ρ' i = (g, 0) ∧ HOK X ρ' (h.set i (some d)) w' := by
  have H2 := H.frame hB
  obtain ⟨S, E⟩ := H.ext
  obtain ⟨S2, E2⟩ := H2.ext
  have hl := (List.getElem?_eq_some_iff.1 hi).1
  have nf : ¬ Fil h i := fun ⟨d, hd⟩ => by rw [hi] at hd; cases hd
  let ρ' : Nat → Nat × Nat := fun k => if k = i then (g, 0) else ρ k
  have hag : AgreeOn (Fil h) ρ ρ' := fun k hk => by
    show (if k = i then _ else _) = _
    rw [if_neg]; rintro rfl; exact nf hk
  have hρi : ρ' i = (g, 0) := if_pos rfl
  have hρk : ∀ k, k ≠ i → ρ' k = ρ k := fun k hk => if_neg hk
  have get : ∀ k e, (h.set i (some d))[k]? = some (some e) → (k = i ∧ e = d) ∨ (k ≠ i ∧ h[k]? = some (some e)) := fun k e hk => by
    by_cases ek : i = k
    · subst ek
      rw [List.getElem?_set_self hl] at hk
      exact .inl ⟨rfl, by simpa using hk.symm⟩
    · rw [List.getElem?_set_ne ek] at hk
      exact .inr ⟨fun h => ek h.symm, hk⟩
  have fil : ∀ k, Fil h k → Fil (h.set i (some d)) k := fun k hk => hk.set
  refine ⟨ρ', hag, hρi, H2.evo, fun k hk => ⟨fil k (H2.base k hk).1, ?_⟩, fun k e hk => ?_, fun k e hk j hj => ?_, fun k e hk hoe j hj => ?_, fun k e l f hk hoe hlf hne => ?_, ?_⟩
  · rw [hag k (H2.base k hk).1]; exact (H2.base k hk).2
  · rcases get k e hk with ⟨rfl, rfl⟩ | ⟨hne, hk⟩
    · rw [hρi]; exact hg.2
    · rw [hρk k hne]; exact H2.lt _ _ hk
  · rcases get k e hk with ⟨rfl, rfl⟩ | ⟨hne, hk⟩
    · rw [hρi]
      obtain ⟨h1, h2, _⟩ := hc j hj
      exact ⟨_, by simpa using h1, Den1.plain h2⟩
    · rw [hρk k hne]
      obtain ⟨y, hy, hd⟩ := H2.cell _ _ hk j hj
      exact ⟨y, hy, hd.more hag fil⟩
  · rcases get k e hk with ⟨rfl, rfl⟩ | ⟨hne, hk⟩
    · rw [hρi]
      exact ⟨by simpa using (hc j hj).2.2, .inl (Nat.le_trans H.evo.size hg.1)⟩
    · rw [hρk k hne]; exact H2.own _ _ hk hoe j hj
  · rcases get k e hk with ⟨rfl, rfl⟩ | ⟨hk1, hk'⟩ <;> rcases get l f hlf with ⟨rfl, rfl⟩ | ⟨hl1, hl'⟩
    · exact absurd rfl hne
    · rw [hρi, hρk l hl1]; have := H.lt _ _ hl'; simp; omega
    · rw [hρi, hρk k hk1]; have := H.lt _ _ hk'; simp; omega
    · rw [hρk k hk1, hρk l hl1]; exact H2.sep _ _ _ _ hk' hoe hl' hne
  · refine ⟨fun k b => k ≠ i ∧ S k b, fun k e hk => ?_, fun k e b hk hS => ?_, fun k e b l f hk hS hl' hne => ?_⟩
    · rcases get k e hk with ⟨rfl, rfl⟩ | ⟨hne, hk⟩
      · rw [hx]; exact fun b hb => hb.1 rfl
      · have : (fun b => k ≠ i ∧ S k b) = S k := by funext b; exact propext ⟨fun h => h.2, fun h => ⟨hne, h⟩⟩
        rw [this, hρk k hne]
        exact e.x.keep (E.inv k e hk) fun b hSb => hB.block b (E.mine k e b hk hSb).2.1
    · rcases get k e hk with ⟨rfl, rfl⟩ | ⟨hne, hk⟩
      · exact absurd rfl hS.1
      · obtain ⟨g1, g2, g3⟩ := E.mine k e b hk hS.2
        exact ⟨by rw [hρk k hne]; exact g1, Nat.lt_of_lt_of_le g2 hB.size, g3⟩
    · rcases get k e hk with ⟨rfl, rfl⟩ | ⟨hk1, hk⟩
      · exact absurd rfl hS.1
      · have hlt := (E.mine k e b hk hS.2).2.1
        rcases get l f hl' with ⟨hli, hfd⟩ | ⟨hl1, hl'⟩
        · refine ⟨by rw [hli, hρi]; show g ≠ b; omega, fun h => h.1 hli⟩
        · obtain ⟨a1, a2⟩ := E.apart _ _ b _ _ hk hS.2 hl' hne
          exact ⟨by rw [hρk l hl1]; exact a1, fun h => a2 h.2⟩

theorem wfI {a : Int} (h : -9223372036854775808 ≤ a ∧ a ≤ 9223372036854775807) : (Lit.int .i64 a).wf = true := by
  have h1 : IntKind.min .i64 = -9223372036854775808 := by decide
  have h2 : IntKind.max .i64 = 9223372036854775807 := by decide
  simp only [Lit.wf, h1, h2, Bool.and_eq_true, decide_eq_true_eq]; exact h
/-! ### The library's contracts -/
theorem Try.sortsA (m : Nat) : AnyZI.SortsIn Try.prog Try.sortedA_ren Fence.wide m :=
  ⟨fun blk off cap ss W hH hblk hsz => callsIn_wide.2 (AnyM.slices_Sort_int Try.sortA blk off cap ss W hH hblk hsz),
   fun p cap W => callsIn_wide.2 (AnyM.slices_Sort_int_none Try.sortA p cap W)⟩
abbrev keysFn : FuncId := 33
abbrev iterFn : FuncId := 50
abbrev sortedFn : FuncId := 32
theorem keys_w (mb : Option Nat) (W : World) : Calls Try.prog keysFn #[.map mb] W fun e w' => e = .returned (.func (.func iterFn) #[] #[.pointer (some ⟨W.heap.size, 0, none⟩)]) ∧ w' = W.alloc (.cells #[.map mb] 64) :=
  callsIn_wide.1 (AnyZI.keys_in Try.keysA Fence.wide 5 trivial rfl mb W)
theorem foldr_perm {H : Type} : ∀ l : List (Lit × DataW H), (l.foldr DataW.insert []).Perm l
  | [] => .nil
  | x :: l => (WideShapes.insert_perm x _).trans ((foldr_perm l).cons x)
abbrev leZ : Int → Int → Bool := fun x y => decide (x ≤ y)
/-- The keys of a map, ascending. -/
def sortK {α : Type} (D : List (Int × α)) : List Int := (D.map (·.1)).mergeSort leZ
theorem sortK_len {α : Type} (D : List (Int × α)) : (sortK D).length = D.length := by simp [sortK]
theorem sortK_perm {α : Type} (D : List (Int × α)) : (sortK D).Perm (D.map (·.1)) := List.mergeSort_perm _ _
theorem sorted_w {α : Type} {enc : α → Value} (D : List (Int × α)) (B b : Nat) (W : World) (hB : B < W.heap.size) (hc : W.cell? ⟨B, 0, none⟩ = some (.map (some b))) {es : Array MapEntry} {clock : Nat} (hb : W.heap[b]? = some (.map es clock)) (M : MapIs enc D es clock) (hl : D.length ≤ 100000) :
    Calls Try.prog sortedFn #[.func (.func iterFn) #[] #[.pointer (some ⟨B, 0, none⟩)]] W fun e w' => ∃ v, e = .returned v ∧ w'.ownsRow W.heap.size 3 1 v D.length ((sortK D).map encZ) ∧ (v = .slice none 0 0 ↔ D = []) ∧ Below W.heap.size W w' := by
  let R : Value → Option (DataW Unit × List MemPlace) := fun _ => some (.nil, [])
  let D0 : DataW Unit := .map ((es.toList.map (Go.WideElems.rg Try.prog 3 R)).foldr DataW.insert [])
  have hk := Try.underlying3
  have hrd : ∀ x ∈ es.toList, ∃ k, x.key = .int .i64 k ∧ Go.WideElems.rd Try.prog 3 R x = some (.int .i64 k, .nil) := fun x hx => by
    have : (x.key, x.val) ∈ es.toList.map (fun e => (e.key, e.val)) := List.mem_map.2 ⟨x, hx, rfl⟩
    rw [M.ents] at this
    obtain ⟨q, hq, e⟩ := List.mem_map.1 this
    have e1 := (Prod.mk.inj e).1.symm
    have hw := M.wf q hq
    refine ⟨q.1, e1, ?_⟩
    unfold Go.WideElems.rd
    rw [e1, Maps.keyOf_int_mk hk (wfI hw)]
    rfl
  have hsz := M.size
  have hown : W.ownsMap Try.prog 3 R b es.size D0 := ⟨es, clock, hb, ⟨by rw [hsz]; exact Nat.le_trans hl (by decide), M.stamped, fun x hx => by obtain ⟨k, _, h2⟩ := hrd x hx; exact ⟨_, h2⟩⟩, Nat.le_refl _, rfl⟩
  have hD0 : Maps.size D0 = D.length := by
    show ((es.toList.map (Go.WideElems.rg Try.prog 3 R)).foldr DataW.insert []).length = _
    rw [(foldr_perm _).length_eq]
    simp [hsz]
  have hkeys : (intKeys D0).Perm (D.map (·.1)) := by
    show (((es.toList.map (Go.WideElems.rg Try.prog 3 R)).foldr DataW.insert []).map fun p => Go.intOf p.1).Perm _
    refine ((foldr_perm _).map _).trans ?_
    have e1 : ((es.toList.map (Go.WideElems.rg Try.prog 3 R)).map fun p => Go.intOf p.1) = (es.toList.map (fun e => e.key)).map fun v => match v with | .int _ a => a | _ => 0 := by
      rw [List.map_map, List.map_map]
      refine List.map_congr_left fun x hx => ?_
      obtain ⟨k, h1, h2⟩ := hrd x hx
      simp only [Function.comp_def, Go.WideElems.rg, h2, h1, Option.getD_some, Go.intOf]
    have e2 : es.toList.map (fun e => e.key) = D.map fun q => (.int .i64 q.1 : Value) := by
      have := congrArg (fun l => l.map Prod.fst) M.ents
      simpa [List.map_map, Function.comp_def] using this
    rw [e1, e2, List.map_map]
    exact .refl _
  have hseq := AnyZI.keys_gives (ρ := Try.keysA_ren) { Try.keysA with } Fence.wide 2 trivial rfl (by omega) B b es.size D0 W hB hc hown
  have cS := AnyZI.sorted_in Try.sortedA Fence.wide 5 trivial trivial trivial trivial rfl (by omega) (Try.sortsA _) (enters_of Try.func49 (by kernel_rfl) rfl) iterFn #[.pointer (some ⟨B, 0, none⟩)] trivial (enters_of Try.func50 (by kernel_rfl) rfl) _ _ (by rw [hD0]; exact Nat.le_trans hl (by decide)) (by rw [hD0]; omega) W hseq
  refine (callsIn_wide.1 cS).mono ?_
  rintro e w' ⟨v, ss, rfl, hS, hrow, hnil, hbel⟩
  have hp : ss.Perm (D.map (·.1)) := hS.trans hkeys
  have hlen : ss.length = D.length := by rw [hp.length_eq]; simp
  have hsort : ss.mergeSort (fun x y => decide (x ≤ y)) = sortK D := mergeSort_of_perm_i hp
  rw [hsort, hlen] at hrow
  refine ⟨v, rfl, hrow, hnil.trans ⟨fun h => ?_, fun h => ?_⟩, hbel⟩
  · rw [h] at hlen; exact List.length_eq_zero_iff.1 hlen.symm
  · rw [h] at hlen; exact List.length_eq_zero_iff.1 hlen

/-! ### .. at the walks -/
abbrev seqV (k : Nat) : Value := .func (.func iterFn) ⟨[]⟩ ⟨[.pointer (some ⟨k, 0, some 0⟩)]⟩
abbrev keyC (i : Nat) : Chunk := @Chunk.mk atZ true 1 [(0, 1, .map (some i))]
theorem cKeysT (i k : Nat) (c : Chunk) (h : List (Option Chunk)) (hi : h[i]? = some (some c)) (hk : h[k]? = some none) : CallOK Try.prog keysFn [.map (some i)] h (seqV k) [(k, keyC i)] [i] := fun h₂ hr hm X ρ w xs H hx => by
  have hi2 : h₂[i]? = some (some c) := (hr i (by simp)).trans hi
  have hk2 : h₂[k]? = some none := (hm _ (List.mem_singleton.2 rfl)).trans hk
  obtain ⟨x, rfl⟩ : ∃ x, xs = [x] := by
    match xs, hx with
    | [x], _ => exact ⟨x, rfl⟩
  have hx1 : x = .map (some (ρ i).1) := hx.1.self.symm
  refine .inr ⟨Try.call33 _ w, ?_⟩
  rw [hx1]
  refine (keys_w (some (ρ i).1) w).mono ?_
  rintro e w' ⟨rfl, rfl⟩
  obtain ⟨ρ', ha, hρ, H'⟩ := H.alloc (c := ⟨true, 1, [(0, 1, .map (some i))]⟩) (xs := #[.map (some (ρ i).1)]) (ty := 64) hk2 rfl (fun j y hy => by
    cases j with
    | zero =>
      simp at hy; subst hy
      exact fun r hr => by
        have := hr i ⟨c, hi2⟩
        show den1 r (.map (some i)) = _
        simp [den1, den0, this]
    | succ j => simp at hy)
  have H3 := H'.setX (k := k) (List.getElem?_set_self (List.getElem?_eq_some_iff.1 hk2).1) atZ fun S hS => ⟨by rw [hρ], hS⟩
  rw [List.set_set] at H3
  refine ⟨_, rfl, ρ', ha, H3, fun r hr => ?_⟩
  have := hr k ⟨keyC i, by show (h₂.set k _)[k]? = _; rw [List.getElem?_set_self (List.getElem?_eq_some_iff.1 hk2).1]⟩
  simp [den, den2, den1, den0, denA, this, hρ]
/-- Some numbers, one behind the other. -/
abbrev intsC (l : List Int) : Chunk := ⟨true, l.length, [(0, l.length, .agg ⟨l.map (Value.int .i64)⟩)]⟩
theorem intsC_f {l : List Int} {j : Nat} {x : Int} (h : l[j]? = some x) : (intsC l).f j = .int .i64 x := by
  have hl := (List.getElem?_eq_some_iff.1 h).1
  show cellOf [(0, l.length, .agg ⟨l.map (Value.int .i64)⟩)] j = _
  rw [cellOf_cons, if_pos (by omega)]
  simp [cellIn, h]
def sortR {α : Type} (D : List (Int × α)) (k : Nat) (v : Value) (ms : List (Nat × Chunk)) : Prop :=
  (D = [] ∧ v = .slice none 0 0 ∧ ms = []) ∨ ∃ cap, 0 < D.length ∧ D.length ≤ cap ∧ v = .slice (some ⟨k, 0, some 0⟩) D.length cap ∧ ms = [(k, intsC (sortK D))]
theorem cSortedT {α : Type} {enc : α → Value} (D : List (Int × α)) (i l k : Nat) (c : Chunk) (h : List (Option Chunk)) (hi : h[i]? = some (some c)) (hc : c.x = mapX enc D) (hl : h[l]? = some (some (keyC i))) (hk : h[k]? = some none) (hlen : D.length ≤ 100000) : CallAll Try.prog sortedFn [seqV l] h (sortR D k) := fun X ρ w xs H hx => by
  obtain ⟨x, rfl⟩ : ∃ x, xs = [x] := by
    match xs, hx with
    | [x], _ => exact ⟨x, rfl⟩
  obtain ⟨S, E⟩ := H.ext
  have hz : (ρ l).2 = 0 := (E.inv l _ hl).1
  have hx1 : x = .func (.func iterFn) #[] #[.pointer (some ⟨(ρ l).1, 0, none⟩)] := by
    rw [← hx.1.self]; simp [den, den2, den1, den0, denA, hz]
  obtain ⟨hS, es, clock, hb, M⟩ : (∀ b, S i b ↔ b = (ρ i).1) ∧ ∃ es clock, w.heap[(ρ i).1]? = some (.map es clock) ∧ MapIs enc D es clock := by have := E.inv i c hi; rw [hc] at this; exact this
  have hcell : w.cell? ⟨(ρ l).1, 0, none⟩ = some (.map (some (ρ i).1)) := by
    obtain ⟨y, hy, hd⟩ := H.cell l _ hl 0 (by show 0 < 1; decide)
    rw [hz] at hy
    have := hd.self
    rw [hy, ← this]
    rfl
  refine .inr ⟨Try.call32 _ w, ?_⟩
  rw [hx1]
  refine (sorted_w D (ρ l).1 (ρ i).1 w (H.lt l _ hl) hcell hb M hlen).mono ?_
  rintro e w' ⟨v, rfl, ⟨_, hrow⟩, hnil, hbel⟩
  rcases hrow with ⟨rfl, h0⟩ | ⟨g, cap, cur, rfl, hbase, hg, hcap, hmax, hsz, htake⟩
  · exact ⟨_, rfl, .slice none 0 0, [], ρ, .inl ⟨List.length_eq_zero_iff.1 h0, rfl, rfl⟩, AgreeOn.refl _ _, H.frame hbel, fun r _ => rfl⟩
  · have hpos : 0 < D.length := by
      rcases Nat.eq_zero_or_pos D.length with h0 | h0
      · have := hnil.2 (List.length_eq_zero_iff.1 h0); cases this
      · exact h0
    have hlt : g < w'.heap.size := (Array.getElem?_eq_some_iff.1 hg).1
    rw [Nat.mul_one] at htake hsz
    obtain ⟨ρ', ha, hρ, H'⟩ := HOK.newB (d := intsC (sortK D)) H hk hbel ⟨hbase, hlt⟩ rfl (fun j hj => by
      have hj : j < (sortK D).length := hj
      have e1 : (sortK D)[j]? = some (sortK D)[j] := by simp [hj]
      rw [intsC_f e1]
      refine ⟨?_, rfl, by simp [World.frozen?, hg]⟩
      have h1 : (cur.toList.take D.length)[j]? = ((sortK D).map encZ)[j]? := by rw [htake]
      rw [List.getElem?_take_of_lt (by rw [← sortK_len D]; exact hj)] at h1
      simp only [World.cell?, hg]
      simp only [Option.isSome_none, Bool.false_eq_true, if_false]
      rw [← Array.getElem?_toList, h1]
      simp [hj])
    refine ⟨_, rfl, .slice (some ⟨k, 0, some 0⟩) D.length cap, [(k, intsC (sortK D))], ρ', .inr ⟨cap, hpos, hcap, rfl, rfl⟩, ha, H', fun r hr => ?_⟩
    have := hr k ⟨intsC (sortK D), by show (h.set k _)[k]? = _; rw [List.getElem?_set_self (List.getElem?_eq_some_iff.1 hk).1]⟩
    simp [den, den2, den1, den0, denA, this, hρ]
end Go.Proofs.Ytpafcfelaaibgaa
