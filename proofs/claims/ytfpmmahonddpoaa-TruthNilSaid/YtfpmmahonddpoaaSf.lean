/-
  Sx, its last part: a function's results, contracts, and the rules by which a proof goes from place to place.
-/
import Derived.Test.YtfpmmahonddpoaaSc
import Derived.KernelRfl
set_option linter.unusedVariables false
set_option linter.unusedSimpArgs false
namespace Go.Proofs.Ytfpmmahonddpoaa.Sx
open Go Go.RowKit

/-! ### Results -/
abbrev ResT := St → (List Value → Prop) → Prop
def resK1 (G : Tys) (r : ResultVar) (ih : ResT) : ResT := fun st K =>
  match st with
  | ⟨t0, h0⟩ => match r with
    | .tmp t => getK t0 t fun v => ih ⟨t0, h0⟩ fun vs => K (v :: vs)
    | .cell t ty => getK t0 t fun p => match p with
      | .pointer (some ⟨i, f, some s⟩) => getH h0 i fun c => lookT G ty fun ti d => loadK c f s (isAggD d) ti.size fun v => ih ⟨t0, h0⟩ fun vs => K (v :: vs)
      | _ => False
noncomputable def resK (G : Tys) (rs : List ResultVar) : ResT := List.rec (motive := fun _ => ResT) (fun _ K => K []) (fun r _ ih => resK1 G r ih) rs
def tup2 (v : Value) : Bool :=
  match v with
  | .tuple _ => false
  | _ => true
noncomputable def retK (P : Program) (G : Tys) (rs : List ResultVar) (st : St) (K : Value → Prop) : Prop :=
  resK G rs st fun vs => match vs with
    | [v] => K v
    | vs => match vs.all tup2 with
      | true => K (.tuple ⟨vs⟩)
      | false => False

section
variable {P : Program} {G : Tys}

theorem run_loadVar {X : Ctx} {ρ : Nat → Nat × Nat} {st : St} {a : Act} {w : World} {t : TypeId} {i f s : Nat} {c : Chunk} {ti : TypeInfo} {d : TypeDesc} {v x : Value} (R : Rel X ρ st a w) (hx : Den (Fil st.h) ρ (.pointer (some ⟨i, f, some s⟩)) x) (hi : st.h[i]? = some (some c))
    (h1 : P.info? t = some ti) (h2 : P.underlying t = some d) (hr : Reads c f (isAggD d) ti.size v) : ∃ y, (do loadVar t (← asAddr x) : Sem Value).run P w = .ok y w ∧ Den (Fil st.h) ρ v y := by
  have hx' : x = .pointer (some ⟨(ρ i).1, (ρ i).2 + f, none⟩) := hx.self.symm
  cases hd : isAggD d with
  | false =>
    rw [hd] at hr
    obtain ⟨hl, hv, hf⟩ := hr
    obtain ⟨y, hy, hyd⟩ := R.heap.cell i c hi f hl
    refine ⟨y, ?_, by rw [hf] at hyd; exact Den.of_one hyd hv⟩
    simp only [hx', asAddr, loadVar, Sem.run_bind, Sem.run_pure, Result.andThen_ok, run_isAgg h2, hd, Bool.false_eq_true, if_false, run_load, hy]
  | true =>
    rw [hd] at hr
    obtain ⟨hl, cs, rfl, hn, hf⟩ := hr
    have hcell : ∀ j, (hj : j < cs.toList.length) → ∃ y, w.cell? ⟨(ρ i).1, (ρ i).2 + (f + j), none⟩ = some y ∧ Den1 (Fil st.h) ρ cs.toList[j] y := fun j hj => by
      obtain ⟨y, hy, hyd⟩ := R.heap.cell i c hi (f + j) (by omega)
      have e := hf j (by omega)
      rw [List.getD_eq_getElem?_getD, List.getElem?_eq_getElem hj] at e
      simp only [Option.getD_some] at e
      rw [e] at hyd
      exact ⟨y, hy, hyd⟩
    have hcells : ∀ j v, (cs.toList.map (den1 ρ))[j]? = some v → w.cell? ((⟨(ρ i).1, (ρ i).2 + f, none⟩ : Addr).add j) = some v := fun j v hv => by
      have hj : j < cs.toList.length := by have := (List.getElem?_eq_some_iff.1 hv).1; simpa using this
      rw [List.getElem?_map, List.getElem?_eq_getElem hj] at hv
      obtain ⟨y, hy, hyd⟩ := hcell j hj
      rw [add_at, Nat.add_assoc, hy, ← hyd.self]
      exact hv
    have hlen : ti.size = (cs.toList.map (den1 ρ)).length := by rw [List.length_map, hn]
    refine ⟨.agg (cs.map (den1 ρ)), ?_, fun r hr => ?_⟩
    · simp only [hx', asAddr, loadVar, Sem.run_bind, Sem.run_pure, Result.andThen_ok, run_isAgg h2, hd, if_true, run_sizeOf h1]
      rw [hlen, run_loadCells_list _ _ _ hcells]
      simp only [Result.andThen_ok, Result.ok.injEq, Value.agg.injEq, and_true]
      apply Array.toList_inj.1
      simp
    · simp only [den, den2, Value.agg.injEq]
      apply Array.toList_inj.1
      rw [Array.toList_map, Array.toList_map]
      apply List.map_congr_left
      intro u hu
      obtain ⟨j, hj, he⟩ := List.getElem_of_mem hu
      obtain ⟨y, hy, hyd⟩ := hcell j hj
      rw [he] at hyd
      rw [hyd r hr, hyd.self]

def resF (a : Act) (r : ResultVar) : Sem Value :=
  match r with
  | .tmp t => pure (a.tmps.getD t undef)
  | .cell p t => do loadVar t (← asAddr (a.tmps.getD p undef))
theorem res_out (hG : TysOK P G) {t0 : List (Option Value)} {h0 : List (Option Chunk)} : ∀ {rs : List ResultVar} {K : List Value → Prop}, resK G rs ⟨t0, h0⟩ K → ∃ vs, K vs ∧ ∀ X ρ a w, Rel X ρ ⟨t0, h0⟩ a w → ∃ xs, (rs.mapM (resF a) : Sem (List Value)).run P w = .ok xs w ∧ All2 (Den (Fil h0) ρ) vs xs
  | [], K, h => ⟨[], h, fun X ρ a w R => ⟨[], rfl, trivial⟩⟩
  | .tmp t :: r, K, h => by
    obtain ⟨v, hv, h⟩ := getK_out (l := t0) (n := t) h
    obtain ⟨vs, hk, hr⟩ := res_out hG h
    refine ⟨_, hk, fun X ρ a w R => ?_⟩
    obtain ⟨xs, hx, hd⟩ := hr X ρ a w R
    obtain ⟨y, hy, hyd⟩ := R.slot t v hv
    refine ⟨y :: xs, ?_, hyd, hd⟩
    have hy' : a.tmps.getD t undef = y := by rw [Array.getD_eq_getD_getElem?, hy]; rfl
    rw [List.mapM_cons, show resF a (.tmp t) = pure (a.tmps.getD t undef) from rfl, hy', Sem.run_bind, Sem.run_pure]
    simp only [Result.andThen_ok, Sem.run_bind, hx, Sem.run_pure]
  | .cell t ty :: r, K, h => by
    obtain ⟨p, hp, h⟩ := getK_out (l := t0) (n := t) h
    split at h
    · obtain ⟨c, hc, h⟩ := getH_out h
      obtain ⟨ti, d, h1, h2, h⟩ := lookT_out hG h
      obtain ⟨v, hv, h⟩ := loadK_out h
      obtain ⟨vs, hk, hr⟩ := res_out hG h
      refine ⟨_, hk, fun X ρ a w R => ?_⟩
      obtain ⟨xs, hx, hd⟩ := hr X ρ a w R
      obtain ⟨z, hz, hzd⟩ := R.slot t _ hp
      obtain ⟨y, hy, hyd⟩ := run_loadVar (P := P) R hzd hc h1 h2 hv
      refine ⟨y :: xs, ?_, hyd, hd⟩
      have hz' : a.tmps.getD t undef = z := by rw [Array.getD_eq_getD_getElem?, hz]; rfl
      rw [List.mapM_cons, show resF a (.cell t ty) = (do loadVar ty (← asAddr (a.tmps.getD t undef)) : Sem Value) from rfl, hz', Sem.run_bind, hy]
      simp only [Result.andThen_ok, Sem.run_bind, hx, Sem.run_pure]
    · exact h.elim

theorem ret_out (hG : TysOK P G) {st : St} {fn : Func} {K : Value → Prop} (h : retK P G fn.results.toList st K) : ∃ v, K v ∧ ∀ X ρ a w, Rel X ρ st a w → ∃ x, (results fn a.tmps).run P w = .ok x w ∧ Den (Fil st.h) ρ v x := by
  obtain ⟨t0, h0⟩ := st
  obtain ⟨vs, hk, hr⟩ := res_out hG h
  have key : ∀ X ρ a w, Rel X ρ ⟨t0, h0⟩ a w → ∃ xs : List Value, (results fn a.tmps).run P w = .ok (match xs with
      | [x] => x
      | xs => .tuple ⟨xs⟩) w ∧ All2 (Den (Fil h0) ρ) vs xs := fun X ρ a w R => by
    obtain ⟨xs, hx, hd⟩ := hr X ρ a w R
    refine ⟨xs, ?_, hd⟩
    have ef : results fn a.tmps = (do
        let vs ← fn.results.mapM (resF a)
        pure (if h : vs.size = 1 then vs[0] else .tuple vs)) := rfl
    rw [ef, Array.mapM_eq_mapM_toList, Sem.run_bind, Sem.run_map, hx]
    simp only [Result.andThen_ok, Sem.run_pure]
    match xs with
    | [] => rfl
    | [x] => rfl
    | x :: y :: r => simp
  split at hk
  · rename_i v
    refine ⟨v, hk, fun X ρ a w R => ?_⟩
    obtain ⟨xs, hx, hd⟩ := key X ρ a w R
    match xs, hd with
    | [x], hd => exact ⟨x, hx, hd.1⟩
    | [], hd => exact hd.elim
    | _ :: _ :: _, hd => exact hd.2.elim
  · rename_i hne
    cases hb : vs.all tup2 with
    | false => rw [hb] at hk; exact hk.elim
    | true =>
      rw [hb] at hk
      refine ⟨_, hk, fun X ρ a w R => ?_⟩
      obtain ⟨xs, hx, hd⟩ := key X ρ a w R
      refine ⟨.tuple ⟨xs⟩, ?_, ?_⟩
      · rw [hx]
        match xs, vs, hd, hne with
        | [x], [v], _, hne => exact absurd rfl (hne v)
        | [x], [], hd, _ => exact hd.elim
        | [x], _ :: _ :: _, hd, _ => exact hd.2.elim
        | [], _, _, _ => rfl
        | _ :: _ :: _, _, _, _ => rfl
      · intro r hr
        have : ∀ (vs xs : List Value), vs.all tup2 = true → All2 (Den (Fil h0) ρ) vs xs → vs.map (den2 r) = xs := by
          intro vs
          induction vs with
          | nil => intro xs _ h; cases xs with
            | nil => rfl
            | cons _ _ => exact h.elim
          | cons v vs ih =>
            intro xs hb h
            cases xs with
            | nil => exact h.elim
            | cons x xs =>
              simp only [List.all_cons, Bool.and_eq_true] at hb
              rw [List.map_cons, ih xs hb.2 h.2]
              congr 1
              rw [← h.1 r hr]
              cases v <;> first | rfl | (simp [tup2] at hb)
        simp only [den, Value.tuple.injEq]
        apply Array.toList_inj.1
        rw [Array.toList_map]
        exact this vs xs hb hd

/-! ### Whole functions -/
noncomputable def bodyQ (P : Program) (G : Tys) (fn : Func) (R : Value → St → Prop) : Exit → St → Prop
  | .normal, st => retK P G fn.results.toList st fun v => R v st
  | .ret, st => retK P G fn.results.toList st fun v => R v st
  | _, _ => False
def restK : Nat → (List (Option Value) → Prop) → Prop
  | 0, K => K []
  | n + 1, K => restK n fun t => K (none :: t)
def initK : List Value → Nat → (List (Option Value) → Prop) → Prop
  | [], n, K => restK n K
  | v :: vs, n, K => initK vs (n - 1) fun t => K (some v :: t)
def initT : List Value → Nat → List (Option Value)
  | [], n => List.replicate n none
  | v :: vs, n => some v :: initT vs (n - 1)
theorem restK_out : ∀ {n : Nat} {K : List (Option Value) → Prop}, restK n K → K (List.replicate n none)
  | 0, K, h => h
  | n + 1, K, h => restK_out (n := n) (K := fun t => K (none :: t)) h
theorem initK_out : ∀ {vs : List Value} {n : Nat} {K : List (Option Value) → Prop}, initK vs n K → K (initT vs n)
  | [], n, K, h => restK_out h
  | v :: vs, n, K, h => initK_out (vs := vs) (n := n - 1) (K := fun t => K (some v :: t)) h
theorem initT_len : ∀ (vs : List Value) (n : Nat), (initT vs n).length = vs.length + (n - vs.length)
  | [], n => by simp [initT]
  | v :: vs, n => by simp [initT, initT_len vs (n - 1)]; omega
theorem initT_get : ∀ (vs : List Value) (n i : Nat) (v : Value), (initT vs n)[i]? = some (some v) → vs[i]? = some v
  | [], n, i, v, h => by simp [initT, List.getElem?_replicate] at h
  | u :: vs, n, 0, v, h => by simpa [initT] using h
  | u :: vs, n, i + 1, v, h => by simpa using initT_get vs (n - 1) i v (by simpa [initT] using h)

theorem all2_len {α β : Type} {p : α → β → Prop} : ∀ {a : List α} {b : List β}, All2 p a b → a.length = b.length
  | [], [], _ => rfl
  | [], _ :: _, h => h.elim
  | _ :: _, [], h => h.elim
  | _ :: a, _ :: b, h => by simp [all2_len h.2]
theorem all2_get {α β : Type} {p : α → β → Prop} : ∀ {a : List α} {b : List β}, All2 p a b → ∀ (i : Nat) (x : α), a[i]? = some x → ∃ y, b[i]? = some y ∧ p x y
  | [], [], _, i, x, hx => by simp at hx
  | [], _ :: _, h, _, _, _ => h.elim
  | _ :: _, [], h, _, _, _ => h.elim
  | u :: a, v :: b, h, 0, x, hx => ⟨v, rfl, by simp at hx; subst hx; exact h.1⟩
  | u :: a, v :: b, h, i + 1, x, hx => by simpa using all2_get h.2 i x (by simpa using hx)

theorem calls_sx {f : FuncId} {fn : Func} {c : Code} {args : Array Value} {w : World} {X : Ctx} {ρ : Nat → Nat × Nat} {h : List (Option Chunk)} {vs : List Value} {R : Value → St → Prop} (hG : TysOK P G) (hm : P.follows .mixedOrders = true) (hf : P.funcs[f]? = some fn) (hb : fn.body = some c)
    (H : HOK X ρ h w) (hx : All2 (Den (Fil h) ρ) vs args.toList) (hwp : initK vs fn.ntmps fun t => wpC P G X.n0 c (bodyQ P G fn R) ⟨t, h⟩) :
    Calls P f args w fun e w' => ∃ ρ' v st x, e = .returned x ∧ HOK X ρ' st.h w' ∧ Den (Fil st.h) ρ' v x ∧ R v st := by
  have hwp := initK_out hwp
  refine calls_of_wp hf hb ?_
  have hlen := all2_len hx
  have R0 : Rel X ρ ⟨initT vs fn.ntmps, h⟩ { tmps := args ++ Array.replicate (fn.ntmps - args.size) undef, defers := [] } w := by
    refine ⟨rfl, ?_, fun i v hi => ?_, H⟩
    · simp [initT_len, hlen]
    · have hv := initT_get vs fn.ntmps i v hi
      obtain ⟨y, hy, hd⟩ := all2_get hx i v hv
      refine ⟨y, ?_, hd⟩
      have hi' : i < args.size := by have := (List.getElem?_eq_some_iff.1 hy).1; simpa using this
      rw [Array.getElem?_append_left hi']
      simpa using hy
  refine wp_mono (wpC_out hG hm X c _ _ hwp ρ _ w R0) ?_
  rintro e a' w' ⟨ρ', s, R', hq⟩
  cases e with
  | normal =>
    obtain ⟨v, hk, hr⟩ := ret_out hG hq
    obtain ⟨x, hx, hd⟩ := hr X ρ' a' w' R'
    exact ⟨R'.defers, x, hx, ρ', v, s, x, rfl, R'.heap, hd, hk⟩
  | ret =>
    obtain ⟨v, hk, hr⟩ := ret_out hG hq
    obtain ⟨x, hx, hd⟩ := hr X ρ' a' w' R'
    exact ⟨R'.defers, x, hx, ρ', v, s, x, rfl, R'.heap, hd, hk⟩
  | _ => exact hq.elim

def plain3 (v : Value) : Bool :=
  match v with
  | .tuple vs => vs.toList.all plain2
  | v => plain2 v
theorem den_plain3 {v : Value} (h : plain3 v = true) (ρ : Nat → Nat × Nat) : den ρ v = v := by
  cases v with
  | tuple vs =>
    simp only [plain3, List.all_eq_true] at h
    simp only [den, Value.tuple.injEq]
    apply Array.toList_inj.1
    rw [Array.toList_map]
    exact (List.map_congr_left fun x hx => den2_plain (h x hx) ρ).trans (List.map_id _)
  | _ => (simp only [plain3] at h; exact den_plain h ρ)
theorem den_all {F : Nat → Prop} {ρ : Nat → Nat × Nat} : ∀ {vs : List Value}, vs.all plain2 = true → All2 (Den F ρ) vs vs
  | [], _ => trivial
  | v :: vs, h => by
    simp only [List.all_cons, Bool.and_eq_true] at h
    exact ⟨Den.plain h.1, den_all h.2⟩
theorem den_all_eq {F : Nat → Prop} {ρ : Nat → Nat × Nat} : ∀ {vs xs : List Value}, vs.all plain2 = true → All2 (Den F ρ) vs xs → xs = vs
  | [], [], _, _ => rfl
  | [], _ :: _, _, h => h.elim
  | _ :: _, [], _, h => h.elim
  | v :: vs, x :: xs, hp, h => by
    simp only [List.all_cons, Bool.and_eq_true] at hp
    rw [den_all_eq hp.2 h.2, ← h.1.self, den_plain hp.1]

/-- A function of plain values: its contract. -/
theorem calls_pure {f : FuncId} {fn : Func} {c : Code} {vs : List Value} {V : Value} (w : World) (hG : TysOK P G) (hm : P.follows .mixedOrders = true) (hf : P.funcs[f]? = some fn) (hb : fn.body = some c) (hp : vs.all plain2 = true) (hV : plain3 V = true)
    (hwp : initK vs fn.ntmps fun t => wpC P G 0 c (bodyQ P G fn fun v _ => N (v = V)) ⟨t, []⟩) : Calls P f ⟨vs⟩ w fun e w' => e = .returned V ∧ Below w.heap.size w w' := by
  have H : HOK ⟨w, fun _ => False, 0, fun _ => (0, 0)⟩ (fun _ => (0, 0)) [] w := ⟨Evo.refl _ _, fun i hi => absurd hi (by simp), fun i c hi => by simp at hi, fun i c hi => by simp at hi, fun i c hi => by simp at hi, fun i c j d hi => by simp at hi⟩
  refine (calls_sx (X := ⟨w, fun _ => False, 0, fun _ => (0, 0)⟩) hG hm hf hb H (den_all hp) hwp).mono ?_
  rintro e w' ⟨ρ', v, st, x, rfl, H', hd, hv⟩
  have hv := hv.out
  subst hv
  refine ⟨?_, H'.evo.below⟩
  rw [← hd.self, den_plain3 hV]
end

def TysAll (P : Program) : Tys → Prop
  | [] => True
  | r :: rs => (P.info? r.1 = some r.2.1 ∧ P.underlying r.1 = some r.2.2) ∧ TysAll P rs
theorem TysAll.ok {P : Program} : ∀ {G : Tys}, TysAll P G → TysOK P G
  | [], _ => fun r hr => by cases hr
  | q :: rs, h => fun r hr => by
    rcases List.mem_cons.1 hr with rfl | hr
    · exact h.1
    · exact TysAll.ok h.2 r hr

/-! ### Rules -/
theorem N.forkT {A B : Prop} (h : A) : N (Fork true A B) := N.mk ⟨fun _ => h, fun e => (by cases e)⟩
theorem N.forkF {A B : Prop} (h : B) : N (Fork false A B) := N.mk ⟨fun e => (by cases e), fun _ => h⟩
theorem N.fork {b : Bool} {A B : Prop} (h : b = true → A) (k : b = false → B) : N (Fork b A B) := N.mk ⟨h, k⟩
theorem N.forkYes {b : Bool} {A B : Prop} (hb : b = true) (h : A) : N (Fork b A B) := N.mk ⟨fun _ => h, fun e => by rw [hb] at e; cases e⟩
theorem N.forkNo {b : Bool} {A B : Prop} (hb : b = false) (h : B) : N (Fork b A B) := N.mk ⟨fun e => (by rw [hb] at e; cases e), fun _ => h⟩
theorem N.eq {a b : Value} (h : a = b) : N (a = b) := N.mk h
theorem N.obl {p A : Prop} (h : p) (k : A) : N (Obl p A) := N.mk ⟨h, k⟩
section
variable {P : Program} {G : Tys}
theorem N.call {q : Bool} {g : FuncId} {vs : List Value} {h : List (Option Chunk)} {slot : Nat} {K : Value → List (Nat × Chunk) → List Nat → Prop} {v : Value} {ms : List (Nat × Chunk)} {rh : List Nat} (hc : CallOK P g vs h v ms rh) (k : K v ms rh) : N (CallN q P g vs h slot K) := N.mk (.inl ⟨v, ms, rh, hc, k⟩)
theorem N.callAll {g : FuncId} {vs : List Value} {h : List (Option Chunk)} {slot : Nat} {K : Value → List (Nat × Chunk) → List Nat → Prop} {R : Value → List (Nat × Chunk) → Prop} (hc : CallAll P g vs h R) (k : ∀ v ms, R v ms → K v ms []) : N (CallN true P g vs h slot K) := N.mk (.inr ⟨rfl, R, hc, k⟩)
theorem call_pure {g : FuncId} {vs : List Value} {h : List (Option Chunk)} {v : Value} (hp : vs.all plain2 = true) (hv : plain3 v = true) (hr : ∀ w, (callFunc g ⟨vs⟩).run P w = .ok (.enter g ⟨vs⟩) w) (hc : ∀ w, Calls P g ⟨vs⟩ w fun e w' => e = .returned v ∧ Below w.heap.size w w') : CallOK P g vs h v [] [] :=
  fun h₂ _ _ X ρ w xs H hx => by
    obtain rfl := den_all_eq hp hx
    refine .inr ⟨hr w, (hc w).mono ?_⟩
    rintro e w' ⟨rfl, hb⟩
    exact ⟨v, rfl, ρ, AgreeOn.refl _ _, H.frame hb, fun r _ => den_plain3 hv r⟩
theorem call_ext {g : FuncId} {vs : List Value} {h : List (Option Chunk)} {v : Value} (hp : vs.all plain2 = true) (hv : plain3 v = true) (hr : ∀ w, (callFunc g ⟨vs⟩).run P w = .ok (.value v) w) : CallOK P g vs h v [] [] :=
  fun h₂ _ _ X ρ w xs H hx => by
    obtain rfl := den_all_eq hp hx
    exact .inl ⟨v, w, hr w, ρ, AgreeOn.refl _ _, H, fun r _ => den_plain3 hv r⟩
theorem N.load {c : Chunk} {f n : Nat} {agg : Bool} {K : Value → Prop} (v : Value) (h : Reads c f agg n v) (k : K v) : N (LoadN c f agg n K) := N.mk ⟨v, h, k⟩
theorem N.store {c : Chunk} {f n : Nat} {v : Value} {K : Chunk → Prop} (d : Chunk) (h : Writes c f n v d) (k : K d) : N (StoreN c f n v K) := N.mk ⟨d, h, k⟩
theorem N.idx {a : Int} {n : Nat} {K : Nat → Nat → Prop} (j s : Nat) (ha : a = (j : Nat)) (hj : j < n) (k : K j s) : N (IdxN a n K) := N.mk ⟨j, s, ha, hj, k⟩
theorem N.bin {op : BinOp} {t : TypeId} {x y : Operand} {a b : Value} {K : Value → Prop} (v : Value) (h : BinIs P op t x y a b v) (k : K v) : N (BinN P op t x y a b K) := N.mk ⟨v, h, k⟩
end
end Go.Proofs.Ytfpmmahonddpoaa.Sx
