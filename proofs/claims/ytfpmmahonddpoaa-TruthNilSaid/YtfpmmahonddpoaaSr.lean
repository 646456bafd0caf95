/-
  Sx, its fourth part: a statement's operations, in the order of the text and in whatever order Go leaves open.
-/
import Derived.Test.YtfpmmahonddpoaaSw
set_option linter.unusedVariables false
set_option linter.unusedSimpArgs false
namespace Go.Proofs.Ytfpmmahonddpoaa.Sx
open Go Go.RowKit

structure Res where
  v : Value
  ms : List (Nat × Chunk)
  rh : List Nat
def St.after (st : St) (dst : Option Tmp) (v : Value) (ms : List (Nat × Chunk)) : St :=
  ⟨match dst with
    | some d => st.t.set d (some v)
    | none => st.t, modH st.h ms⟩
def afterK (st : St) (dst : Option Tmp) (v : Value) (ms : List (Nat × Chunk)) (K : St → Prop) : Prop :=
  match st with
  | ⟨t0, h0⟩ => match dst with
    | some d => setK t0 d v fun t => setM h0 ms fun h => K ⟨t, h⟩
    | none => setM h0 ms fun h => K ⟨t0, h⟩
theorem afterK_out {st : St} {dst : Option Tmp} {v : Value} {ms : List (Nat × Chunk)} {K : St → Prop} (h : afterK st dst v ms K) : K (st.after dst v ms) := by
  obtain ⟨t0, h0⟩ := st
  cases dst with
  | some d => exact setM_out (K := fun h => K ⟨_, h⟩) (setK_out (K := fun t => setM h0 ms fun h => K ⟨t, h⟩) h)
  | none => exact setM_out (K := fun h => K ⟨_, h⟩) h

def slotsOf : Op → Nat
  | .alloc _ | .box .. | .buildSlice .. | .makeSlice .. | .makeMap .. | .range .. => 1
  | .call _ => 4
  | _ => 0

abbrev RunT := Nat → St → List (List Nat × List Nat) → (St → List (List Nat × List Nat) → Prop) → Prop
def wpR1 (P : Program) (G : Tys) (ops : List Oper) (o : Oper) (ih : RunT) : RunT := fun sl st acc K =>
  match st with
  | ⟨t0, h0⟩ => match nthL h0 sl with
    | some none => match o.guard with
      | none => stepS P G o ⟨t0, h0⟩ sl fun v ms rh => afterK ⟨t0, h0⟩ o.dst v ms fun st' => litK (sl + slotsOf o.op) fun sl' => ih sl' st' ((rh, ms.map (·.1)) :: acc) K
      | some (j, want) => match nthL ops j with
        | some oj => match oj.dst with
          | some d => getK t0 d fun g => match g with
            | .bool b => N (Fork b
                (setK t0 d (.bool true) fun t => match want with
                  | true => stepS P G o ⟨t, h0⟩ sl fun v ms rh => afterK ⟨t, h0⟩ o.dst v ms fun st' => litK (sl + slotsOf o.op) fun sl' => ih sl' st' ((rh, ms.map (·.1)) :: acc) K
                  | false => afterK ⟨t, h0⟩ o.dst undef [] fun st' => litK (sl + slotsOf o.op) fun sl' => ih sl' st' (([], []) :: acc) K)
                (setK t0 d (.bool false) fun t => match want with
                  | false => stepS P G o ⟨t, h0⟩ sl fun v ms rh => afterK ⟨t, h0⟩ o.dst v ms fun st' => litK (sl + slotsOf o.op) fun sl' => ih sl' st' ((rh, ms.map (·.1)) :: acc) K
                  | true => afterK ⟨t, h0⟩ o.dst undef [] fun st' => litK (sl + slotsOf o.op) fun sl' => ih sl' st' (([], []) :: acc) K))
            | .tuple _ => afterK ⟨t0, h0⟩ o.dst undef [] fun st' => litK (sl + slotsOf o.op) fun sl' => ih sl' st' (([], []) :: acc) K
            | _ => False
          | none => False
        | none => False
    | _ => False
noncomputable def wpR (P : Program) (G : Tys) (ops : List Oper) (os : List Oper) : RunT :=
  List.rec (motive := fun _ => RunT) (fun _ st acc K => K st acc) (fun o _ ih => wpR1 P G ops o ih) os

/-! ### In the order of the text, with all outcomes -/
def App0N (cj : Chunk) (g m size bytes : Nat) (z : Value) (slot : Nat) (K : Value → List (Nat × Chunk) → Prop) : Prop :=
  ∃ v, Reads cj g true (m * size) v ∧ 0 < m ∧ m ≤ 9223372036854775807 ∧ m * bytes ≤ 140737488355328 ∧ ∀ cap, m ≤ cap → K (.slice (some ⟨slot, 0, some 0⟩) m cap) [(slot, grown ⟨true, 0, []⟩ 0 m size v z cap)]
def AppN (ci : Chunk) (k s l c : Nat) (cj : Chunk) (g m size bytes : Nat) (z : Value) (slot : Nat) (K : Value → List (Nat × Chunk) → Prop) : Prop :=
  ∃ v, Reads cj g true (m * size) v ∧ flatB v (m * size) = true ∧ l * size ≤ ci.n ∧ l + m ≤ 9223372036854775807 ∧ (l + m) * bytes ≤ 140737488355328 ∧
    (l + m ≤ c → ∃ d, Writes ci (l * size) (m * size) v d ∧ K (.slice (some ⟨k, 0, some s⟩) (l + m) c) [(k, d)]) ∧ (c < l + m → ∀ cap, l + m ≤ cap → K (.slice (some ⟨slot, 0, some 0⟩) (l + m) cap) [(slot, grown ci l m size v z cap)])
def stepQ (P : Program) (G : Tys) (o : Oper) (st : St) (slot : Nat) (K : Value → List (Nat × Chunk) → Prop) : Prop :=
  match o.op with
  | .call ⟨.builtin .append, ⟨[x, y]⟩, ⟨[t, t']⟩⟩ => match Nat.beq t t' with
    | true => evalS x st fun p => evalS y st fun q => match q with
      | .slice (some ⟨j, g, some _⟩) m _ => lookT G t fun _ d => match d with
        | .slice e => lookT G e fun ei _ => match ei.zero with
          | some z => match plain2 z && flatB z ei.size && Nat.ble 1 ei.size with
            | true => getH st.h j fun cj => match p with
              | .slice none 0 0 => N (App0N cj g m ei.size ei.bytes z slot K)
              | .slice (some ⟨k, 0, some s⟩) l c => getH st.h k fun ci => N (AppN ci k s l c cj g m ei.size ei.bytes z slot K)
              | _ => False
            | false => False
          | none => False
        | _ => False
      | _ => False
    | false => False
  | .call ⟨.value f, xs, _⟩ => evalS f st fun fv => match fv with
    | .func (.func g) ⟨us⟩ ⟨cs⟩ => match us.all cap1 && cs.all cap1 with
      | true => evalL xs.toList st fun vs => listK (us ++ vs ++ cs) fun l => N (CallN true P g l st.h slot fun v ms _ => K v ms)
      | false => False
    | _ => False
  | _ => stepS P G o st slot fun v ms _ => K v ms
theorem eff_callAll {P : Program} {o : Oper} {st : St} {f : Operand} {xs : Array Operand} {ts : Array TypeId} {g : FuncId} {us vs cs : List Value} {R K : Value → List (Nat × Chunk) → Prop} (ho : o.op = .call ⟨.value f, xs, ts⟩) (hf : EvTo f st (.func (.func g) ⟨us⟩ ⟨cs⟩)) (hu : us.all cap1 = true) (hc : cs.all cap1 = true)
    (hx : All2 (fun x v => EvTo x st v) xs.toList vs) (h : CallAll P g (us ++ vs ++ cs) st.h R) (hK : ∀ v ms, R v ms → K v ms) : EffAll P o st K := fun X ρ a w Rl next Q hn => by
  obtain ⟨e1, d1, d2⟩ := (hf.den Rl).caps hu hc
  have d3 := all2_den Rl xs.toList vs hx (fun x hx u hu => hu)
  have hk := h X ρ w _ Rl.heap (all2_append (all2_append d1 d3) d2)
  have hrun : (execOp a.eval o).run P w = (callFunc g ⟨us.map (den0 ρ) ++ xs.toList.map a.eval ++ cs.map (den0 ρ)⟩).run P w := by
    simp only [execOp, ho, resolve, e1, Deferred.ofValue, Sem.run_bind, Sem.run_pure, Result.andThen_ok, invoke]
    congr 2
    apply Array.toList_inj.1
    simp
  unfold Oper.wp
  rw [hrun]
  rcases hk with ⟨x, w', hr, v, ms, ρ', hR, ha, hh, hd⟩ | ⟨hr, hcl⟩
  · rw [hr]; exact hn v ms ρ' x w' (hK v ms hR) ⟨ha, hh, hd⟩
  · rw [hr]
    refine hcl.mono fun e w' ⟨x, he, v, ms, ρ', hR, ha, hh, hd⟩ => ?_
    subst he
    exact hn v ms ρ' x w' (hK v ms hR) ⟨ha, hh, hd⟩
theorem EffAll.of {P : Program} {o : Oper} {st : St} {v : Value} {ms : List (Nat × Chunk)} {rh : List Nat} {K : Value → List (Nat × Chunk) → Prop} (h : OKs P o st v ms rh) (hK : K v ms) : EffAll P o st K := fun X ρ a w R next Q hn =>
  h st (fun _ _ _ h => h) (fun _ _ => rfl) (fun _ _ => rfl) X ρ a w R next Q fun ρ' x w' ha => hn v ms ρ' x w' hK ha
theorem stepQ_out {P : Program} {G : Tys} {o : Oper} {st : St} {slot : Nat} {K : Value → List (Nat × Chunk) → Prop} (hG : TysOK P G) (hs : st.h[slot]? = some none) (h : stepQ P G o st slot K) : EffAll P o st K := by
  unfold stepQ at h
  split at h
  · rename_i x y t t' ho
    cases hb : Nat.beq t t' with
    | false => rw [hb] at h; exact h.elim
    | true =>
      rw [hb] at h
      obtain rfl := Nat.eq_of_beq_eq_true hb
      obtain ⟨p, hp, h⟩ := evalS_out h
      obtain ⟨q, hq, h⟩ := evalS_out h
      split at h
      · obtain ⟨i, d, h1, h2, h⟩ := lookT_out hG h
        split at h
        · obtain ⟨ei, ed, h3, h4, h⟩ := lookT_out hG h
          split at h
          · rename_i z hz
            cases hc : plain2 z && flatB z ei.size && Nat.ble 1 ei.size with
            | false => rw [hc] at h; exact h.elim
            | true =>
              rw [hc] at h
              simp only [Bool.and_eq_true, Nat.ble_eq] at hc
              obtain ⟨cj, hj, h⟩ := getH_out h
              split at h
              · obtain ⟨v, hr, hm, h63, hby, hk⟩ := N.out h
                exact eff_append_nil ho hp hq h2 h3 hz hc.1.1 hc.1.2 hc.2 hj hr hm h63 hby hs hk
              · obtain ⟨ci, hi, h⟩ := getH_out h
                obtain ⟨v, hr, hf, hln, h63, hby, ha, hk⟩ := N.out h
                exact eff_append ho hp hq h2 h3 hz hc.1.1 hc.1.2 hc.2 hi hln hj hr hf h63 hby hs ha hk
              · exact h.elim
          · exact h.elim
        · exact h.elim
      · exact h.elim
  · rename_i f xs ts ho
    obtain ⟨v, hv, h⟩ := evalS_out h
    split at h
    · rename_i g us cs
      cases hb : us.all cap1 && cs.all cap1 with
      | true =>
        rw [hb] at h
        simp only [Bool.and_eq_true] at hb
        obtain ⟨vs, hx, h⟩ := evalL_out h
        have h := listK_out (K := fun l => N (CallN true P g l st.h slot fun v ms _ => K v ms)) h
        rcases h.out with ⟨u, ms, rh, h1, h⟩ | ⟨_, R, h1, h⟩
        · exact EffAll.of (ok_call ho hv hb.1 hb.2 hx h1) h
        · exact eff_callAll ho hv hb.1 hb.2 hx h1 h
      | false => rw [hb] at h; exact h.elim
    · exact h.elim
  · obtain ⟨v, ms, rh, hok, hk⟩ := stepS_out hG hs h
    exact EffAll.of hok hk
abbrev RunQ := Nat → St → (St → Prop) → Prop
def wpQ1 (P : Program) (G : Tys) (ops : List Oper) (o : Oper) (ih : RunQ) : RunQ := fun sl st K =>
  match st with
  | ⟨t0, h0⟩ => match nthL h0 sl with
    | some none => match o.guard with
      | none => stepQ P G o ⟨t0, h0⟩ sl fun v ms => afterK ⟨t0, h0⟩ o.dst v ms fun st' => litK (sl + slotsOf o.op) fun sl' => ih sl' st' K
      | some (j, want) => match nthL ops j with
        | some oj => match oj.dst with
          | some d => getK t0 d fun g => match g with
            | .bool b => N (Fork b
                (setK t0 d (.bool true) fun t => match want with
                  | true => stepQ P G o ⟨t, h0⟩ sl fun v ms => afterK ⟨t, h0⟩ o.dst v ms fun st' => litK (sl + slotsOf o.op) fun sl' => ih sl' st' K
                  | false => afterK ⟨t, h0⟩ o.dst undef [] fun st' => litK (sl + slotsOf o.op) fun sl' => ih sl' st' K)
                (setK t0 d (.bool false) fun t => match want with
                  | false => stepQ P G o ⟨t, h0⟩ sl fun v ms => afterK ⟨t, h0⟩ o.dst v ms fun st' => litK (sl + slotsOf o.op) fun sl' => ih sl' st' K
                  | true => afterK ⟨t, h0⟩ o.dst undef [] fun st' => litK (sl + slotsOf o.op) fun sl' => ih sl' st' K))
            | .tuple _ => afterK ⟨t0, h0⟩ o.dst undef [] fun st' => litK (sl + slotsOf o.op) fun sl' => ih sl' st' K
            | _ => False
          | none => False
        | none => False
    | _ => False
noncomputable def wpQ (P : Program) (G : Tys) (ops : List Oper) (os : List Oper) : RunQ :=
  List.rec (motive := fun _ => RunQ) (fun _ st K => K st) (fun o _ ih => wpQ1 P G ops o ih) os

/-! ### What a run in the text's order leaves on record -/
def OpRes (P : Program) (ops : List Oper) (o : Oper) (st : St) (r : Res) : Prop :=
  match o.guard with
  | none => OKs P o st r.v r.ms r.rh
  | some (j, want) => ∃ oj d g, ops[j]? = some oj ∧ oj.dst = some d ∧ st.t[d]? = some (some g) ∧ ((∃ b, g = .bool b ∧ (b = want → OKs P o st r.v r.ms r.rh) ∧ (b ≠ want → r = ⟨undef, [], []⟩)) ∨ ((∃ us, g = .tuple us) ∧ r = ⟨undef, [], []⟩))
def Trace (P : Program) (ops : List Oper) : List Oper → St → List Res → St → Prop
  | [], st, rs, st' => rs = [] ∧ st' = st
  | o :: os, st, rs, st' => ∃ r rs', rs = r :: rs' ∧ OpRes P ops o st r ∧ Trace P ops os (st.after o.dst r.v r.ms) rs' st'
def feet (rs : List Res) : List (List Nat × List Nat) := rs.map fun r => (r.rh, r.ms.map (·.1))

theorem set_same {l : List (Option Value)} {d : Nat} {v : Value} (h : l[d]? = some (some v)) : l.set d (some v) = l := by
  apply List.ext_getElem?
  intro i
  by_cases e : d = i
  · subst e; rw [List.getElem?_set_self (List.getElem?_eq_some_iff.1 h).1, h]
  · rw [List.getElem?_set_ne e]

theorem wpR_out {P : Program} {G : Tys} {ops : List Oper} (hG : TysOK P G) {K : St → List (List Nat × List Nat) → Prop} : ∀ {os : List Oper} {sl : Nat} {st : St} {acc : List (List Nat × List Nat)}, wpR P G ops os sl st acc K →
    ∃ rs st', Trace P ops os st rs st' ∧ K st' ((feet rs).reverse ++ acc)
  | [], sl, st, acc, h => ⟨[], st, ⟨rfl, rfl⟩, h⟩
  | o :: os, sl, ⟨t0, h0⟩, acc, h => by
    have h : wpR1 P G ops o (wpR P G ops os) sl ⟨t0, h0⟩ acc K := h
    unfold wpR1 at h
    simp only at h
    rw [nthL_eq] at h
    split at h
    · rename_i hs
      have run : ∀ {st0 : St}, st0 = ⟨t0, h0⟩ → (stepS P G o st0 sl fun v ms rh => afterK st0 o.dst v ms fun st' => litK (sl + slotsOf o.op) fun sl' => wpR P G ops os sl' st' ((rh, ms.map (·.1)) :: acc) K) →
          ∃ r rs st', OKs P o ⟨t0, h0⟩ r.v r.ms r.rh ∧ Trace P ops os (St.after ⟨t0, h0⟩ o.dst r.v r.ms) rs st' ∧ K st' ((feet (r :: rs)).reverse ++ acc) := fun {st0} e h1 => by
        subst e
        obtain ⟨v, ms, rh, hok, h2⟩ := stepS_out hG hs h1
        obtain ⟨rs, st', ht, hk⟩ := wpR_out hG (litK_out (K := fun sl' => wpR P G ops os sl' _ _ K) (afterK_out h2))
        exact ⟨⟨v, ms, rh⟩, rs, st', hok, ht, by simpa [feet] using hk⟩
      have skip : ∀ {st0 : St}, st0 = ⟨t0, h0⟩ → (afterK st0 o.dst undef [] fun st' => litK (sl + slotsOf o.op) fun sl' => wpR P G ops os sl' st' (([], []) :: acc) K) →
          ∃ rs st', Trace P ops os (St.after ⟨t0, h0⟩ o.dst undef []) rs st' ∧ K st' ((feet (⟨undef, [], []⟩ :: rs)).reverse ++ acc) := fun {st0} e h1 => by
        subst e
        obtain ⟨rs, st', ht, hk⟩ := wpR_out hG (litK_out (K := fun sl' => wpR P G ops os sl' _ _ K) (afterK_out h1))
        exact ⟨rs, st', ht, by simpa [feet] using hk⟩
      split at h
      · rename_i hg
        obtain ⟨r, rs, st', hok, ht, hk⟩ := run rfl h
        exact ⟨r :: rs, st', ⟨r, rs, rfl, by unfold OpRes; rw [hg]; exact hok, ht⟩, hk⟩
      · rename_i j want hg
        rw [nthL_eq] at h
        split at h
        · rename_i oj hj
          split at h
          · rename_i d hd
            obtain ⟨g, hgv, h⟩ := getK_out h
            split at h
            · rename_i b
              have h := h.out
              cases b with
              | true =>
                have h := setK_out (K := fun t => _) (h.1 rfl)
                rw [set_same hgv] at h
                cases want with
                | true =>
                  obtain ⟨r, rs, st', hok, ht, hk⟩ := run rfl h
                  exact ⟨r :: rs, st', ⟨r, rs, rfl, by unfold OpRes; rw [hg]; exact ⟨oj, d, _, hj, hd, hgv, .inl ⟨true, rfl, fun _ => hok, fun e => absurd rfl e⟩⟩, ht⟩, hk⟩
                | false =>
                  obtain ⟨rs, st', ht, hk⟩ := skip rfl h
                  exact ⟨_ :: rs, st', ⟨⟨undef, [], []⟩, rs, rfl, by unfold OpRes; rw [hg]; exact ⟨oj, d, _, hj, hd, hgv, .inl ⟨true, rfl, fun e => absurd e (by simp), fun _ => rfl⟩⟩, ht⟩, hk⟩
              | false =>
                have h := setK_out (K := fun t => _) (h.2 rfl)
                rw [set_same hgv] at h
                cases want with
                | false =>
                  obtain ⟨r, rs, st', hok, ht, hk⟩ := run rfl h
                  exact ⟨r :: rs, st', ⟨r, rs, rfl, by unfold OpRes; rw [hg]; exact ⟨oj, d, _, hj, hd, hgv, .inl ⟨false, rfl, fun _ => hok, fun e => absurd rfl e⟩⟩, ht⟩, hk⟩
                | true =>
                  obtain ⟨rs, st', ht, hk⟩ := skip rfl h
                  exact ⟨_ :: rs, st', ⟨⟨undef, [], []⟩, rs, rfl, by unfold OpRes; rw [hg]; exact ⟨oj, d, _, hj, hd, hgv, .inl ⟨false, rfl, fun e => absurd e (by simp), fun _ => rfl⟩⟩, ht⟩, hk⟩
            · obtain ⟨rs, st', ht, hk⟩ := skip rfl h
              exact ⟨_ :: rs, st', ⟨⟨undef, [], []⟩, rs, rfl, by unfold OpRes; rw [hg]; exact ⟨oj, d, _, hj, hd, hgv, .inr ⟨⟨_, rfl⟩, rfl⟩⟩, ht⟩, hk⟩
            · exact h.elim
          · exact h.elim
        · exact h.elim
    · exact h.elim

/-! ### One operation of the machine -/
theorem after_rel {X : Ctx} {ρ ρ' : Nat → Nat × Nat} {st : St} {a : Act} {w w' : World} {dst : Option Tmp} {v x : Value} {ms : List (Nat × Chunk)} (R : Rel X ρ st a w) (h : After X ρ st v ms ρ' x w') : Rel X ρ' (st.after dst v ms) (a.put dst x) w' := by
  obtain ⟨ha, hh, hd⟩ := h
  have more : ∀ (i : Nat) (u : Value), st.t[i]? = some (some u) → ∃ y, a.tmps[i]? = some y ∧ Den (Fil (modH st.h ms)) ρ' u y := fun i u hi => by
    obtain ⟨y, hy, hyd⟩ := R.slot i u hi
    exact ⟨y, hy, hyd.more ha (fun _ hF => hF.mod)⟩
  cases dst with
  | none => exact ⟨R.defers, R.size, more, hh⟩
  | some d =>
    refine ⟨R.defers, by simp [Act.put, St.after, R.size], fun i u hi => ?_, hh⟩
    simp only [St.after, List.getElem?_set] at hi
    simp only [Act.put, Array.getElem?_setIfInBounds]
    by_cases e : d = i
    · subst e
      rw [if_pos rfl] at hi
      by_cases hl : d < st.t.length
      · rw [if_pos hl] at hi
        simp only [Option.some.injEq] at hi
        subst hi
        exact ⟨x, by rw [if_pos rfl, if_pos (by rw [R.size]; exact hl)], hd⟩
      · rw [if_neg hl] at hi; cases hi
    · rw [if_neg e] at hi
      obtain ⟨y, hy, hyd⟩ := more i u hi
      exact ⟨y, by rw [if_neg e]; exact hy, hyd⟩

theorem OKs.here {P : Program} {o : Oper} {st : St} {v : Value} {ms : List (Nat × Chunk)} {rh : List Nat} (h : OKs P o st v ms rh) : EffOK P o st v ms := h st (fun _ _ _ h => h) (fun _ _ => rfl) (fun _ _ => rfl)

theorem op_run {P : Program} {ops : Array Oper} {Q : Exit → Act → World → Prop} {k : Nat} {o : Oper} {st : St} {r : Res} {X : Ctx} {ρ : Nat → Nat × Nat} {a : Act} {w : World} {next : Act → World → Prop} (hk : ops[k]? = some o) (h : OpRes P ops.toList o st r) (R : Rel X ρ st a w)
    (hn : ∀ ρ' a' w', Rel X ρ' (st.after o.dst r.v r.ms) a' w' → next a' w') : wpOp P ops Q k next a w := by
  have go : OKs P o st r.v r.ms r.rh → o.wp P a w next Q := fun hok => hok.here X ρ a w R next Q fun ρ' x w' ha => hn ρ' _ w' (after_rel R ha)
  have undef_den : ∀ F ρ, Den F ρ undef undef := fun F ρ r _ => by simp [undef, den]
  unfold wpOp
  rw [hk]
  simp only
  unfold OpRes at h
  cases hg : o.guard with
  | none =>
    rw [hg] at h
    have hw : Region.wanted o (yielded ops a.tmps) = true := by simp [Region.wanted, hg]
    rw [if_pos hw]
    exact .inl (go h)
  | some jw =>
    obtain ⟨j, want⟩ := jw
    rw [hg] at h
    obtain ⟨oj, d, g, hj, hd, hb, h12⟩ := h
    obtain ⟨y, hy, hyd⟩ := R.slot d _ hb
    have hj' : ops[j]? = some oj := by simpa using hj
    have skip : ¬ Region.wanted o (yielded ops a.tmps) = true → r = ⟨undef, [], []⟩ → (if Region.wanted o (yielded ops a.tmps) = true then o.wp P a w next Q ∨ (o.asks P a w ∧ LetsOut Q) else next (a.put o.dst undef) w) := fun hw hr => by
      rw [if_neg hw]
      rw [hr] at hn
      exact hn ρ _ w (after_rel R ⟨AgreeOn.refl _ _, R.heap, undef_den _ _⟩)
    rcases h12 with ⟨b, rfl, h1, h2⟩ | ⟨⟨us, rfl⟩, hr⟩
    · have hyb : y = .bool b := hyd.self.symm
      have hyl : yielded ops a.tmps j = some b := by simp [yielded, hj', hd, hy, hyb]
      by_cases e : b = want
      · have hw : Region.wanted o (yielded ops a.tmps) = true := by simp [Region.wanted, hg, hyl, e]
        rw [if_pos hw]
        exact .inl (go (h1 e))
      · exact skip (by simp [Region.wanted, hg, hyl, e]) (h2 e)
    · have hyb : y = .tuple (us.map (den2 ρ)) := hyd.self.symm
      have hyl : yielded ops a.tmps j = none := by simp [yielded, hj', hd, hy, hyb]
      exact skip (by simp [Region.wanted, hg, hyl]) hr

/-! ### The text's order, with all outcomes: that it is sound -/
theorem wpQ_run {P : Program} {G : Tys} {ops : Array Oper} {Q : Exit → Act → World → Prop} {X : Ctx} (hG : TysOK P G) {K : St → Prop} (hq : ∀ s ρ a w, K s → Rel X ρ s a w → Q .normal a w) : ∀ (os : List Oper) (sl k : Nat) (st : St), wpQ P G ops.toList os sl st K → (∀ i, i < os.length → ops[k + i]? = os[i]?) →
    ∀ ρ a w, Rel X ρ st a w → wpOps P ops Q (List.range' k os.length) a w
  | [], sl, k, st, h, _, ρ, a, w, R => hq st ρ a w h R
  | o :: os, sl, k, ⟨t0, h0⟩, h, hi, ρ, a, w, R => by
    have h : wpQ1 P G ops.toList o (wpQ P G ops.toList os) sl ⟨t0, h0⟩ K := h
    rw [List.length_cons, List.range'_succ, wpOps_cons]
    have hk : ops[k]? = some o := by simpa using hi 0 (by simp)
    have rest : ∀ (st' : St), (litK (sl + slotsOf o.op) fun sl' => wpQ P G ops.toList os sl' st' K) → ∀ ρ a w, Rel X ρ st' a w → wpOps P ops Q (List.range' (k + 1) os.length) a w := fun st' h' ρ a w R' => by
      refine wpQ_run hG hq os _ (k + 1) st' (litK_out (K := fun sl' => wpQ P G ops.toList os sl' st' K) h') (fun i hil => ?_) ρ a w R'
      have := hi (i + 1) (by simpa using hil)
      rw [show k + 1 + i = k + (i + 1) from by omega, this]
      simp
    unfold wpQ1 at h
    simp only at h
    rw [nthL_eq] at h
    split at h
    · rename_i hs
      have go : (stepQ P G o ⟨t0, h0⟩ sl fun v ms => afterK ⟨t0, h0⟩ o.dst v ms fun st' => litK (sl + slotsOf o.op) fun sl' => wpQ P G ops.toList os sl' st' K) → Region.wanted o (yielded ops a.tmps) = true →
          wpOp P ops Q k (fun a w => wpOps P ops Q (List.range' (k + 1) os.length) a w) a w := fun h1 hw => by
        unfold wpOp
        rw [hk]
        simp only
        rw [if_pos hw]
        refine .inl (stepQ_out hG hs h1 X ρ a w R _ Q fun v ms ρ' x w' hk' ha => ?_)
        exact rest _ (afterK_out hk') ρ' _ w' (after_rel R ha)
      have undef_den : ∀ F ρ, Den F ρ undef undef := fun F ρ r _ => by simp [undef, den]
      have skip : (afterK ⟨t0, h0⟩ o.dst undef [] fun st' => litK (sl + slotsOf o.op) fun sl' => wpQ P G ops.toList os sl' st' K) → ¬ Region.wanted o (yielded ops a.tmps) = true →
          wpOp P ops Q k (fun a w => wpOps P ops Q (List.range' (k + 1) os.length) a w) a w := fun h1 hw => by
        unfold wpOp
        rw [hk]
        simp only
        rw [if_neg hw]
        exact rest _ (afterK_out h1) ρ _ w (after_rel R ⟨AgreeOn.refl _ _, R.heap, undef_den _ _⟩)
      split at h
      · rename_i hg
        exact go h (by simp [Region.wanted, hg])
      · rename_i j want hg
        rw [nthL_eq] at h
        split at h
        · rename_i oj hj
          split at h
          · rename_i d hd
            obtain ⟨g, hgv, h⟩ := getK_out h
            obtain ⟨y, hy, hyd⟩ := R.slot d _ hgv
            have hj' : ops[j]? = some oj := by simpa using hj
            split at h
            · rename_i b
              have hyb : y = .bool b := hyd.self.symm
              have hyl : yielded ops a.tmps j = some b := by simp [yielded, hj', hd, hy, hyb]
              have h := h.out
              cases b with
              | true =>
                have h := setK_out (K := fun t => _) (h.1 rfl)
                rw [set_same hgv] at h
                cases want with
                | true => exact go h (by simp [Region.wanted, hg, hyl])
                | false => exact skip h (by simp [Region.wanted, hg, hyl])
              | false =>
                have h := setK_out (K := fun t => _) (h.2 rfl)
                rw [set_same hgv] at h
                cases want with
                | false => exact go h (by simp [Region.wanted, hg, hyl])
                | true => exact skip h (by simp [Region.wanted, hg, hyl])
            · rename_i us
              have hyb : y = .tuple (us.map (den2 ρ)) := hyd.self.symm
              have hyl : yielded ops a.tmps j = none := by simp [yielded, hj', hd, hy, hyb]
              exact skip h (by simp [Region.wanted, hg, hyl])
            · exact h.elim
          · exact h.elim
        · exact h.elim
    · exact h.elim

/-! ### In the order of the text -/
theorem seq_run {P : Program} {ops : Array Oper} {Q : Exit → Act → World → Prop} {X : Ctx} {st' : St} (hq : ∀ ρ a w, Rel X ρ st' a w → Q .normal a w) : ∀ (os : List Oper) (k : Nat) (st : St) (rs : List Res), Trace P ops.toList os st rs st' → (∀ i, i < os.length → ops[k + i]? = os[i]?) →
    ∀ ρ a w, Rel X ρ st a w → wpOps P ops Q (List.range' k os.length) a w
  | [], k, st, rs, h, _, ρ, a, w, R => by
    obtain ⟨_, rfl⟩ := h
    exact hq ρ a w R
  | o :: os, k, st, rs, h, hi, ρ, a, w, R => by
    obtain ⟨r, rs', rfl, h1, h2⟩ := h
    rw [List.length_cons, List.range'_succ, wpOps_cons]
    refine op_run (by simpa using hi 0 (by simp)) h1 R fun ρ' a' w' R' => ?_
    refine seq_run hq os (k + 1) _ rs' h2 (fun i hil => ?_) ρ' a' w' R'
    have := hi (i + 1) (by simpa using hil)
    rw [show k + 1 + i = k + (i + 1) from by omega, this]
    simp

/-! ### In whatever order Go leaves open -/
structure Eff where
  dst : Option Tmp
  v : Value
  ms : List (Nat × Chunk)
def cur (D : Nat → Bool) : Nat → List Eff → St → St
  | _, [], st => st
  | k, e :: es, st => cur D (k + 1) es (match D k with
    | true => st.after e.dst e.v e.ms
    | false => st)
def effs : List Oper → List Res → List Eff
  | o :: os, r :: rs => ⟨o.dst, r.v, r.ms⟩ :: effs os rs
  | _, _ => []

/-- A part of a state that an effect turns or leaves, by itself. -/
structure Part {α : Type} (f : St → α) (W : Eff → Prop) : Prop where
  keep : ∀ (st : St) (e : Eff), ¬ W e → f (st.after e.dst e.v e.ms) = f st
  same : ∀ (st st' : St) (e : Eff), f st = f st' → f (st.after e.dst e.v e.ms) = f (st'.after e.dst e.v e.ms)
theorem part_t (i : Nat) : Part (fun st : St => st.t[i]?) (fun e => e.dst = some i) := by
  refine ⟨fun st e h => ?_, fun st st' e h => ?_⟩
  · obtain ⟨d, v, ms⟩ := e
    cases d with
    | none => rfl
    | some d =>
      have : d ≠ i := fun e => h (by rw [e])
      show (st.t.set d (some v))[i]? = _
      rw [List.getElem?_set_ne this]
  · obtain ⟨d, v, ms⟩ := e
    cases d with
    | none => exact h
    | some d =>
      show (st.t.set d (some v))[i]? = (st'.t.set d (some v))[i]?
      have h : st.t[i]? = st'.t[i]? := h
      by_cases e : d = i
      · subst e
        rw [List.getElem?_set, List.getElem?_set, if_pos rfl, if_pos rfl]
        by_cases hl : d < st.t.length
        · have : d < st'.t.length := by
            rw [List.getElem?_eq_getElem hl] at h
            exact (List.getElem?_eq_some_iff.1 h.symm).1
          rw [if_pos hl, if_pos this]
        · have : ¬ d < st'.t.length := fun hl' => by
            rw [List.getElem?_eq_getElem hl'] at h
            exact hl (List.getElem?_eq_some_iff.1 h).1
          rw [if_neg hl, if_neg this]
      · rw [List.getElem?_set_ne e, List.getElem?_set_ne e, h]
theorem modH_keep {i : Nat} : ∀ {ms : List (Nat × Chunk)} {h : List (Option Chunk)}, i ∉ ms.map (·.1) → (modH h ms)[i]? = h[i]?
  | [], _, _ => rfl
  | (j, c) :: ms, h, hn => by
    simp only [List.map_cons, List.mem_cons, not_or] at hn
    simp only [modH]
    rw [modH_keep hn.2, List.getElem?_set_ne (fun e => hn.1 e.symm)]
theorem modH_same {i : Nat} : ∀ {ms : List (Nat × Chunk)} {h h' : List (Option Chunk)}, h[i]? = h'[i]? → (modH h ms)[i]? = (modH h' ms)[i]?
  | [], _, _, e => e
  | (j, c) :: ms, h, h', e => by
    simp only [modH]
    refine modH_same ?_
    by_cases ej : j = i
    · subst ej
      rw [List.getElem?_set, List.getElem?_set, if_pos rfl, if_pos rfl]
      by_cases hl : j < h.length
      · have : j < h'.length := by
          rw [List.getElem?_eq_getElem hl] at e
          exact (List.getElem?_eq_some_iff.1 e.symm).1
        rw [if_pos hl, if_pos this]
      · have : ¬ j < h'.length := fun hl' => by
          rw [List.getElem?_eq_getElem hl'] at e
          exact hl (List.getElem?_eq_some_iff.1 e).1
        rw [if_neg hl, if_neg this]
    · rw [List.getElem?_set_ne ej, List.getElem?_set_ne ej, e]
theorem part_h (i : Nat) : Part (fun st : St => st.h[i]?) (fun e => i ∈ e.ms.map (·.1)) :=
  ⟨fun st e h => modH_keep h, fun st st' e h => modH_same h⟩

theorem cur_congr {α : Type} {f : St → α} {W : Eff → Prop} (hp : Part f W) {D D' : Nat → Bool} : ∀ (es : List Eff) (k : Nat) (st st' : St), (∀ i e, es[i]? = some e → W e → D (k + i) = D' (k + i)) → f st = f st' → f (cur D k es st) = f (cur D' k es st')
  | [], _, _, _, _, h => h
  | e :: es, k, st, st', hd, h => by
    simp only [cur]
    refine cur_congr hp es (k + 1) _ _ (fun i e' he hw => ?_) ?_
    · have := hd (i + 1) e' (by simpa using he) hw
      rwa [show k + (i + 1) = k + 1 + i from by omega] at this
    · by_cases hw : W e
      · have h0 := hd 0 e rfl hw
        rw [Nat.add_zero] at h0
        rw [h0]
        cases D' k with
        | true => exact hp.same _ _ e h
        | false => exact h
      · have h1 : ∀ b : Bool, ∀ s : St, f (match b with | true => s.after e.dst e.v e.ms | false => s) = f s := fun b s => by
          cases b with
          | true => exact hp.keep _ e hw
          | false => rfl
        rw [h1, h1, h]

theorem cur_none {D : Nat → Bool} : ∀ (es : List Eff) (k : Nat) (st : St), (∀ i, i < es.length → D (k + i) = false) → cur D k es st = st
  | [], _, _, _ => rfl
  | e :: es, k, st, h => by
    simp only [cur]
    have := h 0 (by simp)
    rw [Nat.add_zero] at this
    rw [this]
    exact cur_none es (k + 1) st fun i hi => by
      have := h (i + 1) (by simpa using hi)
      rwa [show k + (i + 1) = k + 1 + i from by omega] at this

/-- One more effect, behind those that are there: where no later one that is there touches what it turns. -/
theorem cur_add {α : Type} {f : St → α} {W : Eff → Prop} (hp : Part f W) {D : Nat → Bool} {k0 : Nat} {e0 : Eff} : ∀ (es : List Eff) (k : Nat) (st : St), k ≤ k0 → es[k0 - k]? = some e0 → D k0 = false → (W e0 → ∀ i e, es[i]? = some e → k0 < k + i → W e → D (k + i) = false) →
    f (cur (fun j => decide (j = k0) || D j) k es st) = f ((cur D k es st).after e0.dst e0.v e0.ms)
  | [], k, st, hk, he, hd, hw => by simp at he
  | e :: es, k, st, hk, he, hd, hw => by
    simp only [cur]
    by_cases hkk : k = k0
    · subst hkk
      rw [Nat.sub_self] at he
      simp only [List.getElem?_cons_zero, Option.some.injEq] at he
      subst he
      simp only [decide_true, Bool.true_or, hd]
      have h1 : f (cur (fun j => decide (j = k) || D j) (k + 1) es (st.after e.dst e.v e.ms)) = f (cur D (k + 1) es (st.after e.dst e.v e.ms)) :=
        cur_congr hp es (k + 1) _ _ (fun i e' he' hw' => by
          have : decide (k + 1 + i = k) = false := by simp; omega
          simp only [this, Bool.false_or]) rfl
      rw [h1]
      by_cases hwe : W e
      · have hno : ∀ i e', es[i]? = some e' → W e' → D (k + 1 + i) = false := fun i e' he' hw' => by
          have := hw hwe (i + 1) e' (by simpa using he') (by omega) hw'
          rwa [show k + (i + 1) = k + 1 + i from by omega] at this
        have h2 : f (cur D (k + 1) es (st.after e.dst e.v e.ms)) = f (st.after e.dst e.v e.ms) :=
          (cur_congr hp (D' := fun _ => false) es (k + 1) _ _ (fun i e' he' hw' => hno i e' he' hw') rfl).trans (by rw [cur_none es (k + 1) _ (fun _ _ => rfl)])
        have h3 : f (cur D (k + 1) es st) = f st :=
          (cur_congr hp (D' := fun _ => false) es (k + 1) _ _ (fun i e' he' hw' => hno i e' he' hw') rfl).trans (by rw [cur_none es (k + 1) _ (fun _ _ => rfl)])
        rw [h2]
        exact hp.same _ _ e h3.symm
      · rw [hp.keep _ e hwe]
        exact cur_congr hp es (k + 1) _ _ (fun _ _ _ _ => rfl) (hp.keep _ e hwe)
    · have : decide (k = k0) = false := by simpa using hkk
      simp only [this, Bool.false_or]
      exact cur_add hp es (k + 1) _ (by omega) (by
        rw [show k0 - k = (k0 - (k + 1)) + 1 from by omega] at he
        simpa using he) hd (fun hwe i e' he' hlt hw' => by
          have := hw hwe (i + 1) e' (by simpa using he') (by omega) hw'
          rwa [show k + (i + 1) = k + 1 + i from by omega] at this)
theorem St.ext' {a b : St} (h1 : ∀ i : Nat, a.t[i]? = b.t[i]?) (h2 : ∀ i : Nat, a.h[i]? = b.h[i]?) : a = b := by
  obtain ⟨t, h⟩ := a
  obtain ⟨t', h'⟩ := b
  have e1 : t = t' := List.ext_getElem? h1
  have e2 : h = h' := List.ext_getElem? h2
  rw [e1, e2]

theorem trace_len {P : Program} {ops : List Oper} : ∀ {os : List Oper} {st st' : St} {rs : List Res}, Trace P ops os st rs st' → rs.length = os.length
  | [], _, _, _, h => by rw [h.1]; rfl
  | o :: os, _, _, _, h => by obtain ⟨r, rs', rfl, _, h⟩ := h; simp [trace_len h]
theorem effs_get : ∀ {os : List Oper} {rs : List Res} {k : Nat} {o : Oper} {r : Res}, os[k]? = some o → rs[k]? = some r → (effs os rs)[k]? = some ⟨o.dst, r.v, r.ms⟩
  | o' :: os, r' :: rs, 0, o, r, h1, h2 => by simp at h1 h2; subst h1 h2; rfl
  | o' :: os, r' :: rs, k + 1, o, r, h1, h2 => by simpa [effs] using effs_get (os := os) (rs := rs) (k := k) (by simpa using h1) (by simpa using h2)
  | [], _, _, _, _, h1, _ => by simp at h1
  | _ :: _, [], _, _, _, _, h2 => by simp at h2
theorem effs_len : ∀ {os : List Oper} {rs : List Res}, rs.length = os.length → (effs os rs).length = os.length
  | [], [], _ => rfl
  | o :: os, r :: rs, h => by simp [effs, effs_len (os := os) (rs := rs) (by simpa using h)]
  | [], _ :: _, h => by simp at h
  | _ :: _, [], h => by simp at h
theorem trace_at {P : Program} {ops : List Oper} : ∀ {os : List Oper} {st st' : St} {rs : List Res} {k0 : Nat}, Trace P ops os st rs st' → ∀ k o, os[k]? = some o → ∃ r, rs[k]? = some r ∧ OpRes P ops o (cur (fun j => decide (j < k0 + k)) k0 (effs os rs) st) r
  | [], _, _, _, _, _, k, o, h => by simp at h
  | o' :: os, st, st', rs, k0, h, k, o, ho => by
    obtain ⟨r, rs', rfl, h1, h2⟩ := h
    cases k with
    | zero =>
      simp only [List.getElem?_cons_zero, Option.some.injEq] at ho
      subst ho
      refine ⟨r, rfl, ?_⟩
      rw [cur_none _ k0 st (fun i _ => by simp)]
      exact h1
    | succ k =>
      obtain ⟨r', hr, hres⟩ := trace_at (k0 := k0 + 1) h2 k o (by simpa using ho)
      refine ⟨r', by simpa using hr, ?_⟩
      have e : decide (k0 < k0 + (k + 1)) = true := by simp
      simp only [effs, cur, e]
      rw [show k0 + (k + 1) = k0 + 1 + k from by omega]
      exact hres
theorem trace_end {P : Program} {ops : List Oper} : ∀ {os : List Oper} {st st' : St} {rs : List Res} {k0 : Nat}, Trace P ops os st rs st' → cur (fun _ => true) k0 (effs os rs) st = st'
  | [], _, _, _, _, h => by obtain ⟨rfl, rfl⟩ := h; rfl
  | o' :: os, st, st', rs, k0, h => by
    obtain ⟨r, rs', rfl, h1, h2⟩ := h
    simp only [effs, cur]
    exact trace_end h2

/-! ### Who may come ahead of whom -/
def tmpsOf (x : Operand) : List Nat :=
  match x with
  | .tmp t => [t]
  | _ => []
def readsT (ops : List Oper) (o : Oper) : List Nat :=
  o.op.operands.toList.flatMap tmpsOf ++ (match o.guard with
    | some (j, _) => match nthL ops j with
      | some oj => oj.dst.toList
      | none => []
    | none => [])
def disj (a b : List Nat) : Bool := a.all fun x => b.all fun y => !(Nat.beq x y)
structure Foot where
  rt : List Nat
  wt : List Nat
  rh : List Nat
  wh : List Nat
  m : Nat
def indep (f g : Foot) : Bool := disj f.wt g.rt && disj f.wt g.wt && disj g.wt f.rt && disj f.wh g.rh && disj f.wh g.wh && disj g.wh f.rh
def maskOf (o : Oper) (acc : List Nat) : Nat := o.after.toList.foldl (fun s e => match Region.binds .any e with
  | true => s ||| 2 ^ e.on ||| (match nthL acc e.on with
    | some m => m
    | none => 0)
  | false => s) 0
def footOf (ops : List Oper) (o : Oper) (f : List Nat × List Nat) (acc : List Nat) : Foot := ⟨readsT ops o, o.dst.toList, f.1, f.2, maskOf o acc⟩
def chkGo (ops : List Oper) : List Oper → List (List Nat × List Nat) → Nat → List Nat → List (Nat × Foot) → Bool
  | o :: os, f :: fs, j, acc, prev =>
    let g := footOf ops o f acc
    prev.all (fun p => Nat.testBit g.m p.1 || indep p.2 g) && chkGo ops os fs (j + 1) (acc ++ [g.m]) (prev ++ [(j, g)])
  | [], [], _, _, _ => true
  | _, _, _, _, _ => false
def checkF (ops : List Oper) (fs : List (List Nat × List Nat)) : Bool := chkGo ops ops fs 0 [] []
def masks : List Oper → List Nat → List Nat
  | [], acc => acc
  | o :: os, acc => masks os (acc ++ [maskOf o acc])

theorem masks_prefix : ∀ (os : List Oper) (acc : List Nat) (i : Nat), i < acc.length → (masks os acc)[i]? = acc[i]?
  | [], _, _, _ => rfl
  | o :: os, acc, i, h => by rw [masks, masks_prefix os _ i (by simp; omega), List.getElem?_append_left h]
theorem chk_get {ops : List Oper} : ∀ {os : List Oper} {fs : List (List Nat × List Nat)} {j : Nat} {acc : List Nat} {prev : List (Nat × Foot)}, chkGo ops os fs j acc prev = true → acc.length = j →
    ∀ k o f, os[k]? = some o → fs[k]? = some f → ∃ m, (masks os acc)[j + k]? = some m ∧ m = maskOf o ((masks os acc).take (j + k)) ∧
      (∀ p ∈ prev, Nat.testBit m p.1 = true ∨ indep p.2 ⟨readsT ops o, o.dst.toList, f.1, f.2, m⟩ = true) ∧
      ∀ i o' f', i < k → os[i]? = some o' → fs[i]? = some f' → ∃ m', Nat.testBit m (j + i) = true ∨ indep ⟨readsT ops o', o'.dst.toList, f'.1, f'.2, m'⟩ ⟨readsT ops o, o.dst.toList, f.1, f.2, m⟩ = true
  | [], fs, j, acc, prev, h, hl, k, o, f, ho, hf => by simp at ho
  | o0 :: os, [], j, acc, prev, h, hl, k, o, f, ho, hf => by simp at hf
  | o0 :: os, f0 :: fs, j, acc, prev, h, hl, k, o, f, ho, hf => by
    simp only [chkGo, Bool.and_eq_true] at h
    obtain ⟨h1, h2⟩ := h
    have hm0 : (masks (o0 :: os) acc)[j]? = some (maskOf o0 acc) := by
      rw [masks, masks_prefix os _ j (by simp; omega), List.getElem?_append_right (by omega), hl, Nat.sub_self]
      rfl
    have htake : (masks (o0 :: os) acc).take j = acc := by
      apply List.ext_getElem?
      intro i
      rw [List.getElem?_take]
      by_cases hi : i < j
      · rw [if_pos hi, masks, masks_prefix os _ i (by simp; omega), List.getElem?_append_left (by omega)]
      · rw [if_neg hi, List.getElem?_eq_none (by omega)]
    cases k with
    | zero =>
      simp only [List.getElem?_cons_zero, Option.some.injEq] at ho hf
      subst ho hf
      refine ⟨maskOf o0 acc, by simpa using hm0, by rw [Nat.add_zero, htake], fun p hp => ?_, fun i _ _ hi => absurd hi (by omega)⟩
      have := List.all_eq_true.1 h1 p hp
      simpa [footOf] using this
    | succ k =>
      obtain ⟨m, g1, g2, g3, g4⟩ := chk_get h2 (by simp [hl]) k o f (by simpa using ho) (by simpa using hf)
      have e : j + 1 + k = j + (k + 1) := by omega
      have em : masks os (acc ++ [(footOf ops o0 f0 acc).m]) = masks (o0 :: os) acc := rfl
      rw [em, e] at g1 g2
      refine ⟨m, g1, g2, fun p hp => g3 p (by simp [hp]), fun i o' f' hi ho' hf' => ?_⟩
      cases i with
      | zero =>
        simp only [List.getElem?_cons_zero, Option.some.injEq] at ho' hf'
        subst ho' hf'
        have := g3 (j, footOf ops o0 f0 acc) (by simp)
        exact ⟨maskOf o0 acc, by simpa [footOf] using this⟩
      | succ i =>
        obtain ⟨m', h'⟩ := g4 i o' f' (by omega) (by simpa using ho') (by simpa using hf')
        rw [show j + 1 + i = j + (i + 1) from by omega] at h'
        exact ⟨m', h'⟩

theorem foldl_bit (acc : List Nat) (i : Nat) : ∀ (es : List Edge) (s : Nat), (es.foldl (fun s e => match Region.binds .any e with
    | true => s ||| 2 ^ e.on ||| (match nthL acc e.on with
      | some m => m
      | none => 0)
    | false => s) s).testBit i = true → s.testBit i = true ∨ ∃ e ∈ es, Region.binds .any e = true ∧ (e.on = i ∨ ∃ m, acc[e.on]? = some m ∧ m.testBit i = true)
  | [], s, h => .inl h
  | e :: es, s, h => by
    rw [List.foldl_cons] at h
    rcases foldl_bit acc i es _ h with h | ⟨e', he, hb, h⟩
    · cases hb : Region.binds .any e with
      | false => rw [hb] at h; exact .inl h
      | true =>
        rw [hb] at h
        simp only [Nat.testBit_or, Bool.or_eq_true] at h
        rcases h with (h | h) | h
        · exact .inl h
        · refine .inr ⟨e, by simp, hb, .inl ?_⟩
          rw [Nat.testBit_two_pow] at h
          simpa using h
        · refine .inr ⟨e, by simp, hb, .inr ?_⟩
          rw [nthL_eq] at h
          cases hm : acc[e.on]? with
          | none => rw [hm] at h; simp at h
          | some m => rw [hm] at h; exact ⟨m, rfl, h⟩
    · exact .inr ⟨e', by simp [he], hb, h⟩
theorem mask_bit {o : Oper} {acc : List Nat} {i : Nat} (h : (maskOf o acc).testBit i = true) : ∃ e ∈ o.after.toList, Region.binds .any e = true ∧ (e.on = i ∨ ∃ m, acc[e.on]? = some m ∧ m.testBit i = true) := by
  rcases foldl_bit acc i o.after.toList 0 h with h | h
  · simp at h
  · exact h

theorem disj_spec {a b : List Nat} (h : disj a b = true) {x : Nat} (ha : x ∈ a) : x ∉ b := fun hb => by
  have := List.all_eq_true.1 (List.all_eq_true.1 h x ha) x hb
  simp at this

theorem ev_congr {x : Operand} {st st₂ : St} {u : Value} (h : ∀ t ∈ tmpsOf x, st₂.t[t]? = st.t[t]?) (hx : EvTo x st u) : EvTo x st₂ u := by
  cases x with
  | tmp t => exact (h t (by simp [tmpsOf])).trans hx
  | _ => exact hx
theorem OKs.move {P : Program} {o : Oper} {st st₂ : St} {v : Value} {ms : List (Nat × Chunk)} {rh : List Nat} (h : OKs P o st v ms rh) (ht : ∀ x ∈ o.op.operands.toList, ∀ t ∈ tmpsOf x, st₂.t[t]? = st.t[t]?) (hr : ∀ i ∈ rh, st₂.h[i]? = st.h[i]?) (hm : ∀ i ∈ ms.map (·.1), st₂.h[i]? = st.h[i]?) : OKs P o st₂ v ms rh :=
  fun st₃ h1 h2 h3 => h st₃ (fun x hx u hu => h1 x hx u (ev_congr (ht x hx) hu)) (fun i hi => (h2 i hi).trans (hr i hi)) (fun m hm' => (h3 m hm').trans (hm m.1 (List.mem_map.2 ⟨m, hm', rfl⟩)))
theorem OpRes.move {P : Program} {ops : List Oper} {o : Oper} {st st₂ : St} {r : Res} (h : OpRes P ops o st r) (ht : ∀ t ∈ readsT ops o, st₂.t[t]? = st.t[t]?) (hr : ∀ i ∈ r.rh, st₂.h[i]? = st.h[i]?) (hm : ∀ i ∈ r.ms.map (·.1), st₂.h[i]? = st.h[i]?) : OpRes P ops o st₂ r := by
  have hops : ∀ x ∈ o.op.operands.toList, ∀ t ∈ tmpsOf x, st₂.t[t]? = st.t[t]? := fun x hx t htx => ht t (by
    unfold readsT
    exact List.mem_append_left _ (List.mem_flatMap.2 ⟨x, hx, htx⟩))
  unfold OpRes at *
  cases hg : o.guard with
  | none => rw [hg] at h; exact h.move hops hr hm
  | some jw =>
    obtain ⟨j, want⟩ := jw
    rw [hg] at h
    obtain ⟨oj, d, g, hj, hd, hb, h12⟩ := h
    refine ⟨oj, d, g, hj, hd, ?_, h12.imp (fun ⟨b, e, h1, h2⟩ => ⟨b, e, fun e => (h1 e).move hops hr hm, h2⟩) id⟩
    rw [ht d ?_, hb]
    unfold readsT
    apply List.mem_append_right
    rw [hg]
    simp only
    rw [nthL_eq, hj]
    simp [hd]

def edgesOK : List Oper → Nat → Bool
  | [], _ => true
  | o :: os, j => o.after.toList.all (fun e => !(Region.binds .any e) || Nat.ble (e.on + 1) j) && edgesOK os (j + 1)
theorem edges_get : ∀ {os : List Oper} {j : Nat}, edgesOK os j = true → ∀ k o, os[k]? = some o → ∀ e ∈ o.after.toList, Region.binds .any e = true → e.on < j + k
  | [], _, _, k, o, h, _, _, _ => by simp at h
  | o' :: os, j, h, k, o, ho, e, he, hb => by
    simp only [edgesOK, Bool.and_eq_true] at h
    cases k with
    | zero =>
      simp only [List.getElem?_cons_zero, Option.some.injEq] at ho
      subst ho
      have := List.all_eq_true.1 h.1 e he
      rw [hb] at this
      have := Nat.le_of_ble_eq_true (by simpa using this)
      omega
    | succ k =>
      have := edges_get h.2 k o (by simpa using ho) e he hb
      omega

section
variable {P : Program} {ops : Array Oper} {Q : Exit → Act → World → Prop} {X : Ctx} {st st' : St} {rs : List Res}

theorem mask_closed {D : Nat → Bool} (hcl : ∀ (j : Nat) (o : Oper), ops.toList[j]? = some o → D j = true → ∀ e ∈ o.after.toList, Region.binds .any e = true → D e.on = true) (fs : List (List Nat × List Nat)) (hlen : fs.length = ops.toList.length) (hc : checkF ops.toList fs = true) (he : edgesOK ops.toList 0 = true) :
    ∀ (j : Nat) (o : Oper) (m i : Nat), ops.toList[j]? = some o → (masks ops.toList [])[j]? = some m → m.testBit i = true → (∀ e ∈ o.after.toList, Region.binds .any e = true → D e.on = true) → D i = true := by
  intro j
  induction j using Nat.strongRecOn with
  | _ j ih =>
    intro o m i ho hm hb hedges
    have hjl : j < fs.length := by rw [hlen]; exact (List.getElem?_eq_some_iff.1 ho).1
    obtain ⟨m', g1, g2, _, _⟩ := chk_get hc rfl j o fs[j] ho (List.getElem?_eq_getElem hjl)
    rw [Nat.zero_add] at g1 g2
    rw [hm] at g1
    simp only [Option.some.injEq] at g1
    subst g1
    rw [g2] at hb
    obtain ⟨e, hee, hbe, h⟩ := mask_bit hb
    have hD := hedges e hee hbe
    rcases h with h | ⟨m2, hm2, hb2⟩
    · rwa [← h]
    · have hlt := edges_get he j o ho e hee hbe
      rw [Nat.zero_add] at hlt
      rw [List.getElem?_take, if_pos hlt] at hm2
      have hol : e.on < ops.toList.length := Nat.lt_trans hlt (List.getElem?_eq_some_iff.1 ho).1
      exact ih e.on hlt ops.toList[e.on] m2 i (List.getElem?_eq_getElem hol) hm2 hb2 (hcl e.on _ (List.getElem?_eq_getElem hol) hD)

theorem any_run (ht : Trace P ops.toList ops.toList st rs st') (hc : checkF ops.toList (feet rs) = true) (he : edgesOK ops.toList 0 = true) (hq : ∀ ρ a w, Rel X ρ st' a w → Q .normal a w) :
    ∀ (fuel : Nat) (S : List Nat) (listed : Array Bool), S.length = fuel → S.Nodup → listed.size = ops.size → (∀ i, i < ops.size → (listed.getD i false = true ↔ i ∉ S)) → (∀ i ∈ S, i < ops.size) →
      (∀ (j : Nat) (o : Oper), ops.toList[j]? = some o → listed.getD j false = true → ∀ e ∈ o.after.toList, Region.binds .any e = true → listed.getD e.on false = true) →
      ∀ ρ a w, Rel X ρ (cur (fun j => listed.getD j false) 0 (effs ops.toList rs) st) a w → wpAny P .any ops Q fuel listed a w := by
  have hlen := trace_len ht
  have hfl : (feet rs).length = ops.toList.length := by simp [feet, hlen]
  have hel := effs_len hlen
  -- all listed: at the end
  have fin : ∀ (listed : Array Bool), (∀ i, i < ops.size → listed.getD i false = true) → ∀ ρ a w, Rel X ρ (cur (fun j => listed.getD j false) 0 (effs ops.toList rs) st) a w → Q .normal a w := by
    intro listed hall ρ a w R
    refine hq ρ a w ?_
    have hD : ∀ {α : Type} {f : St → α} {W : Eff → Prop}, Part f W → f (cur (fun j => listed.getD j false) 0 (effs ops.toList rs) st) = f st' := fun hp => by
      rw [cur_congr hp (D' := fun _ => true) (effs ops.toList rs) 0 st st (fun i e hi _ => by
        rw [Nat.zero_add]
        exact hall i (by have := (List.getElem?_eq_some_iff.1 hi).1; rw [hel] at this; simpa using this)) rfl, trace_end ht]
    rw [← St.ext' (fun i => hD (part_t i)) (fun i => hD (part_h i))]
    exact R
  -- none ready: all listed
  have noready : ∀ (listed : Array Bool), listed.size = ops.size → Region.ready .any ops listed = [] → ∀ i, i < ops.size → listed.getD i false = true := by
    intro listed hsz hr i
    induction i using Nat.strongRecOn with
    | _ i ih =>
      intro hi
      cases hl : listed.getD i false with
      | true => rfl
      | false =>
        exfalso
        have hi' : i < ops.toList.length := by simpa using hi
        have hmem : i ∈ Region.ready .any ops listed := mem_ready.2 ⟨by
          have hil : i < listed.size := by omega
          simp [Array.getD_eq_getD_getElem?, Array.getElem?_eq_getElem hil] at hl ⊢
          exact hl, ops[i], Array.getElem?_eq_getElem hi, fun e hee hb => by
            have hlt := edges_get he i ops[i] (by simp [hi]) e (by simpa using hee) hb
            exact ih e.on (by omega) (by omega)⟩
        rw [hr] at hmem
        cases hmem
  intro fuel
  induction fuel with
  | zero =>
    intro S listed hS hnd hsz hdS hlt hcl ρ a w R
    have hS0 : S = [] := List.length_eq_zero_iff.1 hS
    subst hS0
    have hall : ∀ i, i < ops.size → listed.getD i false = true := fun i hi => (hdS i hi).2 (by simp)
    refine ⟨?_, fin listed hall ρ a w R⟩
    apply List.eq_nil_iff_forall_not_mem.2
    intro j hj
    obtain ⟨h0, o, ho, _⟩ := mem_ready.1 hj
    have hjl : j < ops.size := (Array.getElem?_eq_some_iff.1 ho).1
    have := hall j hjl
    have hjs : j < listed.size := by omega
    simp [Array.getD_eq_getD_getElem?, Array.getElem?_eq_getElem hjs] at h0 this
    rw [h0] at this; cases this
  | succ fuel ih =>
    intro S listed hS hnd hsz hdS hlt hcl ρ a w R
    refine ⟨fun hr => fin listed (noready listed hsz hr) ρ a w R, fun i hi => ?_⟩
    obtain ⟨h0, o, ho, hready⟩ := mem_ready.1 hi
    have hil : i < ops.size := (Array.getElem?_eq_some_iff.1 ho).1
    have his : i < listed.size := by omega
    have hol : ops.toList[i]? = some o := by simpa using ho
    have hDi : listed.getD i false = false := by
      simp [Array.getD_eq_getD_getElem?, Array.getElem?_eq_getElem his] at h0 ⊢
      exact h0
    have hiS : i ∈ S := by
      rcases Classical.em (i ∈ S) with h | h
      · exact h
      · have := (hdS i hil).2 h; rw [hDi] at this; cases this
    obtain ⟨r, hr, hres⟩ := trace_at (k0 := 0) ht i o hol
    rw [Nat.zero_add] at hres
    have hei := effs_get hol hr
    have hfi : (feet rs)[i]? = some (r.rh, r.ms.map (·.1)) := by simp [feet, hr]
    obtain ⟨m, g1, g2, _, g4⟩ := chk_get hc rfl i o _ hol hfi
    rw [Nat.zero_add] at g1 g2
    have hmi : ∀ q, m.testBit q = true → listed.getD q false = true := fun q hq' =>
      mask_closed (D := fun j => listed.getD j false) hcl (feet rs) hfl hc he i o m q hol g1 hq' (fun e hee hb => hready e (by simpa using hee) hb)
    -- operations that are not ahead or behind touch nothing of this one
    have indepW : ∀ (j : Nat) (e : Eff), (effs ops.toList rs)[j]? = some e → (listed.getD j false = true ↔ ¬ j < i) → j ≠ i →
        ∃ oj rj, ops.toList[j]? = some oj ∧ rs[j]? = some rj ∧ e = ⟨oj.dst, rj.v, rj.ms⟩ ∧
          (∀ d, oj.dst = some d → d ∉ readsT ops.toList o ∧ o.dst ≠ some d) ∧ (∀ q, q ∈ rj.ms.map (·.1) → q ∉ r.rh ∧ q ∉ r.ms.map (·.1)) := by
      intro j e hje hD hne
      have hjl : j < ops.toList.length := by have := (List.getElem?_eq_some_iff.1 hje).1; rwa [hel] at this
      have hjr : j < rs.length := by omega
      obtain ⟨oj, hoj⟩ : ∃ oj, ops.toList[j]? = some oj := ⟨_, List.getElem?_eq_getElem hjl⟩
      obtain ⟨rj, hrj⟩ : ∃ rj, rs[j]? = some rj := ⟨_, List.getElem?_eq_getElem hjr⟩
      have hee := effs_get hoj hrj
      rw [hje] at hee
      simp only [Option.some.injEq] at hee
      refine ⟨_, _, hoj, hrj, hee, ?_⟩
      have hfj : (feet rs)[j]? = some (rj.rh, rj.ms.map (·.1)) := by simp [feet, hrj]
      rcases Nat.lt_or_ge j i with hji | hji
      · -- ahead in the text and not yet done: no edge binds
        have hDj : listed.getD j false = false := by
          cases h : listed.getD j false with
          | false => rfl
          | true => exact absurd hji (hD.1 h)
        obtain ⟨m', h⟩ := g4 j _ _ hji hoj hfj
        rw [Nat.zero_add] at h
        rcases h with h | h
        · have := hmi j h; rw [hDj] at this; cases this
        · simp only [indep, Bool.and_eq_true] at h
          obtain ⟨⟨⟨⟨⟨h1, h2⟩, h3⟩, h4⟩, h5⟩, h6⟩ := h
          refine ⟨fun d hd => ⟨disj_spec h1 (by simp [hd]), fun e => ?_⟩, fun q hq => ⟨disj_spec h4 hq, disj_spec h5 hq⟩⟩
          exact disj_spec h2 (x := d) (by simp [hd]) (by simp [e])
      · have hDj : listed.getD j false = true := hD.2 (by omega)
        obtain ⟨mj, k1, k2, _, k4⟩ := chk_get hc rfl j _ _ hoj hfj
        rw [Nat.zero_add] at k1 k2
        obtain ⟨m', h⟩ := k4 i o _ (by omega) hol hfi
        rw [Nat.zero_add] at h
        rcases h with h | h
        · have := mask_closed (D := fun j => listed.getD j false) hcl (feet rs) hfl hc he j _ mj i hoj k1 h (fun e hee hb => hcl j _ hoj hDj e hee hb)
          rw [hDi] at this; cases this
        · simp only [indep, Bool.and_eq_true] at h
          obtain ⟨⟨⟨⟨⟨h1, h2⟩, h3⟩, h4⟩, h5⟩, h6⟩ := h
          refine ⟨fun d hd => ⟨disj_spec h3 (by simp [hd]), fun e => ?_⟩, fun q hq => ⟨disj_spec h6 hq, fun hq2 => disj_spec h5 hq2 hq⟩⟩
          exact disj_spec h2 (x := d) (by simp [e]) (by simp [hd])
    -- what it looks at is as it is in the text's order
    have agree : ∀ {α : Type} {f : St → α} {W : Eff → Prop}, Part f W → (∀ (j : Nat) (e : Eff), (effs ops.toList rs)[j]? = some e → (listed.getD j false = true ↔ ¬ j < i) → j ≠ i → ¬ W e) → (¬ (listed.getD i false = true ↔ ¬ i < i)) →
        f (cur (fun j => listed.getD j false) 0 (effs ops.toList rs) st) = f (cur (fun j => decide (j < i)) 0 (effs ops.toList rs) st) := fun hp hw _ => by
      refine cur_congr hp _ 0 st st (fun j e hje hwe => ?_) rfl
      rw [Nat.zero_add]
      by_cases hji : j = i
      · subst hji; simpa using hDi
      · by_cases hD : (listed.getD j false = true ↔ ¬ j < i)
        · exact absurd hwe (hw j e hje hD hji)
        · cases h : listed.getD j false with
          | true =>
            have : j < i := by
              rcases Nat.lt_or_ge j i with h' | h'
              · exact h'
              · exact absurd ⟨fun _ => by omega, fun _ => h⟩ hD
            simp [this]
          | false =>
            have : ¬ j < i := fun h' => hD ⟨fun e => (by rw [h] at e; cases e), fun e => absurd h' e⟩
            simp [this]
    have hii : ¬ (listed.getD i false = true ↔ ¬ i < i) := fun h => by
      have := h.2 (by omega); rw [hDi] at this; cases this
    have hres' : OpRes P ops.toList o (cur (fun j => listed.getD j false) 0 (effs ops.toList rs) st) r := by
      refine hres.move (fun t htr => ?_) (fun q hq' => ?_) (fun q hq' => ?_)
      · exact agree (part_t t) (fun j e hje hD hne hwe => by
          obtain ⟨oj, rj, _, _, rfl, h1, _⟩ := indepW j e hje hD hne
          exact (h1 t hwe).1 htr) hii
      · exact agree (part_h q) (fun j e hje hD hne hwe => by
          obtain ⟨oj, rj, _, _, rfl, _, h2⟩ := indepW j e hje hD hne
          exact (h2 q hwe).1 hq') hii
      · exact agree (part_h q) (fun j e hje hD hne hwe => by
          obtain ⟨oj, rj, _, _, rfl, _, h2⟩ := indepW j e hje hD hne
          exact (h2 q hwe).2 hq') hii
    refine op_run ho hres' R fun ρ' a' w' R' => ?_
    have hget : ∀ j, (listed.setIfInBounds i true).getD j false = (decide (j = i) || listed.getD j false) := fun j => by
      by_cases hji : j = i
      · subst hji; simp [Array.getD_eq_getD_getElem?, Array.getElem?_setIfInBounds, his]
      · rw [getD_set_ne false (fun e => hji e.symm)]; simp [hji]
    have hcur : cur (fun j => (listed.setIfInBounds i true).getD j false) 0 (effs ops.toList rs) st = (cur (fun j => listed.getD j false) 0 (effs ops.toList rs) st).after o.dst r.v r.ms := by
      have hfun : (fun j => (listed.setIfInBounds i true).getD j false) = (fun j => decide (j = i) || listed.getD j false) := funext hget
      rw [hfun]
      have later : ∀ (j : Nat) (e : Eff), (effs ops.toList rs)[j]? = some e → i < 0 + j → listed.getD (0 + j) false = true → (∀ d, e.dst = some d → o.dst ≠ some d) ∧ ∀ q, q ∈ e.ms.map (·.1) → q ∉ r.ms.map (·.1) := fun j e hje hlt' hD => by
        rw [Nat.zero_add] at hlt' hD
        obtain ⟨oj, rj, _, _, rfl, h1, h2⟩ := indepW j e hje ⟨fun _ => by omega, fun _ => hD⟩ (by omega)
        exact ⟨fun d hd => (h1 d hd).2, fun q hq' => (h2 q hq').2⟩
      refine St.ext' (fun q => ?_) (fun q => ?_)
      · refine cur_add (part_t q) (e0 := ⟨o.dst, r.v, r.ms⟩) (effs ops.toList rs) 0 st (by omega) hei hDi (fun hw j e hje hlt' hwe => ?_)
        cases h : listed.getD (0 + j) false with
        | false => rfl
        | true => exact absurd hw ((later j e hje hlt' h).1 q hwe)
      · refine cur_add (part_h q) (e0 := ⟨o.dst, r.v, r.ms⟩) (effs ops.toList rs) 0 st (by omega) hei hDi (fun hw j e hje hlt' hwe => ?_)
        cases h : listed.getD (0 + j) false with
        | false => rfl
        | true => exact absurd hw ((later j e hje hlt' h).2 q hwe)
    refine ih (S.erase i) (listed.setIfInBounds i true) ?_ (hnd.erase i) (by simp [hsz]) (fun j hj => ?_) (fun j hj => hlt j (List.mem_of_mem_erase hj)) (fun j oj hoj hDj e hee hb => ?_) ρ' a' w' (by rw [hcur]; exact R')
    · rw [List.length_erase_of_mem hiS, hS]; rfl
    · rw [hget, hnd.mem_erase_iff]
      simp only [Bool.or_eq_true, decide_eq_true_eq, hdS j hj]
      constructor
      · rintro (h | h) ⟨h1, h2⟩
        · exact h1 h
        · exact h h2
      · intro h
        rcases Classical.em (j = i) with e | e
        · exact .inl e
        · exact .inr fun h2 => h ⟨e, h2⟩
    · rw [hget] at hDj ⊢
      simp only [Bool.or_eq_true, decide_eq_true_eq] at hDj ⊢
      rcases hDj with rfl | hDj
      · rw [hol] at hoj
        simp only [Option.some.injEq] at hoj
        subst hoj
        exact .inr (hready e (by simpa using hee) hb)
      · exact .inr (hcl j oj hoj hDj e hee hb)

theorem drawn_run (ht : Trace P ops.toList ops.toList st rs st') (hc : checkF ops.toList (feet rs) = true) (he : edgesOK ops.toList 0 = true) (hq : ∀ ρ a w, Rel X ρ st' a w → Q .normal a w) {ρ : Nat → Nat × Nat} {a : Act} {w : World} (R : Rel X ρ st a w) :
    wpAny P .any ops Q ops.size (Array.replicate ops.size false) a w := by
  have h0 : ∀ j, (Array.replicate ops.size false).getD j false = false := fun j => by
    simp only [Array.getD_eq_getD_getElem?, Array.getElem?_replicate]
    split <;> rfl
  refine any_run ht hc he hq ops.size (List.range ops.size) _ (by simp) List.nodup_range (by simp) (fun i hi => ?_) (fun i hi => by simpa using hi) (fun j o _ h => by rw [h0] at h; cases h) ρ a w ?_
  · rw [h0]; simp [hi]
  · rw [cur_none _ 0 st (fun i _ => h0 _)]
    exact R
end
end Go.Proofs.Ytfpmmahonddpoaa.Sx
