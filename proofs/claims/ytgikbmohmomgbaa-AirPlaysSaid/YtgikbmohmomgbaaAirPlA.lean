
/-
  AirPlays: its argument, its function same, what both airs have in common.
-/
import Derived.Test.YtgikbmohmomgbaaRefC
import Derived.Test.YtgikbmohmomgbaaMem3
set_option linter.unusedVariables false
set_option linter.unusedSimpArgs false
namespace Go.Proofs.Ytgikbmohmomgbaa
open Go Go.RowKit Sx

/-- A call of the law's argument. -/
structure Cl where
  d : Int
  x : Int
  q : Int
  b : Int
  to_ : Int
  u : Option Sl
  at_ : Int
  tr : Int
  be : Bool
abbrev Cl.cs (c : Cl) : List Value := [.int .i64 c.d, .int .i64 c.x, .int .i64 c.q, .int .u8 c.b, .int .i64 c.to_, uV c.u, .int .i64 c.at_, .int .i64 c.tr, .bool c.be]
abbrev Cl.rs (c : Cl) : List Value := [.int .i64 c.d, .int .i64 c.x, .int .i64 c.q, .int .u8 c.b, .int .i64 c.to_, uR c.u, .int .i64 c.at_, .int .i64 c.tr, .bool c.be]
theorem Cl.den (c : Cl) (ρ : Nat → Nat × Nat) : den ρ (.agg ⟨c.cs⟩) = .agg ⟨c.rs⟩ := by
  show Value.agg ((⟨c.cs⟩ : Array Value).map (den1 ρ)) = _
  have e := uV_den1 c.u ρ
  simp only [List.map_toArray, List.map_cons, List.map_nil]
  rw [e]
  rfl
theorem Cl.flat (c : Cl) : flatB (.agg ⟨c.cs⟩) 9 = true := rfl
/-- A struct at a real address, one of whose cells is a slice. -/
theorem ok_loadRM {o : Oper} {st : St} {t : TypeId} {x : Operand} {b f i sz : Nat} {W : World} {F : List By} {cs ds : List Value} (ho : o.op = .load t x) (hx : EvTo x st (.pointer (some ⟨b, f, none⟩))) (hi : st.h[i]? = some (some (memC W F)))
    (ht : lookT tys t fun ti d => isAggD d = true ∧ ti.size = sz) (hd : ∀ ρ, den ρ (.agg ⟨cs⟩) = .agg ⟨ds⟩) (hl : ds.length = sz) (hk : ∀ j v, ds[j]? = some v → W.cell? ⟨b, f + j, none⟩ = some v) : OKs Try.prog o st (.agg ⟨cs⟩) [] [i] := fun st₂ hs hh _ =>
  eff_pure fun X ρ a w R => by
    have hi2 : st₂.h[i]? = some (some (memC W F)) := (hh i (by simp)).trans hi
    have hx' := ev_real (hs x (by simp [ho, Op.operands]) _ hx) rfl R
    obtain ⟨ti, d, h1, h2, hd', rfl⟩ := lookT_out tysOK ht
    obtain ⟨S, E⟩ := R.heap.ext
    have hcells : ∀ j v, ds[j]? = some v → w.cell? ((⟨b, f, none⟩ : Addr).add j) = some v := fun j v hv => by
      rw [add_at]; exact known_old (hk j v hv) _ _ _ (E.inv i _ hi2)
    refine ⟨.agg ⟨ds⟩, ?_, fun r _ => hd r⟩
    simp only [execOp, ho, hx', Instr.loadAt, Instr.sureAddr, loadVar, Sem.run_bind, Sem.run_pure, Result.andThen_ok, run_isAgg h2, hd', if_true, Sx.run_sizeOf h1]
    rw [← hl, run_loadCells_list _ _ _ hcells]
    rfl
/-- An argument that is a slice of calls. -/
theorem open_clsM {H : Type} {enc : TypeId × Value → H} {W : World} {r : Reach} {base : Nat} {v : Value} {d : DataW H} {p : List MemPlace} (hv : Value.okWide Try.prog W r base 38 v) (h : DataW.Trod enc Try.prog W 0 (fun _ => true) true 38 v d p) :
    v = .slice none 0 0 ∨ ∃ (b o n cap : Nat) (C : Nat → Cl) (B : Nat → List Int), v = .slice (some ⟨b, o, none⟩) n cap ∧ n ≤ 9223372036854775807 ∧ b < W.heap.size ∧ ∀ i, i < n → Src W [] (C i).u (B i) ∧ ∀ j v, (C i).rs[j]? = some v → W.cell? ⟨b, o + i * 9 + j, none⟩ = some v := by
  have hsh := slice_shape Try.underlying38 hv
  obtain ⟨A, n, cap, f, rfl, hl, hm, hd, hseg, hrow⟩ := open_rows (C := 9) Try.underlying38 (by kernel_rfl) h hsh
  cases A with
  | none =>
    obtain ⟨rfl, rfl⟩ := okWide_nil Try.underlying38 hv
    exact .inl rfl
  | some a =>
    obtain ⟨h1, h2, _⟩ := okWide_seen Try.underlying38 hv
    obtain ⟨b, o, sp⟩ := a
    have h1 : sp = none := h1
    subst h1
    have key : ∀ i, i < n → ∃ c : Cl, ∃ bs, Src W [] c.u bs ∧ ∀ j v, c.rs[j]? = some v → f (i * 9 + j) = v := fun i hi => by
      obtain ⟨x, fuel, cs, ht, hcl, hc⟩ := hrow i hi
      have k0 := (leaf_int (d := 4) (t := 44) (l := 3) (j := 0) (by kernel_rfl) (@Try.underlying3) (hc 0 (by omega)) ht).1
      have k1 := (leaf_int (d := 4) (t := 44) (l := 3) (j := 1) (by kernel_rfl) (@Try.underlying3) (hc 1 (by omega)) ht).1
      have k2 := (leaf_int (d := 4) (t := 44) (l := 3) (j := 2) (by kernel_rfl) (@Try.underlying3) (hc 2 (by omega)) ht).1
      have k3 := (leaf_int (d := 4) (t := 44) (l := 5) (j := 3) (by kernel_rfl) (@Try.underlying5) (hc 3 (by omega)) ht).1
      have k4 := (leaf_int (d := 4) (t := 44) (l := 3) (j := 4) (by kernel_rfl) (@Try.underlying3) (hc 4 (by omega)) ht).1
      have k6 := (leaf_int (d := 4) (t := 44) (l := 2) (j := 6) (by kernel_rfl) (@Try.underlying2) (hc 6 (by omega)) ht).1
      have k7 := (leaf_int (d := 4) (t := 44) (l := 2) (j := 7) (by kernel_rfl) (@Try.underlying2) (hc 7 (by omega)) ht).1
      have k8 := leaf_bool (d := 4) (t := 44) (l := 4) (j := 8) (by kernel_rfl) (@Try.underlying4) (hc 8 (by omega)) ht
      obtain ⟨v5, y5, n5, hv5, hy5⟩ := leaf_read 4 44 5 26 fuel cs x (by kernel_rfl) (by omega) ht
      obtain ⟨u, bs, hu, hs⟩ := inner_bytes hy5
      have k5 : f (i * 9 + 5) = uR u := by
        have := hc 5 (by omega)
        rw [hv5] at this
        rw [← hu]; simpa using this.symm
      refine ⟨⟨intOf (f (i * 9 + 0)), intOf (f (i * 9 + 1)), intOf (f (i * 9 + 2)), intOf (f (i * 9 + 3)), intOf (f (i * 9 + 4)), u, intOf (f (i * 9 + 6)), intOf (f (i * 9 + 7)), boolOf (f (i * 9 + 8))⟩, bs, hs, fun j v hj => ?_⟩
      have hj9 : j < 9 := by have := (List.getElem?_eq_some_iff.1 hj).1; simpa using this
      match j, hj9 with
      | 0, _ => exact k0.trans (by simpa using hj)
      | 1, _ => exact k1.trans (by simpa using hj)
      | 2, _ => exact k2.trans (by simpa using hj)
      | 3, _ => exact k3.trans (by simpa using hj)
      | 4, _ => exact k4.trans (by simpa using hj)
      | 5, _ => exact k5.trans (by simpa using hj)
      | 6, _ => exact k6.trans (by simpa using hj)
      | 7, _ => exact k7.trans (by simpa using hj)
      | 8, _ => exact k8.trans (by simpa using hj)
    refine .inr ⟨b, o, n, cap, fun i => if h : i < n then (key i h).choose else ⟨0, 0, 0, 0, 0, none, 0, 0, false⟩, fun i => if h : i < n then (key i h).choose_spec.choose else [], rfl, by simp only [maxLen] at hm; omega, h2, fun i hi => ?_⟩
    simp only [dif_pos hi]
    obtain ⟨e1, e2⟩ := (key i hi).choose_spec.choose_spec
    refine ⟨e1, fun j v hj => ?_⟩
    have hj9 : j < 9 := by have := (List.getElem?_eq_some_iff.1 hj).1; simpa using this
    obtain ⟨x, hx, _, hc⟩ := hseg (by omega)
    obtain rfl : (⟨b, o, none⟩ : Addr) = x := by simpa using hx
    have := hc (i * 9 + j) (by omega)
    rw [add_at, ← Nat.add_assoc] at this
    rw [this, e2 j v hj]
theorem eq_str' (x y : Operand) (s : ByteArray) : BinIs Try.prog .eql 9 x y (.string s) (.string s) (.bool true) := ⟨rfl, rfl, rfl, fun w => by go_simp⟩
set_option maxRecDepth 100000 in
set_option maxHeartbeats 2000000 in
theorem cSame (W : World) (F : List By) (to_ at_ tr : Int) (be : Bool) (u u' : Option Sl) (bs : List Int) (hs : Src W F u bs) (hs' : Src W F u' bs) (j : Nat) (h : List (Option Chunk)) (hj : h[j]? = some (some (memC W F))) :
    CallOK Try.prog 17 [mailV to_ u at_ tr be, mailV to_ u' at_ tr be] h (.bool true) [(j, memC W F)] [] := by
  refine call_res (G := tys) (fun _ : Unit => True) (fun _ => _) [⟨j, memC W F, memC W F, memC W F⟩] [] [mailV to_ u at_ tr be, mailV to_ u' at_ tr be] tysOK mixed Try.func17 (by rfl) (Try.call17) ⟨hj, trivial⟩ ⟨⟨fun h => ⟨rfl, Nat.le_refl _⟩, Nat.le_refl _, fun j hj => absurd hj (Nat.not_lt_zero j)⟩, trivial⟩ (by simp [Apart]) ⟨.inr ⟨rfl, rfl⟩, trivial⟩ trivial ⟨mailV_re _ _ _ _ _, mailV_re _ _ _ _ _, trivial⟩ Opens.same ?_
  rintro ⟨⟩ -
  repeat' (refine N.go ?_; first | with_reducible refine N.obl (by decide) ?_ | with_reducible refine N.obl (flat_wi _ _ _) ?_ | with_reducible refine N.obl (flat_lim _ _) ?_ | with_reducible refine N.eq ?_ | with_reducible refine N.obl rfl ?_ | with_reducible refine N.obl ⟨by kernel_rfl, by kernel_rfl⟩ ?_ | with_reducible refine N.alt ?_ | with_reducible refine N.forkT ?_ | with_reducible refine N.forkF ?_ | refine N.forkNo (by decide) ?_ | refine N.forkYes (by decide) ?_ | refine N.obl (mail_flat _ _ _ _ _) ?_ | refine N.op (ok_strR (i := 0) (F := F) (bs := bs) tysOK rfl rfl rfl (by exact rfl) (by exact rfl) hs) ?_ | refine N.op (ok_strR (i := 0) (F := F) (bs := bs) tysOK rfl rfl rfl (by exact rfl) (by exact rfl) hs') ?_ | refine N.bin _ (eq_str' _ _ _) ?_ | refine N.forkYes (by simp; first | done | fail) ?_ | refine N.forkYes (beq_self_eq_true _) ?_ | fail_if_success skip)
  refine N.go ?_
  refine N.endSame ?_
  repeat' (refine N.go ?_; first | with_reducible refine N.obl (by decide) ?_ | with_reducible refine N.obl (flat_wi _ _ _) ?_ | with_reducible refine N.obl (flat_lim _ _) ?_ | with_reducible refine N.eq ?_ | with_reducible refine N.obl rfl ?_ | with_reducible refine N.obl ⟨by kernel_rfl, by kernel_rfl⟩ ?_ | with_reducible refine N.alt ?_ | with_reducible refine N.forkT ?_ | with_reducible refine N.forkF ?_ | refine N.obl (by rw [beq_self_eq_true]; exact .plain rfl) ?_ | refine N.obl ⟨⟨_, rfl, fun h => h, Nat.le_refl _, fun j hj => absurd hj (Nat.not_lt_zero j)⟩, trivial⟩ ?_ | refine N.obl trivial ?_ | refine N.obl ⟨⟨.inr ⟨_, rfl, rfl⟩, trivial⟩, trivial⟩ ?_ | exact N.true | fail_if_success skip)
end Go.Proofs.Ytgikbmohmomgbaa
