/-
  The statement TruthStart: for every input the law returns true.
-/
import Derived.Test.YtfpmmahonddpoaaTr7
set_option linter.unusedVariables false
set_option linter.unusedSimpArgs false
namespace Go.Proofs.Ytfpmmahonddpoaa.truthStart
open Go Go.ChangeShapes Go.WideShapes Go.ChangeAt Go.RowKit Sx

theorem pos_at (p : Nat) : pos0 (p * 2) = 1000 * ((p % 8 : Nat) : Int) ∧ pos0 (p * 2 + 1) = 1000 * ((p / 8 : Nat) : Int) := by
  unfold pos0
  rw [if_pos (by omega), if_neg (by omega), show p * 2 / 2 = p from by omega, show (p * 2 + 1) / 2 = p from by omega]
  exact ⟨rfl, rfl⟩
set_option maxRecDepth 100000 in
set_option maxHeartbeats 1000000 in
theorem walk (a b : Int) (w : World) :
    Calls Try.prog 5 #[.int .i64 a, .int .i64 b] w fun e w' => e = .returned (.bool true) ∧ Below w.heap.size w w' := by
  refine calls_pure (G := tys) w tysOK mixed Try.func5 (by rfl) (by rfl) (by rfl) ?_
  repeat' (refine N.go ?_; first | with_reducible refine N.obl (by decide) ?_ | with_reducible refine N.obl (flat_wi _ _ _) ?_ | with_reducible refine N.obl (flat_lim _ _) ?_ | with_reducible refine N.eq ?_ | with_reducible refine N.obl rfl ?_ | with_reducible refine N.obl ⟨by kernel_rfl, by kernel_rfl⟩ ?_ | with_reducible refine N.forkT ?_ | with_reducible refine N.forkF ?_ | refine N.call (cConfig _ _ _ _ _ _ _) ?_)
  refine N.go ?_
  have hn0 := um_in a 64 (by omega)
  have hn : IntKind.i64.wrap (1 + IntKind.i64.wrap ((IntKind.u64.wrap a).tmod 64)) = (((1 + um a 64).toNat : Nat) : Int) := by rw [(umE a 64 (by omega) (by omega)).2]; omega
  have hn1 : 1 ≤ (1 + um a 64).toNat ∧ (1 + um a 64).toNat ≤ 64 := by omega
  generalize (1 + um a 64).toNat = n at hn hn1
  generalize IntKind.i64.wrap (1 + IntKind.i64.wrap ((IntKind.u64.wrap a).tmod 64)) = z at hn ⊢
  subst hn
  refine N.callAll (cNewW (cfgF n (1 + um 1 6) (um 1 40) (um 1 10) (1 + um 1 6) (1 + um 1 8)) 6 n _ (may_cfg (by omega) (by decide) (by decide) (by decide) (by decide) (by decide)) rfl rfl rfl rfl) fun v ms hR => ?_
  obtain ⟨s, ⟨hs1, hs2⟩, rfl, rfl⟩ := hR
  repeat' (refine N.go ?_; first | with_reducible refine N.obl (by decide) ?_ | with_reducible refine N.obl (flat_wi _ _ _) ?_ | with_reducible refine N.obl (flat_lim _ _) ?_ | with_reducible refine N.eq ?_ | with_reducible refine N.obl rfl ?_ | with_reducible refine N.obl ⟨by kernel_rfl, by kernel_rfl⟩ ?_ | with_reducible refine N.forkT ?_ | with_reducible refine N.forkF ?_ | refine N.obl (by simp only [IntKind.wrap_i64, IntKind.wrap_u64]; omega) ?_)
  refine N.go ?_
  obtain ⟨p, hp, hpn⟩ : ∃ p : Nat, IntKind.i64.wrap ((IntKind.u64.wrap b).tmod (IntKind.u64.wrap (n : Int))) = (p : Int) ∧ p < n := by
    have h := u64mod b n (by omega) (by omega)
    have e : IntKind.u64.wrap (n : Int) = n := by rw [IntKind.wrap_u64]; omega
    rw [e]
    exact ⟨(IntKind.i64.wrap ((IntKind.u64.wrap b).tmod n)).toNat, by omega, by omega⟩
  generalize IntKind.i64.wrap ((IntKind.u64.wrap b).tmod (IntKind.u64.wrap (n : Int))) = z at hp ⊢
  subst hp
  obtain ⟨x1, y1⟩ := coord (i := p) (by omega)
  obtain ⟨x2, y2⟩ := pos_at p
  repeat' (refine N.go ?_; first | with_reducible refine N.obl (by decide) ?_ | with_reducible refine N.obl (flat_wi _ _ _) ?_ | with_reducible refine N.obl (flat_lim _ _) ?_ | with_reducible refine N.eq ?_ | with_reducible refine N.obl rfl ?_ | with_reducible refine N.obl ⟨by kernel_rfl, by kernel_rfl⟩ ?_ | with_reducible refine N.forkT ?_ | with_reducible refine N.forkF ?_ | with_reducible refine N.call (cAwake24 _) ?_ | refine N.call (cPlaceY (cfgF n (1 + um 1 6) (um 1 40) (um 1 10) (1 + um 1 6) (1 + um 1 8)) n s.cap 6 7 8 pos0 (fun _ => false) 0 0 _ _ _ p _ (by rfl) (by rfl) (by rfl) hpn) ?_ | refine N.call (cTime (cfgF n (1 + um 1 6) (um 1 40) (um 1 10) (1 + um 1 6) (1 + um 1 8)) n s.cap 6 7 8 pos0 (fun _ => false) 0 0 _ _ _ _ (by rfl) (by rfl) (by rfl)) ?_ | refine N.call (cStep (cfgF n (1 + um 1 6) (um 1 40) (um 1 10) (1 + um 1 6) (1 + um 1 8)) n s.cap 6 7 8 pos0 (fun _ => false) 0 0 _ _ _ (by rfl) (by rfl) (by rfl) (by decide) (by decide) (by decide) (by decide)) ?_ | refine N.forkYes (by rw [x2, x1]; exact beq_self_eq_true _) ?_ | refine N.forkYes (by rw [y2, y1]; exact beq_self_eq_true _) ?_ | refine N.forkYes (by decide) ?_)
  all_goals rfl
set_option maxRecDepth 100000 in
theorem lifted (os : Os) (started : os.Started) (H : Type) (enc : TypeId × Value → H) :
    ReturnsInHanded {} Try.checked os 5 .any (Rows.truthStartSpec.pre6 enc Try.prog Try.f5 Rows.truthStartRow.domain false) (Rows.truthStartSpec.post enc Try.prog Try.f5 false true false false) := by
  refine law_lifted (C := Try.checked) (tb := 4) Try.own started (by kernel_rfl) Try.func5 Try.laidOut (by kernel_rfl) rfl Try.underlying4 rfl
    (fun ds hds => by match ds, hds with | [_, _], _ => rfl)
    (ChangeSpec.witness6 (enc := enc) (C := Try.checked) false ⟨#[], #[.int .i64 0, .int .i64 0], []⟩ 8 (by kernel_rfl) (by kernel_rfl) (by kernel_rfl) (by kernel_rfl)) ?_
  intro W base args ds p hval0 hA0 hsz0
  have hval : ∀ (j : Nat) t v, Try.f5.params[j]? = some t → args[j]? = some v → Value.okWide Try.prog W .any base t v := hval0
  have hA : DataW.TrodAll enc Try.prog W 0 (fun _ => true) true Try.f5.params.toList args.toList ds p := hA0
  have hsz : (DataW.weightsEach Try.prog Try.f5.params.toList ds).all (· ≤ reachBytes) = true := hsz0
  rw [Try.params5] at hA hval hsz
  obtain ⟨v0, vs0, d0, ds0, p0, q0, hargs, rfl, rfl, h0, r0⟩ := trodAll_cons hA
  obtain ⟨v1, vs1, d1, ds1, p1, q1, rfl, rfl, rfl, h1, r1⟩ := trodAll_cons r0
  obtain ⟨rfl, rfl, rfl⟩ := trodAll_nil r1
  obtain rfl : args = #[v0, v1] := by cases args; simp_all
  obtain ⟨a0, rfl, rfl, rfl, w0⟩ := open_int Try.underlying3 (hval 0 _ v0 rfl rfl) h0
  obtain ⟨a1, rfl, rfl, rfl, w1⟩ := open_int Try.underlying3 (hval 1 _ v1 rfl rfl) h1
  exact walk a0 a1 W

theorem proved : Rows.TruthStartSaid :=
  OpenClaim.holds_of_wide 5 Try.f5 rfl rfl rfl rfl rfl rfl rfl ⟨rfl, rfl, rfl, rfl, rfl⟩ rfl rfl rfl rfl rfl (by kernel_rfl) Try.func5 (by kernel_rfl)
    (of_decide_eq_true (by kernel_rfl)) (by unfold Func.isWrapper; rw [if_neg (by decide +kernel)]; exact ⟨rfl, rfl⟩)
    (fun os started H enc _ => lifted os started H enc)
#print axioms proved
end Go.Proofs.Ytfpmmahonddpoaa.truthStart
