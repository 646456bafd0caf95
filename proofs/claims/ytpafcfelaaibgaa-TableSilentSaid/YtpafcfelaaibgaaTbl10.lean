/-
  What every program must know of tables.
-/
import Derived.Test.YtpafcfelaaibgaaTbl9
set_option linter.unusedVariables false
set_option linter.unusedSimpArgs false
namespace Go.Proofs.Ytpafcfelaaibgaa
open Go Go.RowKit Sx

theorem rdf_en {o : Bool} {c p n : Nat} {T : Nat → Ent} {v : Value} (i k : Nat) (h : i < c) (hk : k < 10) (e : p = i * 10 + k) (hv : encell (T i) k = v) (h1 : v.oneCell' = true) : Reads (enC o c T) p false n v := by
  subst e
  refine ⟨by show i * 10 + k < c * 10; omega, h1, ?_⟩
  rw [enC_f (by omega), show (i * 10 + k) / 10 = i from by omega, show (i * 10 + k) % 10 = k from by omega]
  exact hv
theorem hear_new {T : Tbl} {n boot seq now : Int} (ha : argsOK n boot seq now) (hl : T.lives n = none) (hE : dGet T.E n = none) : hearT T n boot seq now = (0, T.win n boot now T.E ⟨true, seq, 1⟩) := by
  unfold hearT; rw [if_pos ha, hl, beg_none hE]
theorem sortK_one {α : Type} (k : Int) (a : α) : sortK [(k, a)] = [k] := by simp [sortK]
theorem awk : ∃ T1 T2 T3 : Tbl, ∃ e : Ent, hearT (Tbl.new 1) 3 0 0 5 = (0, T1) ∧ hearT T1 4 0 0 6 = (0, T2) ∧ hearT T2 3 0 0 7 = (9, T3) ∧ T3.E = [(4, e)] ∧ e.node = 4 := by
  have n1 : hearT (Tbl.new 1) 3 0 0 5 = (0, (Tbl.new 1).win 3 0 5 [] ⟨true, 0, 1⟩) := hear_new (by decide) rfl rfl
  have e1 : ((Tbl.new 1).win 3 0 5 [] ⟨true, 0, 1⟩).E = [(3, ⟨3, 0, 5, false, 0, 0, 0, 0, 0, 0⟩)] := by
    show heardE (Tbl.new 1).most [] 3 0 5 = _
    rw [heard_room rfl (by decide)]; rfl
  generalize hT1 : (Tbl.new 1).win 3 0 5 [] ⟨true, 0, 1⟩ = T1 at n1 e1
  have m1 : T1.most = 1 := by rw [← hT1]; rfl
  have l1 : T1.lives 3 = some ⟨0, false, ⟨true, 0, 1⟩⟩ := by rw [← hT1]; rfl
  have l1' : T1.lives 4 = none := by rw [← hT1]; rfl
  have n2 : hearT T1 4 0 0 6 = (0, T1.win 4 0 6 T1.E ⟨true, 0, 1⟩) := hear_new (by decide) l1' (by rw [e1]; rfl)
  have e2 : (T1.win 4 0 6 T1.E ⟨true, 0, 1⟩).E = [(4, ⟨4, 0, 6, false, 0, 0, 0, 0, 0, 0⟩)] := by
    show heardE T1.most T1.E 4 0 6 = _
    rw [m1, e1, heard_full (by rfl) (by decide)]
    have hm : minT (entT [((3 : Int), (⟨3, 0, 5, false, 0, 0, 0, 0, 0, 0⟩ : Ent))]) 1 = ⟨3, 0, 5, false, 0, 0, 0, 0, 0, 0⟩ := entT_in (k := 3) (by rw [sortK_one]; rfl) rfl
    show dPut (dDel _ (minT (entT _) 1).node) 4 _ = _
    rw [hm]; rfl
  generalize hT2 : T1.win 4 0 6 T1.E ⟨true, 0, 1⟩ = T2 at n2 e2
  have l2 : T2.lives 3 = some ⟨0, false, ⟨true, 0, 1⟩⟩ := by rw [← hT2]; exact l1
  have n3 : hearT T2 3 0 0 7 = (9, ⟨T2.most, T2.E, setL T2.lives 3 ⟨0, false, ⟨true, 0, 1⟩⟩⟩) := by
    have hw : whear ⟨true, 0, 1⟩ 0 = (9, ⟨true, 0, 1⟩) := by rfl
    unfold hearT
    rw [if_pos (by decide), l2]
    simp only [hw]
    rfl
  exact ⟨T1, T2, _, _, n1, n2, n3, e2, rfl⟩
set_option maxRecDepth 100000 in
set_option maxHeartbeats 2000000 in
theorem awake_x   (w : World) : Calls Try.prog 13 #[] w fun e w' => e = .returned (.bool true) ∧ Below w.heap.size w w' := by
  obtain ⟨T1, T2, T3, e, n1, n2, n3, e3, en⟩ := awk
  obtain ⟨k0, q0⟩ := new_ok 1
  obtain ⟨k1, q1, _⟩ := hearT_ok k0 q0 n1
  obtain ⟨k2, q2, _⟩ := hearT_ok k1 q1 n2
  obtain ⟨k3, q3, _⟩ := hearT_ok k2 q2 n3
  refine calls_pure (G := tys) w tysOK mixed Try.func13 (by rfl) (by first | rfl | (simp only [List.all_cons, List.all_nil, plain_wz, plain_lim, plain_wi]; rfl)) (by first | exact plain3_wz _ | exact plain3_wi _ _ _ | rfl | (simp only [plain3, List.all_cons, List.all_nil, plain_wz, plain_lim, plain_wi]; rfl)) ?_
  repeat' (refine N.go ?_; first | with_reducible refine N.obl (by decide) ?_ | with_reducible refine N.obl (flat_wi _ _ _) ?_ | with_reducible refine N.obl (flat_lim _ _) ?_ | with_reducible refine N.eq ?_ | with_reducible refine N.obl rfl ?_ | with_reducible refine N.obl ⟨by kernel_rfl, by kernel_rfl⟩ ?_ | with_reducible refine N.forkT ?_ | with_reducible refine N.forkF ?_ | refine N.call (cNewT 1 0 _ (by rfl)) ?_ | refine N.call (cHear _ k0 3 0 0 5 0 _ n1 0 _ (by rfl)) ?_ | refine N.call (cHear _ k1 4 0 0 6 0 _ n2 0 _ (by rfl)) ?_ | refine N.call (cHear _ k2 3 0 0 7 9 _ n3 0 _ (by rfl)) ?_ | fail_if_success skip)
  refine N.go ?_
  have hl3 : T3.E.length = 1 := by rw [e3]; rfl
  refine N.callAll (cAllT T3 (by omega) 0 1 _ (by rfl) (by rfl)) fun v ms hR => ?_
  rcases hR with ⟨hE0, _, _⟩ | ⟨cap, _, hcap, rfl, rfl⟩
  · rw [e3] at hE0; cases hE0
  rw [hl3]
  repeat' (refine N.go ?_; first | with_reducible refine N.obl (by decide) ?_ | with_reducible refine N.obl (flat_wi _ _ _) ?_ | with_reducible refine N.obl (flat_lim _ _) ?_ | with_reducible refine N.eq ?_ | with_reducible refine N.obl rfl ?_ | with_reducible refine N.obl ⟨by kernel_rfl, by kernel_rfl⟩ ?_ | with_reducible refine N.forkT ?_ | with_reducible refine N.forkF ?_ | refine N.forkYes (by decide) ?_ | refine N.forkNo (by decide) ?_ | fail_if_success skip)
  refine N.go ?_
  refine N.idx 0 1 rfl (by decide) ?_
  repeat' (refine N.go ?_; first | with_reducible refine N.obl (by decide) ?_ | with_reducible refine N.obl (flat_wi _ _ _) ?_ | with_reducible refine N.obl (flat_lim _ _) ?_ | with_reducible refine N.eq ?_ | with_reducible refine N.obl rfl ?_ | with_reducible refine N.obl ⟨by kernel_rfl, by kernel_rfl⟩ ?_ | with_reducible refine N.forkT ?_ | with_reducible refine N.forkF ?_ | refine N.forkYes (by decide) ?_ | refine N.forkNo (by decide) ?_ | fail_if_success skip)
  refine N.go ?_
  have he : entT T3.E 0 = e := by rw [e3]; exact entT_in (k := 4) (by rw [sortK_one]; rfl) rfl
  refine N.load (.int .i64 4) (rdf_en 0 0 (by omega) (by decide) rfl (by show Value.int .i64 (if 0 < 1 then entT T3.E 0 else Ent.zero).node = _; rw [if_pos (by decide), he, en]) rfl) ?_
  repeat' (refine N.go ?_; first | with_reducible refine N.obl (by decide) ?_ | with_reducible refine N.obl (flat_wi _ _ _) ?_ | with_reducible refine N.obl (flat_lim _ _) ?_ | with_reducible refine N.eq ?_ | with_reducible refine N.obl rfl ?_ | with_reducible refine N.obl ⟨by kernel_rfl, by kernel_rfl⟩ ?_ | with_reducible refine N.forkT ?_ | with_reducible refine N.forkF ?_ | refine N.forkYes (by decide) ?_ | refine N.forkNo (by decide) ?_ | fail_if_success skip)
  all_goals rfl
theorem cAwake (h : List (Option Chunk)) : CallOK Try.prog 13 [] h (.bool true) [] [] := call_pure rfl rfl (Try.call13 _) awake_x
end Go.Proofs.Ytpafcfelaaibgaa
