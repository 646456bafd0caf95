/-
  AirFull: the law's walk and its frame.
-/
import Derived.Test.YtgikbmohmomgbaaAir3
import Derived.Test.YtgikbmohmomgbaaRows
set_option linter.unusedVariables false
set_option linter.unusedSimpArgs false
namespace Go.Proofs.Ytgikbmohmomgbaa.airFull
open Go Go.ChangeShapes Go.WideShapes Go.ChangeAt Go.RowKit Sx

structure FS where
  i : Nat
  c : Nat
  T : Nat → Int
def fsN (i : Nat) : Nat := if i < 512 then i else 512
def fsOK (m : Nat) (s : FS) : Prop := 1 ≤ s.i ∧ s.i ≤ m ∧ fsN s.i ≤ s.c ∧ ∀ j, j < fsN s.i → s.T j = (j : Int)
theorem re_eq {ix : List (Nat × Nat)} {v u : Value} (h : v = u) (hp : plain3 v = true) : Re ix v u := by subst h; exact .plain hp
theorem int_eq {k : IntKind} {a b : Int} (h : a = b) : Value.int k a = .int k b := by rw [h]
theorem mlT_ren {ix : List (Nat × Nat)} {c : Nat} {T T' : Nat → Int} (h : ∀ i, i < c → T i = T' i) : ChunkReLe ix (mlT true c T) (mlT true c T') := ⟨id, Nat.le_refl _, mlT_re h⟩
theorem air_ren {ix : List (Nat × Nat)} {k k' l c : Nat} (hk : ixK ix k' = some k) : ChunkReLe ix (airC true (.slice (some ⟨k, 0, some 0⟩) l c)) (airC true (.slice (some ⟨k', 0, some 0⟩) l c)) := ⟨id, Nat.le_refl _, air_re hk⟩
theorem nil_ren {ix : List (Nat × Nat)} : ChunkReLe ix (airC true (.slice none 0 0)) (airC true (.slice none 0 0)) := ⟨id, Nat.le_refl _, fun j hj => by
  match j, hj with
  | 0, _ => exact .plain rfl⟩
theorem i64s (n : Int) (h0 : -9223372036854775808 ≤ n) (h1 : n < 9223372036854775808) : IntKind.i64.wrap n = n := by rw [IntKind.wrap_i64]; omega
set_option maxRecDepth 100000 in
set_option maxHeartbeats 2000000 in
theorem walk (a : Int) (w : World) : Calls Try.prog 6 #[.int .i64 a] w fun o w' => o = .returned (.bool true) ∧ Below w.heap.size w w' := by
  obtain ⟨m, hm, he⟩ : ∃ m : Nat, (510 ≤ m ∧ m ≤ 514) ∧ IntKind.i64.wrap (510 + IntKind.i64.wrap ((IntKind.u64.wrap a).tmod 5)) = (m : Int) := by
    have := u64mod a 5 (by decide) (by decide)
    refine ⟨(510 + IntKind.i64.wrap ((IntKind.u64.wrap a).tmod 5)).toNat, by omega, ?_⟩
    rw [i64s _ (by omega) (by omega)]; omega
  refine calls_pure (G := tys) w tysOK mixed Try.func6 (by rfl) (by rfl) (by rfl) ?_
  repeat' (refine N.go ?_; first | with_reducible refine N.obl (by decide) ?_ | with_reducible refine N.obl (flat_wi _ _ _) ?_ | with_reducible refine N.obl (flat_lim _ _) ?_ | with_reducible refine N.eq ?_ | with_reducible refine N.obl rfl ?_ | with_reducible refine N.obl ⟨by kernel_rfl, by kernel_rfl⟩ ?_ | with_reducible refine N.forkT ?_ | with_reducible refine N.forkF ?_ | refine N.call (cNewAir 0 _ (by rfl)) ?_ | fail_if_success skip)
  refine N.go ?_
  rw [he]
  refine N.loopR (α := Option FS) (fun x => match x with
    | none => True
    | some s => fsOK m s) (fun x => match x with
    | none => m
    | some s => m - s.i) (fun x => match x with
    | none => [(15, .int .i64 0)]
    | some s => [(15, .int .i64 (s.i : Int))]) (fun x => match x with
    | none => [(0, airC true (.slice none 0 0))]
    | some s => [(0, airC true (.slice (some ⟨1, 0, some 0⟩) (fsN s.i) s.c)), (1, mlT true s.c s.T)]) none [(0, 0)] trivial ?_ ?_
  · repeat' (refine N.go ?_; first | with_reducible refine N.obl (by decide) ?_ | with_reducible refine N.obl (flat_wi _ _ _) ?_ | with_reducible refine N.obl (flat_lim _ _) ?_ | with_reducible refine N.eq ?_ | with_reducible refine N.obl rfl ?_ | with_reducible refine N.obl ⟨by kernel_rfl, by kernel_rfl⟩ ?_ | with_reducible refine N.forkT ?_ | with_reducible refine N.forkF ?_ | exact N.true | refine N.obl nil_ren ?_ | refine N.obl (air_ren (by rfl)) ?_ | refine N.obl (.plain (by rfl)) ?_ | refine N.obl (.one (.ptr rfl)) ?_)
  · intro x hx
    cases x with
    | none =>
      repeat' (refine N.go ?_; first | with_reducible refine N.obl (by decide) ?_ | with_reducible refine N.obl (flat_wi _ _ _) ?_ | with_reducible refine N.obl (flat_lim _ _) ?_ | with_reducible refine N.eq ?_ | with_reducible refine N.obl rfl ?_ | with_reducible refine N.obl ⟨by kernel_rfl, by kernel_rfl⟩ ?_ | with_reducible refine N.forkT ?_ | with_reducible refine N.forkF ?_ | refine N.forkNo (by decide) ?_ | refine N.forkYes (by decide) ?_ | refine N.forkYes (by rw [decide_eq_true_eq]; omega) ?_ | fail_if_success skip)
      refine N.go ?_
      refine N.callAll (cPutA 0 0 1 _ (by rfl) (by rfl)) fun v ms hR => ?_
      obtain ⟨c, hc, rfl, rfl⟩ := hR
      repeat' (refine N.go ?_; first | with_reducible refine N.obl (by decide) ?_ | with_reducible refine N.obl (flat_wi _ _ _) ?_ | with_reducible refine N.obl (flat_lim _ _) ?_ | with_reducible refine N.eq ?_ | with_reducible refine N.obl rfl ?_ | with_reducible refine N.obl ⟨by kernel_rfl, by kernel_rfl⟩ ?_ | with_reducible refine N.forkT ?_ | with_reducible refine N.forkF ?_ | refine N.forkNo (by decide) ?_ | refine N.forkYes (by decide) ?_ | refine N.forkYes (by rw [decide_eq_true_eq]; omega) ?_ | refine N.forkNo (by rw [decide_eq_false_iff_not]; omega) ?_ | refine N.forkNo (by simp; omega) ?_ | refine N.forkYes (by simp; omega) ?_ | fail_if_success skip)
      refine N.go ?_
      refine N.nextR (some ⟨1, c, growT (fun _ => 0) 0 0⟩) [(0, 0), (1, 1)] ⟨⟨Nat.le_refl _, by show 1 ≤ m; omega, hc, fun j hj => ?_⟩, by show m - 1 < m; omega⟩ ?_
      · have hj : j < 1 := hj
        obtain rfl : j = 0 := by omega
        rfl
      repeat' (refine N.go ?_; first | with_reducible refine N.obl (by decide) ?_ | with_reducible refine N.obl (flat_wi _ _ _) ?_ | with_reducible refine N.obl (flat_lim _ _) ?_ | with_reducible refine N.eq ?_ | with_reducible refine N.obl rfl ?_ | with_reducible refine N.obl ⟨by kernel_rfl, by kernel_rfl⟩ ?_ | with_reducible refine N.forkT ?_ | with_reducible refine N.forkF ?_ | exact N.true | refine N.obl (mlT_ren (fun _ _ => rfl)) ?_ | refine N.obl nil_ren ?_ | refine N.obl (air_ren (by rfl)) ?_ | refine N.obl (.plain (by rfl)) ?_ | refine N.obl (.one (.ptr rfl)) ?_ | refine N.obl (re_eq (int_eq (by rw [i64s _ (by omega) (by omega)]; omega)) rfl) ?_ | fail_if_success skip)
    | some s =>
      obtain ⟨i, c, T⟩ := s
      obtain ⟨i1, i2, i3, i4⟩ := hx
      have i2 : i ≤ m := i2
      by_cases hlt : i < m
      · by_cases h5 : i < 512
        · have e5 : fsN i = i := if_pos h5
          have e6 : fsN (i + 1) = i + 1 := by unfold fsN; split <;> omega
          simp only [e5] at i3 i4 ⊢
          repeat' (refine N.go ?_; first | with_reducible refine N.obl (by decide) ?_ | with_reducible refine N.obl (flat_wi _ _ _) ?_ | with_reducible refine N.obl (flat_lim _ _) ?_ | with_reducible refine N.eq ?_ | with_reducible refine N.obl rfl ?_ | with_reducible refine N.obl ⟨by kernel_rfl, by kernel_rfl⟩ ?_ | with_reducible refine N.forkT ?_ | with_reducible refine N.forkF ?_ | refine N.forkNo (by decide) ?_ | refine N.forkYes (by decide) ?_ | refine N.forkYes (by rw [decide_eq_true_eq]; omega) ?_ | refine N.forkNo (by rw [decide_eq_false_iff_not]; omega) ?_ | refine N.forkNo (by simp; omega) ?_ | refine N.forkYes (by simp; omega) ?_ | fail_if_success skip)
          refine N.go ?_
          refine N.callAll (cPutB (i : Int) 2 0 1 i c T _ (by rfl) (by rfl) (by decide) i1 i3 h5 (by rfl)) fun v ms hR => ?_
          obtain ⟨rfl, ⟨hr, rfl⟩ | ⟨c', hc', hcn, rfl⟩⟩ := hR
          · repeat' (refine N.go ?_; first | with_reducible refine N.obl (by decide) ?_ | with_reducible refine N.obl (flat_wi _ _ _) ?_ | with_reducible refine N.obl (flat_lim _ _) ?_ | with_reducible refine N.eq ?_ | with_reducible refine N.obl rfl ?_ | with_reducible refine N.obl ⟨by kernel_rfl, by kernel_rfl⟩ ?_ | with_reducible refine N.forkT ?_ | with_reducible refine N.forkF ?_ | refine N.forkNo (by decide) ?_ | refine N.forkYes (by decide) ?_ | refine N.forkYes (by rw [decide_eq_true_eq]; omega) ?_ | refine N.forkNo (by rw [decide_eq_false_iff_not]; omega) ?_ | refine N.forkNo (by simp; omega) ?_ | refine N.forkYes (by simp; omega) ?_ | fail_if_success skip)
            refine N.go ?_
            refine N.nextR (some ⟨i + 1, c, setT T i (i : Int)⟩) [(0, 0), (1, 1)] ⟨⟨by show 1 ≤ i + 1; omega, by show i + 1 ≤ m; omega, by show fsN (i + 1) ≤ c; omega, fun j hj => ?_⟩, by show m - (i + 1) < m - i; omega⟩ ?_
            · have hj : j < fsN (i + 1) := hj
              show setT T i i j = j
              unfold setT
              split
              · omega
              · exact i4 j (by omega)
            simp only [e6]
            repeat' (refine N.go ?_; first | with_reducible refine N.obl (by decide) ?_ | with_reducible refine N.obl (flat_wi _ _ _) ?_ | with_reducible refine N.obl (flat_lim _ _) ?_ | with_reducible refine N.eq ?_ | with_reducible refine N.obl rfl ?_ | with_reducible refine N.obl ⟨by kernel_rfl, by kernel_rfl⟩ ?_ | with_reducible refine N.forkT ?_ | with_reducible refine N.forkF ?_ | exact N.true | refine N.obl (mlT_ren (fun _ _ => rfl)) ?_ | refine N.obl nil_ren ?_ | refine N.obl (air_ren (by rfl)) ?_ | refine N.obl (.plain (by rfl)) ?_ | refine N.obl (.one (.ptr rfl)) ?_ | refine N.obl (re_eq (int_eq (by rw [i64s _ (by omega) (by omega)]; omega)) rfl) ?_ | fail_if_success skip)
          · repeat' (refine N.go ?_; first | with_reducible refine N.obl (by decide) ?_ | with_reducible refine N.obl (flat_wi _ _ _) ?_ | with_reducible refine N.obl (flat_lim _ _) ?_ | with_reducible refine N.eq ?_ | with_reducible refine N.obl rfl ?_ | with_reducible refine N.obl ⟨by kernel_rfl, by kernel_rfl⟩ ?_ | with_reducible refine N.forkT ?_ | with_reducible refine N.forkF ?_ | refine N.forkNo (by decide) ?_ | refine N.forkYes (by decide) ?_ | refine N.forkYes (by rw [decide_eq_true_eq]; omega) ?_ | refine N.forkNo (by rw [decide_eq_false_iff_not]; omega) ?_ | refine N.forkNo (by simp; omega) ?_ | refine N.forkYes (by simp; omega) ?_ | fail_if_success skip)
            refine N.go ?_
            refine N.nextR (some ⟨i + 1, c', growT T i (i : Int)⟩) [(0, 0), (2, 1)] ⟨⟨by show 1 ≤ i + 1; omega, by show i + 1 ≤ m; omega, by show fsN (i + 1) ≤ c'; omega, fun j hj => ?_⟩, by show m - (i + 1) < m - i; omega⟩ ?_
            · have hj : j < fsN (i + 1) := hj
              show growT T i i j = j
              unfold growT
              split
              · exact i4 j (by omega)
              · rw [if_pos (by omega)]; omega
            simp only [e6]
            repeat' (refine N.go ?_; first | with_reducible refine N.obl (by decide) ?_ | with_reducible refine N.obl (flat_wi _ _ _) ?_ | with_reducible refine N.obl (flat_lim _ _) ?_ | with_reducible refine N.eq ?_ | with_reducible refine N.obl rfl ?_ | with_reducible refine N.obl ⟨by kernel_rfl, by kernel_rfl⟩ ?_ | with_reducible refine N.forkT ?_ | with_reducible refine N.forkF ?_ | exact N.true | refine N.obl (mlT_ren (fun _ _ => rfl)) ?_ | refine N.obl nil_ren ?_ | refine N.obl (air_ren (by rfl)) ?_ | refine N.obl (.plain (by rfl)) ?_ | refine N.obl (.one (.ptr rfl)) ?_ | refine N.obl (re_eq (int_eq (by rw [i64s _ (by omega) (by omega)]; omega)) rfl) ?_ | fail_if_success skip)
        · have e5 : fsN i = 512 := if_neg h5
          have e6 : fsN (i + 1) = 512 := if_neg (by omega)
          simp only [e5] at i3 i4 ⊢
          repeat' (refine N.go ?_; first | with_reducible refine N.obl (by decide) ?_ | with_reducible refine N.obl (flat_wi _ _ _) ?_ | with_reducible refine N.obl (flat_lim _ _) ?_ | with_reducible refine N.eq ?_ | with_reducible refine N.obl rfl ?_ | with_reducible refine N.obl ⟨by kernel_rfl, by kernel_rfl⟩ ?_ | with_reducible refine N.forkT ?_ | with_reducible refine N.forkF ?_ | refine N.call (cPutN (i : Int) _ _ 0 1 512 c T _ (by rfl) (by rfl) (by decide) (by decide) i3 (by decide)) ?_ | refine N.forkNo (by decide) ?_ | refine N.forkYes (by decide) ?_ | refine N.forkYes (by rw [decide_eq_true_eq]; omega) ?_ | refine N.forkNo (by rw [decide_eq_false_iff_not]; omega) ?_ | refine N.forkNo (by simp; omega) ?_ | refine N.forkYes (by simp; omega) ?_ | fail_if_success skip)
          refine N.go ?_
          refine N.nextR (some ⟨i + 1, c, T⟩) [(0, 0), (1, 1)] ⟨⟨by show 1 ≤ i + 1; omega, by show i + 1 ≤ m; omega, by show fsN (i + 1) ≤ c; omega, fun j hj => i4 j (by have hj : j < fsN (i + 1) := hj; omega)⟩, by show m - (i + 1) < m - i; omega⟩ ?_
          simp only [e6]
          repeat' (refine N.go ?_; first | with_reducible refine N.obl (by decide) ?_ | with_reducible refine N.obl (flat_wi _ _ _) ?_ | with_reducible refine N.obl (flat_lim _ _) ?_ | with_reducible refine N.eq ?_ | with_reducible refine N.obl rfl ?_ | with_reducible refine N.obl ⟨by kernel_rfl, by kernel_rfl⟩ ?_ | with_reducible refine N.forkT ?_ | with_reducible refine N.forkF ?_ | exact N.true | refine N.obl (mlT_ren (fun _ _ => rfl)) ?_ | refine N.obl nil_ren ?_ | refine N.obl (air_ren (by rfl)) ?_ | refine N.obl (.plain (by rfl)) ?_ | refine N.obl (.one (.ptr rfl)) ?_ | refine N.obl (re_eq (int_eq (by rw [i64s _ (by omega) (by omega)]; omega)) rfl) ?_ | fail_if_success skip)
      · obtain rfl : i = m := by omega
        by_cases h5 : i < 512
        · have e5 : fsN i = i := if_pos h5
          have i3 : i ≤ c := by have := i3; simp only [e5] at this; exact this
          have i4 : ∀ j, j < i → T j = (j : Int) := by have := i4; simp only [e5] at this; exact this
          simp only [e5]
          repeat' (refine N.go ?_; first | with_reducible refine N.obl (by decide) ?_ | with_reducible refine N.obl (flat_wi _ _ _) ?_ | with_reducible refine N.obl (flat_lim _ _) ?_ | with_reducible refine N.eq ?_ | with_reducible refine N.obl rfl ?_ | with_reducible refine N.obl ⟨by kernel_rfl, by kernel_rfl⟩ ?_ | with_reducible refine N.forkT ?_ | with_reducible refine N.forkF ?_ | refine N.forkNo (by decide) ?_ | refine N.forkYes (by decide) ?_ | refine N.forkYes (by rw [decide_eq_true_eq]; omega) ?_ | refine N.forkNo (by rw [decide_eq_false_iff_not]; omega) ?_ | fail_if_success skip)
          refine N.go ?_
          refine N.callAll (cDoubleB 2 0 1 i c T _ (by rfl) (by rfl) (by decide) i1 i3 h5 (by rfl)) fun v ms hR => ?_
          obtain ⟨rfl, ⟨hr, rfl⟩ | ⟨c', hc', hcn, rfl⟩⟩ := hR
          · have q1 : setT T i (T 0) 1 = 1 := by unfold setT; rw [if_neg (by omega)]; exact i4 1 (by omega)
            repeat' (refine N.go ?_; first | with_reducible refine N.obl (by decide) ?_ | with_reducible refine N.obl (flat_wi _ _ _) ?_ | with_reducible refine N.obl (flat_lim _ _) ?_ | with_reducible refine N.eq ?_ | with_reducible refine N.obl rfl ?_ | with_reducible refine N.obl ⟨by kernel_rfl, by kernel_rfl⟩ ?_ | with_reducible refine N.forkT ?_ | with_reducible refine N.forkF ?_ | refine N.call (cLen1 0 _ c 1 _ _ (by rfl) (by rfl)) ?_ | refine N.call (cTake 0 1 _ c (setT T i (T 0)) _ (by rfl) (by rfl) (by decide) (by omega) (by omega) (by omega) (by omega)) ?_ | refine N.forkNo (by decide) ?_ | refine N.forkYes (by decide) ?_ | refine N.forkYes (by rw [decide_eq_true_eq]; omega) ?_ | refine N.forkNo (by rw [decide_eq_false_iff_not]; omega) ?_ | refine N.forkNo (by simp; omega) ?_ | refine N.forkYes (by simp; omega) ?_ | refine N.forkNo (by rw [bne_eq_false_iff_eq, i64s _ (by omega) (by omega)]; omega) ?_ | refine N.forkYes (by rw [q1]; rfl) ?_ | refine N.min2 ?_ | fail_if_success skip)
            refine N.go ?_
            refine N.callAll (cPutB 0 7 0 1 (i + 1 - 1) c (delT (setT T i (T 0)) (i + 1)) _ (by rfl) (by rfl) (by decide) (by omega) (by omega) (by omega) (by rfl)) fun v ms hR => ?_
            obtain ⟨rfl, ⟨hr2, rfl⟩ | ⟨c2, hc2, hcn2, rfl⟩⟩ := hR
            · (repeat' (refine N.go ?_; first | with_reducible refine N.obl (by decide) ?_ | with_reducible refine N.obl (flat_wi _ _ _) ?_ | with_reducible refine N.obl (flat_lim _ _) ?_ | with_reducible refine N.eq ?_ | with_reducible refine N.obl rfl ?_ | with_reducible refine N.obl ⟨by kernel_rfl, by kernel_rfl⟩ ?_ | with_reducible refine N.forkT ?_ | with_reducible refine N.forkF ?_ | with_reducible refine N.call (cAwake23 _) ?_ | refine N.forkNo (by decide) ?_ | refine N.forkYes (by decide) ?_ | refine N.forkYes (by rw [decide_eq_true_eq]; omega) ?_ | refine N.forkNo (by rw [decide_eq_false_iff_not]; omega) ?_ | refine N.forkNo (by simp; omega) ?_ | refine N.forkYes (by simp; omega) ?_ | fail_if_success skip))
              all_goals rfl
            · (repeat' (refine N.go ?_; first | with_reducible refine N.obl (by decide) ?_ | with_reducible refine N.obl (flat_wi _ _ _) ?_ | with_reducible refine N.obl (flat_lim _ _) ?_ | with_reducible refine N.eq ?_ | with_reducible refine N.obl rfl ?_ | with_reducible refine N.obl ⟨by kernel_rfl, by kernel_rfl⟩ ?_ | with_reducible refine N.forkT ?_ | with_reducible refine N.forkF ?_ | with_reducible refine N.call (cAwake23 _) ?_ | refine N.forkNo (by decide) ?_ | refine N.forkYes (by decide) ?_ | refine N.forkYes (by rw [decide_eq_true_eq]; omega) ?_ | refine N.forkNo (by rw [decide_eq_false_iff_not]; omega) ?_ | refine N.forkNo (by simp; omega) ?_ | refine N.forkYes (by simp; omega) ?_ | fail_if_success skip))
              all_goals rfl
          · have q1 : growT T i (T 0) 1 = 1 := by unfold growT; rw [if_pos (by omega)]; exact i4 1 (by omega)
            repeat' (refine N.go ?_; first | with_reducible refine N.obl (by decide) ?_ | with_reducible refine N.obl (flat_wi _ _ _) ?_ | with_reducible refine N.obl (flat_lim _ _) ?_ | with_reducible refine N.eq ?_ | with_reducible refine N.obl rfl ?_ | with_reducible refine N.obl ⟨by kernel_rfl, by kernel_rfl⟩ ?_ | with_reducible refine N.forkT ?_ | with_reducible refine N.forkF ?_ | refine N.call (cLen1 0 _ c' 2 _ _ (by rfl) (by rfl)) ?_ | refine N.call (cTake 0 2 _ c' (growT T i (T 0)) _ (by rfl) (by rfl) (by decide) (by omega) (by omega) (by omega) (by omega)) ?_ | refine N.forkNo (by decide) ?_ | refine N.forkYes (by decide) ?_ | refine N.forkYes (by rw [decide_eq_true_eq]; omega) ?_ | refine N.forkNo (by rw [decide_eq_false_iff_not]; omega) ?_ | refine N.forkNo (by simp; omega) ?_ | refine N.forkYes (by simp; omega) ?_ | refine N.forkNo (by rw [bne_eq_false_iff_eq, i64s _ (by omega) (by omega)]; omega) ?_ | refine N.forkYes (by rw [q1]; rfl) ?_ | refine N.min2 ?_ | fail_if_success skip)
            refine N.go ?_
            refine N.callAll (cPutB 0 8 0 2 (i + 1 - 1) c' (delT (growT T i (T 0)) (i + 1)) _ (by rfl) (by rfl) (by decide) (by omega) (by omega) (by omega) (by rfl)) fun v ms hR => ?_
            obtain ⟨rfl, ⟨hr2, rfl⟩ | ⟨c2, hc2, hcn2, rfl⟩⟩ := hR
            · (repeat' (refine N.go ?_; first | with_reducible refine N.obl (by decide) ?_ | with_reducible refine N.obl (flat_wi _ _ _) ?_ | with_reducible refine N.obl (flat_lim _ _) ?_ | with_reducible refine N.eq ?_ | with_reducible refine N.obl rfl ?_ | with_reducible refine N.obl ⟨by kernel_rfl, by kernel_rfl⟩ ?_ | with_reducible refine N.forkT ?_ | with_reducible refine N.forkF ?_ | with_reducible refine N.call (cAwake23 _) ?_ | refine N.forkNo (by decide) ?_ | refine N.forkYes (by decide) ?_ | refine N.forkYes (by rw [decide_eq_true_eq]; omega) ?_ | refine N.forkNo (by rw [decide_eq_false_iff_not]; omega) ?_ | refine N.forkNo (by simp; omega) ?_ | refine N.forkYes (by simp; omega) ?_ | fail_if_success skip))
              all_goals rfl
            · (repeat' (refine N.go ?_; first | with_reducible refine N.obl (by decide) ?_ | with_reducible refine N.obl (flat_wi _ _ _) ?_ | with_reducible refine N.obl (flat_lim _ _) ?_ | with_reducible refine N.eq ?_ | with_reducible refine N.obl rfl ?_ | with_reducible refine N.obl ⟨by kernel_rfl, by kernel_rfl⟩ ?_ | with_reducible refine N.forkT ?_ | with_reducible refine N.forkF ?_ | with_reducible refine N.call (cAwake23 _) ?_ | refine N.forkNo (by decide) ?_ | refine N.forkYes (by decide) ?_ | refine N.forkYes (by rw [decide_eq_true_eq]; omega) ?_ | refine N.forkNo (by rw [decide_eq_false_iff_not]; omega) ?_ | refine N.forkNo (by simp; omega) ?_ | refine N.forkYes (by simp; omega) ?_ | fail_if_success skip))
              all_goals rfl
        · have e5 : fsN i = 512 := if_neg h5
          have i3 : 512 ≤ c := by have := i3; simp only [e5] at this; exact this
          have i4 : ∀ j, j < 512 → T j = (j : Int) := by have := i4; simp only [e5] at this; exact this
          have q1 : T 1 = 1 := i4 1 (by omega)
          simp only [e5]
          repeat' (refine N.go ?_; first | with_reducible refine N.obl (by decide) ?_ | with_reducible refine N.obl (flat_wi _ _ _) ?_ | with_reducible refine N.obl (flat_lim _ _) ?_ | with_reducible refine N.eq ?_ | with_reducible refine N.obl rfl ?_ | with_reducible refine N.obl ⟨by kernel_rfl, by kernel_rfl⟩ ?_ | with_reducible refine N.forkT ?_ | with_reducible refine N.forkF ?_ | refine N.call (cDoubleN _ _ 0 1 512 c T _ (by rfl) (by rfl) (by decide) (by decide) i3 rfl) ?_ | refine N.call (cLen1 0 _ c 1 _ _ (by rfl) (by rfl)) ?_ | refine N.call (cTake 0 1 _ c T _ (by rfl) (by rfl) (by decide) (by omega) (by omega) (by omega) (by omega)) ?_ | refine N.forkNo (by decide) ?_ | refine N.forkYes (by decide) ?_ | refine N.forkYes (by rw [decide_eq_true_eq]; omega) ?_ | refine N.forkNo (by rw [decide_eq_false_iff_not]; omega) ?_ | refine N.forkNo (by simp; omega) ?_ | refine N.forkYes (by simp; omega) ?_ | refine N.forkNo (by rw [bne_eq_false_iff_eq, i64s _ (by omega) (by omega)]; omega) ?_ | refine N.forkYes (by rw [q1]; rfl) ?_ | refine N.min2 ?_ | fail_if_success skip)
          refine N.go ?_
          refine N.callAll (cPutB 0 7 0 1 (512 - 1) c (delT T 512) _ (by rfl) (by rfl) (by decide) (by omega) (by omega) (by omega) (by rfl)) fun v ms hR => ?_
          obtain ⟨rfl, ⟨hr2, rfl⟩ | ⟨c2, hc2, hcn2, rfl⟩⟩ := hR
          · (repeat' (refine N.go ?_; first | with_reducible refine N.obl (by decide) ?_ | with_reducible refine N.obl (flat_wi _ _ _) ?_ | with_reducible refine N.obl (flat_lim _ _) ?_ | with_reducible refine N.eq ?_ | with_reducible refine N.obl rfl ?_ | with_reducible refine N.obl ⟨by kernel_rfl, by kernel_rfl⟩ ?_ | with_reducible refine N.forkT ?_ | with_reducible refine N.forkF ?_ | with_reducible refine N.call (cAwake23 _) ?_ | refine N.forkNo (by decide) ?_ | refine N.forkYes (by decide) ?_ | refine N.forkYes (by rw [decide_eq_true_eq]; omega) ?_ | refine N.forkNo (by rw [decide_eq_false_iff_not]; omega) ?_ | refine N.forkNo (by simp; omega) ?_ | refine N.forkYes (by simp; omega) ?_ | fail_if_success skip))
            all_goals rfl
          · (repeat' (refine N.go ?_; first | with_reducible refine N.obl (by decide) ?_ | with_reducible refine N.obl (flat_wi _ _ _) ?_ | with_reducible refine N.obl (flat_lim _ _) ?_ | with_reducible refine N.eq ?_ | with_reducible refine N.obl rfl ?_ | with_reducible refine N.obl ⟨by kernel_rfl, by kernel_rfl⟩ ?_ | with_reducible refine N.forkT ?_ | with_reducible refine N.forkF ?_ | with_reducible refine N.call (cAwake23 _) ?_ | refine N.forkNo (by decide) ?_ | refine N.forkYes (by decide) ?_ | refine N.forkYes (by rw [decide_eq_true_eq]; omega) ?_ | refine N.forkNo (by rw [decide_eq_false_iff_not]; omega) ?_ | refine N.forkNo (by simp; omega) ?_ | refine N.forkYes (by simp; omega) ?_ | fail_if_success skip))
            all_goals rfl
set_option maxRecDepth 100000 in
theorem lifted (os : Os) (started : os.Started) (H : Type) (enc : TypeId × Value → H) :
    ReturnsInHanded {} Try.checked os 6 .any (Rows.airFullSpec.pre6 enc Try.prog Try.f6 Rows.airFullRow.domain false) (Rows.airFullSpec.post enc Try.prog Try.f6 false true false false) := by
  refine law_lifted (C := Try.checked) (tb := 4) Try.own started (by kernel_rfl) Try.func6 Try.laidOut (by kernel_rfl) rfl Try.underlying4 rfl
    (fun ds hds => by match ds, hds with | [_], _ => rfl)
    (ChangeSpec.witness6 (enc := enc) (C := Try.checked) false ⟨#[], #[.int .i64 0], []⟩ 8 (by kernel_rfl) (by kernel_rfl) (by kernel_rfl) (by kernel_rfl)) ?_
  intro W base args ds p hval0 hA0 hsz0
  have hval : ∀ (j : Nat) t v, Try.f6.params[j]? = some t → args[j]? = some v → Value.okWide Try.prog W .any base t v := hval0
  have hA : DataW.TrodAll enc Try.prog W 0 (fun _ => true) true Try.f6.params.toList args.toList ds p := hA0
  have hsz : (DataW.weightsEach Try.prog Try.f6.params.toList ds).all (· ≤ reachBytes) = true := hsz0
  rw [Try.params6] at hA hval hsz
  obtain ⟨v0, vs0, d0, ds0, p0, q0, hargs, rfl, rfl, h0, r0⟩ := trodAll_cons hA
  obtain ⟨rfl, rfl, rfl⟩ := trodAll_nil r0
  obtain rfl : args = #[v0] := by cases args; simp_all
  obtain ⟨a0, rfl, rfl, rfl, w0⟩ := open_int Try.underlying3 (hval 0 _ v0 rfl rfl) h0
  exact walk a0 W

theorem proved : Rows.AirFullSaid :=
  OpenClaim.holds_of_wide 6 Try.f6 rfl rfl rfl rfl rfl rfl rfl ⟨rfl, rfl, rfl, rfl, rfl⟩ rfl rfl rfl rfl rfl (by kernel_rfl) Try.func6 (by kernel_rfl)
    (of_decide_eq_true (by kernel_rfl)) (by unfold Func.isWrapper; rw [if_neg (by decide +kernel)]; exact ⟨rfl, rfl⟩)
    (fun os started H enc _ => lifted os started H enc)
#print axioms proved
end Go.Proofs.Ytgikbmohmomgbaa.airFull
