/-
  The statement TwrSessions: for every input the law returns true.
-/
import Derived.Test.YtioohgocbpdkeaaRse
set_option linter.unusedVariables false
set_option linter.unusedSimpArgs false
namespace Go.Proofs.Ytioohgocbpdkeaa.twrSessions
open Go Go.ChangeShapes Go.WideShapes Go.ChangeAt Go.RowKit Sx

/-- What two sessions have in common. -/
def rel (a0 a1 a2 a3 a4 b0 b1 b2 b3 b4 A B T1 T4 T2 T3 S M Z : Int) : Prop := (((a0 = 0 ∧ A = 0) ∨ (a0 = 1 ∧ A = 1 ∧ a1 = T1 ∧ a3 = M) ∨ (a0 = 2 ∧ A = 2 ∧ a1 = T1 ∧ a3 = M ∧ a2 = T4)) ∧ ((b0 = 0 ∧ B = 0) ∨ (b0 = 1 ∧ B = 1 ∧ b1 = T2 ∧ b4 = S) ∨ (b0 = 2 ∧ B = 2 ∧ b1 = T2 ∧ b4 = S ∧ b2 = T3 ∧ b3 = Z)))
theorem k_poll (a0 a1 a2 a3 a4 b0 b1 b2 b3 b4 A B T1 T4 T2 T3 S M Z t m : Int) (h : rel a0 a1 a2 a3 a4 b0 b1 b2 b3 b4 A B T1 T4 T2 T3 S M Z) : rel (if (0 ≤ t ∧ t ≤ 70368744177664) then 1 else 0) (if (0 ≤ t ∧ t ≤ 70368744177664) then t else 0) 0 (if (0 ≤ t ∧ t ≤ 70368744177664) then m else 0) (if (0 ≤ t ∧ t ≤ 70368744177664) then 0 else 0) b0 b1 b2 b3 b4 (if (0 ≤ t ∧ t ≤ 70368744177664) then 1 else 0) B (if (0 ≤ t ∧ t ≤ 70368744177664) then t else 0) T4 T2 T3 S (if (0 ≤ t ∧ t ≤ 70368744177664) then m else M) Z := by
  unfold rel at h ⊢
  try unfold ansP
  try unfold endP
  by_cases c : (0 ≤ t ∧ t ≤ 70368744177664)
  · have d : (0 ≤ t ∧ t ≤ 70368744177664) := by omega
    simp only [if_pos c, if_pos d]
    rcases h with ⟨h1 | h1 | h1, h2 | h2 | h2⟩ <;> first | (exfalso; omega) | (simp [h1, h2]; done) | (simp [h1, h2]; omega)
  · have d : ¬ (0 ≤ t ∧ t ≤ 70368744177664) := by omega
    simp only [if_neg c, if_neg d]
    rcases h with ⟨h1 | h1 | h1, h2 | h2 | h2⟩ <;> first | (exfalso; omega) | (simp [h1, h2]; done) | (simp [h1, h2]; omega)
theorem k_gotpoll (a0 a1 a2 a3 a4 b0 b1 b2 b3 b4 A B T1 T4 T2 T3 S M Z t p : Int) (h : rel a0 a1 a2 a3 a4 b0 b1 b2 b3 b4 A B T1 T4 T2 T3 S M Z) : rel a0 a1 a2 a3 a4 (if (0 ≤ t ∧ t ≤ 70368744177664) then 1 else 0) (if (0 ≤ t ∧ t ≤ 70368744177664) then t else 0) 0 (if (0 ≤ t ∧ t ≤ 70368744177664) then 0 else 0) (if (0 ≤ t ∧ t ≤ 70368744177664) then p else 0) A (if (0 ≤ t ∧ t ≤ 70368744177664) then 1 else 0) T1 T4 (if (0 ≤ t ∧ t ≤ 70368744177664) then t else 0) T3 (if (0 ≤ t ∧ t ≤ 70368744177664) then p else 0) M Z := by
  unfold rel at h ⊢
  try unfold ansP
  try unfold endP
  by_cases c : (0 ≤ t ∧ t ≤ 70368744177664)
  · have d : (0 ≤ t ∧ t ≤ 70368744177664) := by omega
    simp only [if_pos c, if_pos d]
    rcases h with ⟨h1 | h1 | h1, h2 | h2 | h2⟩ <;> first | (exfalso; omega) | (simp [h1, h2]; done) | (simp [h1, h2]; omega)
  · have d : ¬ (0 ≤ t ∧ t ≤ 70368744177664) := by omega
    simp only [if_neg c, if_neg d]
    rcases h with ⟨h1 | h1 | h1, h2 | h2 | h2⟩ <;> first | (exfalso; omega) | (simp [h1, h2]; done) | (simp [h1, h2]; omega)
theorem k_gotresp (a0 a1 a2 a3 a4 b0 b1 b2 b3 b4 A B T1 T4 T2 T3 S M Z t m : Int) (h : rel a0 a1 a2 a3 a4 b0 b1 b2 b3 b4 A B T1 T4 T2 T3 S M Z) : rel (if (a3 = m ∧ ansP a0 a1 t) then 2 else a0) a1 (if (a3 = m ∧ ansP a0 a1 t) then t else a2) a3 a4 b0 b1 b2 b3 b4 (if ((0 ≤ t ∧ t ≤ 70368744177664) ∧ A = 1 ∧ m = M ∧ T1 ≤ t) then 2 else A) B T1 (if ((0 ≤ t ∧ t ≤ 70368744177664) ∧ A = 1 ∧ m = M ∧ T1 ≤ t) then t else T4) T2 T3 S M Z ∧ ((if (a3 = m ∧ ansP a0 a1 t) then true else false) = (if ((0 ≤ t ∧ t ≤ 70368744177664) ∧ A = 1 ∧ m = M ∧ T1 ≤ t) then true else false)) := by
  unfold rel at h ⊢
  try unfold ansP
  try unfold endP
  by_cases c : (a3 = m ∧ (a0 = 1 ∧ (0 ≤ t ∧ t ≤ 70368744177664) ∧ a1 ≤ t))
  · have d : ((0 ≤ t ∧ t ≤ 70368744177664) ∧ A = 1 ∧ m = M ∧ T1 ≤ t) := by omega
    simp only [if_pos c, if_pos d]
    rcases h with ⟨h1 | h1 | h1, h2 | h2 | h2⟩ <;> first | (exfalso; omega) | (simp [h1, h2]; done) | (simp [h1, h2]; omega)
  · have d : ¬ ((0 ≤ t ∧ t ≤ 70368744177664) ∧ A = 1 ∧ m = M ∧ T1 ≤ t) := by omega
    simp only [if_neg c, if_neg d]
    rcases h with ⟨h1 | h1 | h1, h2 | h2 | h2⟩ <;> first | (exfalso; omega) | (simp [h1, h2]; done) | (simp [h1, h2]; omega)
theorem k_final (a0 a1 a2 a3 a4 b0 b1 b2 b3 b4 A B T1 T4 T2 T3 S M Z t : Int) (h : rel a0 a1 a2 a3 a4 b0 b1 b2 b3 b4 A B T1 T4 T2 T3 S M Z) : rel (if endP a0 a2 t then 0 else a0) (if endP a0 a2 t then 0 else a1) (if endP a0 a2 t then 0 else a2) (if endP a0 a2 t then 0 else a3) (if endP a0 a2 t then 0 else a4) b0 b1 b2 b3 b4 (if ((0 ≤ t ∧ t ≤ 70368744177664) ∧ A = 2 ∧ T4 ≤ t) then 0 else A) B T1 T4 T2 T3 S M Z ∧ ((if endP a0 a2 t then IntKind.i64.wrap (a2 - a1) else 0) = (if ((0 ≤ t ∧ t ≤ 70368744177664) ∧ A = 2 ∧ T4 ≤ t) then IntKind.i64.wrap (T4 - T1) else 0) ∧ (if endP a0 a2 t then IntKind.i64.wrap (t - a2) else 0) = (if ((0 ≤ t ∧ t ≤ 70368744177664) ∧ A = 2 ∧ T4 ≤ t) then IntKind.i64.wrap (t - T4) else 0) ∧ (if endP a0 a2 t then true else false) = (if ((0 ≤ t ∧ t ≤ 70368744177664) ∧ A = 2 ∧ T4 ≤ t) then true else false)) := by
  unfold rel at h ⊢
  try unfold ansP
  try unfold endP
  by_cases c : (a0 = 2 ∧ (0 ≤ t ∧ t ≤ 70368744177664) ∧ a2 ≤ t)
  · have d : ((0 ≤ t ∧ t ≤ 70368744177664) ∧ A = 2 ∧ T4 ≤ t) := by omega
    simp only [if_pos c, if_pos d]
    rcases h with ⟨h1 | h1 | h1, h2 | h2 | h2⟩ <;> first | (exfalso; omega) | (simp [h1, h2]; done) | (simp [h1, h2]; omega)
  · have d : ¬ ((0 ≤ t ∧ t ≤ 70368744177664) ∧ A = 2 ∧ T4 ≤ t) := by omega
    simp only [if_neg c, if_neg d]
    rcases h with ⟨h1 | h1 | h1, h2 | h2 | h2⟩ <;> first | (exfalso; omega) | (simp [h1, h2]; done) | (simp [h1, h2]; omega)
theorem k_resp (a0 a1 a2 a3 a4 b0 b1 b2 b3 b4 A B T1 T4 T2 T3 S M Z t m : Int) (h : rel a0 a1 a2 a3 a4 b0 b1 b2 b3 b4 A B T1 T4 T2 T3 S M Z) : rel a0 a1 a2 a3 a4 (if ansP b0 b1 t then 2 else b0) b1 (if ansP b0 b1 t then t else b2) (if ansP b0 b1 t then m else b3) b4 A (if ((0 ≤ t ∧ t ≤ 70368744177664) ∧ B = 1 ∧ T2 ≤ t) then 2 else B) T1 T4 T2 (if ((0 ≤ t ∧ t ≤ 70368744177664) ∧ B = 1 ∧ T2 ≤ t) then t else T3) S M (if ((0 ≤ t ∧ t ≤ 70368744177664) ∧ B = 1 ∧ T2 ≤ t) then m else Z) ∧ ((if ansP b0 b1 t then true else false) = (if ((0 ≤ t ∧ t ≤ 70368744177664) ∧ B = 1 ∧ T2 ≤ t) then true else false)) := by
  unfold rel at h ⊢
  try unfold ansP
  try unfold endP
  by_cases c : (b0 = 1 ∧ (0 ≤ t ∧ t ≤ 70368744177664) ∧ b1 ≤ t)
  · have d : ((0 ≤ t ∧ t ≤ 70368744177664) ∧ B = 1 ∧ T2 ≤ t) := by omega
    simp only [if_pos c, if_pos d]
    rcases h with ⟨h1 | h1 | h1, h2 | h2 | h2⟩ <;> first | (exfalso; omega) | (simp [h1, h2]; done) | (simp [h1, h2]; omega)
  · have d : ¬ ((0 ≤ t ∧ t ≤ 70368744177664) ∧ B = 1 ∧ T2 ≤ t) := by omega
    simp only [if_neg c, if_neg d]
    rcases h with ⟨h1 | h1 | h1, h2 | h2 | h2⟩ <;> first | (exfalso; omega) | (simp [h1, h2]; done) | (simp [h1, h2]; omega)
theorem k_gotfinal (a0 a1 a2 a3 a4 b0 b1 b2 b3 b4 A B T1 T4 T2 T3 S M Z t r d m : Int) (h : rel a0 a1 a2 a3 a4 b0 b1 b2 b3 b4 A B T1 T4 T2 T3 S M Z) : rel a0 a1 a2 a3 a4 (if (b3 = m ∧ endP b0 b2 t) then 0 else b0) (if (b3 = m ∧ endP b0 b2 t) then 0 else b1) (if (b3 = m ∧ endP b0 b2 t) then 0 else b2) (if (b3 = m ∧ endP b0 b2 t) then 0 else b3) (if (b3 = m ∧ endP b0 b2 t) then 0 else b4) A (if ((0 ≤ t ∧ t ≤ 70368744177664) ∧ B = 2 ∧ m = Z ∧ T3 ≤ t) then 0 else B) T1 T4 T2 T3 S M Z ∧ ((if (b3 = m ∧ endP b0 b2 t) then r else 0) = (if ((0 ≤ t ∧ t ≤ 70368744177664) ∧ B = 2 ∧ m = Z ∧ T3 ≤ t) then r else 0) ∧ (if (b3 = m ∧ endP b0 b2 t) then IntKind.i64.wrap (b2 - b1) else 0) = (if ((0 ≤ t ∧ t ≤ 70368744177664) ∧ B = 2 ∧ m = Z ∧ T3 ≤ t) then IntKind.i64.wrap (T3 - T2) else 0) ∧ (if (b3 = m ∧ endP b0 b2 t) then d else 0) = (if ((0 ≤ t ∧ t ≤ 70368744177664) ∧ B = 2 ∧ m = Z ∧ T3 ≤ t) then d else 0) ∧ (if (b3 = m ∧ endP b0 b2 t) then IntKind.i64.wrap (t - b2) else 0) = (if ((0 ≤ t ∧ t ≤ 70368744177664) ∧ B = 2 ∧ m = Z ∧ T3 ≤ t) then IntKind.i64.wrap (t - T3) else 0) ∧ (if (b3 = m ∧ endP b0 b2 t) then b4 else 0) = (if ((0 ≤ t ∧ t ≤ 70368744177664) ∧ B = 2 ∧ m = Z ∧ T3 ≤ t) then S else 0) ∧ (if (b3 = m ∧ endP b0 b2 t) then true else false) = (if ((0 ≤ t ∧ t ≤ 70368744177664) ∧ B = 2 ∧ m = Z ∧ T3 ≤ t) then true else false)) := by
  unfold rel at h ⊢
  try unfold ansP
  try unfold endP
  by_cases c : (b3 = m ∧ (b0 = 2 ∧ (0 ≤ t ∧ t ≤ 70368744177664) ∧ b2 ≤ t))
  · have d : ((0 ≤ t ∧ t ≤ 70368744177664) ∧ B = 2 ∧ m = Z ∧ T3 ≤ t) := by omega
    simp only [if_pos c, if_pos d]
    rcases h with ⟨h1 | h1 | h1, h2 | h2 | h2⟩ <;> first | (exfalso; omega) | (simp [h1, h2]; done) | (simp [h1, h2]; omega)
  · have d : ¬ ((0 ≤ t ∧ t ≤ 70368744177664) ∧ B = 2 ∧ m = Z ∧ T3 ≤ t) := by omega
    simp only [if_neg c, if_neg d]
    rcases h with ⟨h1 | h1 | h1, h2 | h2 | h2⟩ <;> first | (exfalso; omega) | (simp [h1, h2]; done) | (simp [h1, h2]; omega)
structure SS where
  i : Nat
  a0 : Int
  a1 : Int
  a2 : Int
  a3 : Int
  a4 : Int
  b0 : Int
  b1 : Int
  b2 : Int
  b3 : Int
  b4 : Int
  A : Int
  B : Int
  T1 : Int
  T4 : Int
  T2 : Int
  T3 : Int
  S : Int
  M : Int
  Z : Int
abbrev csS (s : SS) : Chunk := ses s.a0 s.a1 s.a2 s.a3 s.a4 s.b0 s.b1 s.b2 s.b3 s.b4
abbrev csR (s : SS) : Chunk := rse s.A s.B s.T1 s.T4 s.T2 s.T3 s.S s.M s.Z
def relS (s : SS) : Prop := rel s.a0 s.a1 s.a2 s.a3 s.a4 s.b0 s.b1 s.b2 s.b3 s.b4 s.A s.B s.T1 s.T4 s.T2 s.T3 s.S s.M s.Z
theorem row6 {n i p : Nat} {f : Nat → Value} {cl : Nat → Nat → Int} (hf : ∀ i, i < n → ∀ j, j < 6 → f (i * 6 + j) = .int .i64 (cl i j)) (hi : i < n) (hp : p = i * 6) :
    Reads ⟨false, n * 6, [(0, n * 6, .agg ⟨segL (n * 6) f⟩)]⟩ p true 6 (.agg ⟨[.int .i64 (cl i 0), .int .i64 (cl i 1), .int .i64 (cl i 2), .int .i64 (cl i 3), .int .i64 (cl i 4), .int .i64 (cl i 5)]⟩) := by
  subst hp
  refine reads_seg _ (by omega) rfl fun j hj => ?_
  rw [hf i hi j hj]
  match j, hj with
  | 0, _ => rfl
  | 1, _ => rfl
  | 2, _ => rfl
  | 3, _ => rfl
  | 4, _ => rfl
  | 5, _ => rfl
set_option maxRecDepth 100000 in
set_option maxHeartbeats 8000000 in
theorem walk (a : Addr) (n cap : Nat) (f : Nat → Value) (cl : Nat → Nat → Int) (w : World) (hn : n ≤ 9223372036854775807) (hs : SeenIn w ⟨a, n * 6, f⟩) (hf : ∀ i, i < n → ∀ j, j < 6 → f (i * 6 + j) = .int .i64 (cl i j)) :
    Calls Try.prog 10 #[.slice (some a) n cap] w fun o w' => o = .returned (.bool true) ∧ Below w.heap.size w w' := by
  have hl : ∀ j, j < n * 6 → lit1 (f j) = true := rows_lit (by decide) fun i hi j hj => by rw [hf i hi j hj]; rfl
  refine calls_args (G := tys) (vs := [.slice (some ⟨0, 0, some 0⟩) n cap]) [⟨a, n * 6, f⟩] w tysOK mixed Try.func10 (by rfl) (by simpa using hs) ⟨.slice rfl, trivial⟩ rfl ?_
  repeat' (refine N.go ?_; first | with_reducible refine N.obl (by decide) ?_ | with_reducible refine N.obl (flat_wi _ _ _) ?_ | with_reducible refine N.obl (flat_lim _ _) ?_ | with_reducible refine N.eq ?_ | with_reducible refine N.obl rfl ?_ | with_reducible refine N.obl ⟨by kernel_rfl, by kernel_rfl⟩ ?_ | with_reducible refine N.forkT ?_ | with_reducible refine N.forkF ?_ | refine N.call (cNew 0 _ (by rfl)) ?_ | refine N.call (cNew 1 _ (by rfl)) ?_ | refine N.call (cNew 2 _ (by rfl)) ?_ | refine N.call (cNew 3 _ (by rfl)) ?_ | refine N.call (cNew 4 _ (by rfl)) ?_ | refine N.call (cNew 5 _ (by rfl)) ?_ | refine N.forkNo (by decide) ?_ | refine N.forkYes (by decide) ?_)
  refine N.go ?_
  refine N.loop (α := SS) (fun s => s.i ≤ n ∧ relS s) (fun s => n - s.i) (fun s => [(27, .int .i64 (s.i : Int))]) (fun s => [(1, csS s), (3, csR s)]) ⟨0, 0, 0, 0, 0, 0, 0, 0, 0, 0, 0, 0, 0, 0, 0, 0, 0, 0, 0, 0⟩ ⟨Nat.zero_le _, by unfold relS rel; decide⟩ ?_ ?_
  · repeat (refine N.go ?_; first | exact N.true | with_reducible refine N.obl rfl ?_ | with_reducible refine N.obl (ChunkLe.refl _) ?_ | refine N.obl (int_i64 (by rw [IntWalk.i64_in _ (by omega)]; rfl)) ?_ | refine N.obl (by first | trivial | rfl) ?_ | refine N.obl (safe_agg (by rfl)) ?_ | refine N.obl (safe_seg hl) ?_ | refine N.obl (safe_row rfl (by rfl)) ?_)
  · intro x hx
    obtain ⟨hi, hrel⟩ := hx
    have hi : x.i ≤ n := hi
    have hrel : rel x.a0 x.a1 x.a2 x.a3 x.a4 x.b0 x.b1 x.b2 x.b3 x.b4 x.A x.B x.T1 x.T4 x.T2 x.T3 x.S x.M x.Z := hrel
    by_cases hlt : x.i < n
    · refine N.go ?_
      refine N.forkYes (by simpa using hlt) ?_
      refine N.go ?_
      refine N.idx x.i 1 rfl hlt ?_
      refine N.go ?_
      refine N.load _ (row6 hf hlt (by first | rfl | (show 0 + x.i * 6 = x.i * 6; omega))) ?_
      repeat' (refine N.go ?_; first | with_reducible refine N.obl (by decide) ?_ | with_reducible refine N.obl (flat_wi _ _ _) ?_ | with_reducible refine N.obl (flat_lim _ _) ?_ | with_reducible refine N.eq ?_ | with_reducible refine N.obl rfl ?_ | with_reducible refine N.obl ⟨by kernel_rfl, by kernel_rfl⟩ ?_ | with_reducible refine N.forkT ?_ | with_reducible refine N.forkF ?_)
      refine N.go ?_
      refine N.fork (fun hb => ?_) (fun hb => ?_)
      · repeat' (refine N.go ?_; first | with_reducible refine N.obl (by decide) ?_ | with_reducible refine N.obl (flat_wi _ _ _) ?_ | with_reducible refine N.obl (flat_lim _ _) ?_ | with_reducible refine N.eq ?_ | with_reducible refine N.obl rfl ?_ | with_reducible refine N.obl ⟨by kernel_rfl, by kernel_rfl⟩ ?_ | with_reducible refine N.forkT ?_ | with_reducible refine N.forkF ?_ | with_reducible refine N.call (cAwake15 _) ?_)
        all_goals rfl
      · skip
        repeat' (refine N.go ?_; first | with_reducible refine N.obl (by decide) ?_ | with_reducible refine N.obl (flat_wi _ _ _) ?_ | with_reducible refine N.obl (flat_lim _ _) ?_ | with_reducible refine N.eq ?_ | with_reducible refine N.obl rfl ?_ | with_reducible refine N.obl ⟨by kernel_rfl, by kernel_rfl⟩ ?_ | with_reducible refine N.forkT ?_ | with_reducible refine N.forkF ?_)
        refine N.go ?_
        refine N.fork (fun hb => ?_) (fun hb => ?_)
        · skip
          have K := k_poll x.a0 x.a1 x.a2 x.a3 x.a4 x.b0 x.b1 x.b2 x.b3 x.b4 x.A x.B x.T1 x.T4 x.T2 x.T3 x.S x.M x.Z (cl x.i 1) (cl x.i 2) hrel
          repeat' (refine N.go ?_; first | with_reducible refine N.obl (by decide) ?_ | with_reducible refine N.obl (flat_wi _ _ _) ?_ | with_reducible refine N.obl (flat_lim _ _) ?_ | with_reducible refine N.eq ?_ | with_reducible refine N.obl rfl ?_ | with_reducible refine N.obl ⟨by kernel_rfl, by kernel_rfl⟩ ?_ | with_reducible refine N.forkT ?_ | with_reducible refine N.forkF ?_ | refine N.call (cPollS _ _ _ _ _ _ _ _ _ _ _ _ _ _ (by rfl)) ?_ | refine N.call (rPoll _ _ _ _ _ _ _ _ _ _ _ _ _ (by rfl)) ?_ | refine N.forkNo (by decide) ?_ | refine N.forkYes (by decide) ?_ | fail_if_success skip)
          refine N.go ?_
          refine N.next ⟨x.i + 1, (if (0 ≤ (cl x.i 1) ∧ (cl x.i 1) ≤ 70368744177664) then 1 else 0), (if (0 ≤ (cl x.i 1) ∧ (cl x.i 1) ≤ 70368744177664) then (cl x.i 1) else 0), 0, (if (0 ≤ (cl x.i 1) ∧ (cl x.i 1) ≤ 70368744177664) then (cl x.i 2) else 0), (if (0 ≤ (cl x.i 1) ∧ (cl x.i 1) ≤ 70368744177664) then 0 else 0), x.b0, x.b1, x.b2, x.b3, x.b4, (if (0 ≤ (cl x.i 1) ∧ (cl x.i 1) ≤ 70368744177664) then 1 else 0), x.B, (if (0 ≤ (cl x.i 1) ∧ (cl x.i 1) ≤ 70368744177664) then (cl x.i 1) else 0), x.T4, x.T2, x.T3, x.S, (if (0 ≤ (cl x.i 1) ∧ (cl x.i 1) ≤ 70368744177664) then (cl x.i 2) else x.M), x.Z⟩ ⟨⟨by show x.i + 1 ≤ n; omega, K⟩, by show n - (x.i + 1) < n - x.i; omega⟩ ?_
          repeat (refine N.go ?_; first | exact N.true | with_reducible refine N.obl rfl ?_ | with_reducible refine N.obl (ChunkLe.refl _) ?_ | refine N.obl (int_i64 (by rw [IntWalk.i64_in _ (by omega)]; rfl)) ?_ | refine N.obl (by first | trivial | rfl) ?_ | refine N.obl (safe_agg (by rfl)) ?_ | refine N.obl (safe_seg hl) ?_ | refine N.obl (safe_row rfl (by rfl)) ?_)
        · skip
          repeat' (refine N.go ?_; first | with_reducible refine N.obl (by decide) ?_ | with_reducible refine N.obl (flat_wi _ _ _) ?_ | with_reducible refine N.obl (flat_lim _ _) ?_ | with_reducible refine N.eq ?_ | with_reducible refine N.obl rfl ?_ | with_reducible refine N.obl ⟨by kernel_rfl, by kernel_rfl⟩ ?_ | with_reducible refine N.forkT ?_ | with_reducible refine N.forkF ?_)
          refine N.go ?_
          refine N.fork (fun hb => ?_) (fun hb => ?_)
          · skip
            have K := k_gotresp x.a0 x.a1 x.a2 x.a3 x.a4 x.b0 x.b1 x.b2 x.b3 x.b4 x.A x.B x.T1 x.T4 x.T2 x.T3 x.S x.M x.Z (cl x.i 1) (cl x.i 2) hrel
            repeat' (refine N.go ?_; first | with_reducible refine N.obl (by decide) ?_ | with_reducible refine N.obl (flat_wi _ _ _) ?_ | with_reducible refine N.obl (flat_lim _ _) ?_ | with_reducible refine N.eq ?_ | with_reducible refine N.obl rfl ?_ | with_reducible refine N.obl ⟨by kernel_rfl, by kernel_rfl⟩ ?_ | with_reducible refine N.forkT ?_ | with_reducible refine N.forkF ?_ | refine N.call (cGotRespS _ _ _ _ _ _ _ _ _ _ _ _ _ _ (by rfl)) ?_ | refine N.call (rGotResp _ _ _ _ _ _ _ _ _ _ _ _ _ (by rfl)) ?_ | with_reducible refine N.bin _ (eq_timing _ _ _ _ _ _ _ _ _ _) ?_ | refine N.forkYes (by simp [K.2]; first | done | fail) ?_ | refine N.forkNo (by simp [K.2]; first | done | fail) ?_ | refine N.forkNo (by decide) ?_ | refine N.forkYes (by decide) ?_ | fail_if_success skip)
            refine N.go ?_
            refine N.next ⟨x.i + 1, (if (x.a3 = (cl x.i 2) ∧ ansP x.a0 x.a1 (cl x.i 1)) then 2 else x.a0), x.a1, (if (x.a3 = (cl x.i 2) ∧ ansP x.a0 x.a1 (cl x.i 1)) then (cl x.i 1) else x.a2), x.a3, x.a4, x.b0, x.b1, x.b2, x.b3, x.b4, (if ((0 ≤ (cl x.i 1) ∧ (cl x.i 1) ≤ 70368744177664) ∧ x.A = 1 ∧ (cl x.i 2) = x.M ∧ x.T1 ≤ (cl x.i 1)) then 2 else x.A), x.B, x.T1, (if ((0 ≤ (cl x.i 1) ∧ (cl x.i 1) ≤ 70368744177664) ∧ x.A = 1 ∧ (cl x.i 2) = x.M ∧ x.T1 ≤ (cl x.i 1)) then (cl x.i 1) else x.T4), x.T2, x.T3, x.S, x.M, x.Z⟩ ⟨⟨by show x.i + 1 ≤ n; omega, K.1⟩, by show n - (x.i + 1) < n - x.i; omega⟩ ?_
            repeat (refine N.go ?_; first | exact N.true | with_reducible refine N.obl rfl ?_ | with_reducible refine N.obl (ChunkLe.refl _) ?_ | refine N.obl (int_i64 (by rw [IntWalk.i64_in _ (by omega)]; rfl)) ?_ | refine N.obl (by first | trivial | rfl) ?_ | refine N.obl (safe_agg (by rfl)) ?_ | refine N.obl (safe_seg hl) ?_ | refine N.obl (safe_row rfl (by rfl)) ?_)
          · skip
            repeat' (refine N.go ?_; first | with_reducible refine N.obl (by decide) ?_ | with_reducible refine N.obl (flat_wi _ _ _) ?_ | with_reducible refine N.obl (flat_lim _ _) ?_ | with_reducible refine N.eq ?_ | with_reducible refine N.obl rfl ?_ | with_reducible refine N.obl ⟨by kernel_rfl, by kernel_rfl⟩ ?_ | with_reducible refine N.forkT ?_ | with_reducible refine N.forkF ?_)
            refine N.go ?_
            refine N.fork (fun hb => ?_) (fun hb => ?_)
            · skip
              have K := k_final x.a0 x.a1 x.a2 x.a3 x.a4 x.b0 x.b1 x.b2 x.b3 x.b4 x.A x.B x.T1 x.T4 x.T2 x.T3 x.S x.M x.Z (cl x.i 1) hrel
              repeat' (refine N.go ?_; first | with_reducible refine N.obl (by decide) ?_ | with_reducible refine N.obl (flat_wi _ _ _) ?_ | with_reducible refine N.obl (flat_lim _ _) ?_ | with_reducible refine N.eq ?_ | with_reducible refine N.obl rfl ?_ | with_reducible refine N.obl ⟨by kernel_rfl, by kernel_rfl⟩ ?_ | with_reducible refine N.forkT ?_ | with_reducible refine N.forkF ?_ | refine N.call (cFinalS _ _ _ _ _ _ _ _ _ _ _ _ _ (by rfl)) ?_ | refine N.call (rFinal _ _ _ _ _ _ _ _ _ _ _ _ (by rfl)) ?_ | with_reducible refine N.bin _ (eq_timing _ _ _ _ _ _ _ _ _ _) ?_ | refine N.forkYes (by simp [K.2]; first | done | fail) ?_ | refine N.forkNo (by simp [K.2]; first | done | fail) ?_ | refine N.forkNo (by decide) ?_ | refine N.forkYes (by decide) ?_ | fail_if_success skip)
              refine N.go ?_
              refine N.next ⟨x.i + 1, (if endP x.a0 x.a2 (cl x.i 1) then 0 else x.a0), (if endP x.a0 x.a2 (cl x.i 1) then 0 else x.a1), (if endP x.a0 x.a2 (cl x.i 1) then 0 else x.a2), (if endP x.a0 x.a2 (cl x.i 1) then 0 else x.a3), (if endP x.a0 x.a2 (cl x.i 1) then 0 else x.a4), x.b0, x.b1, x.b2, x.b3, x.b4, (if ((0 ≤ (cl x.i 1) ∧ (cl x.i 1) ≤ 70368744177664) ∧ x.A = 2 ∧ x.T4 ≤ (cl x.i 1)) then 0 else x.A), x.B, x.T1, x.T4, x.T2, x.T3, x.S, x.M, x.Z⟩ ⟨⟨by show x.i + 1 ≤ n; omega, K.1⟩, by show n - (x.i + 1) < n - x.i; omega⟩ ?_
              repeat (refine N.go ?_; first | exact N.true | with_reducible refine N.obl rfl ?_ | with_reducible refine N.obl (ChunkLe.refl _) ?_ | refine N.obl (int_i64 (by rw [IntWalk.i64_in _ (by omega)]; rfl)) ?_ | refine N.obl (by first | trivial | rfl) ?_ | refine N.obl (safe_agg (by rfl)) ?_ | refine N.obl (safe_seg hl) ?_ | refine N.obl (safe_row rfl (by rfl)) ?_)
            · skip
              repeat' (refine N.go ?_; first | with_reducible refine N.obl (by decide) ?_ | with_reducible refine N.obl (flat_wi _ _ _) ?_ | with_reducible refine N.obl (flat_lim _ _) ?_ | with_reducible refine N.eq ?_ | with_reducible refine N.obl rfl ?_ | with_reducible refine N.obl ⟨by kernel_rfl, by kernel_rfl⟩ ?_ | with_reducible refine N.forkT ?_ | with_reducible refine N.forkF ?_)
              refine N.go ?_
              refine N.fork (fun hb => ?_) (fun hb => ?_)
              · skip
                have K := k_gotpoll x.a0 x.a1 x.a2 x.a3 x.a4 x.b0 x.b1 x.b2 x.b3 x.b4 x.A x.B x.T1 x.T4 x.T2 x.T3 x.S x.M x.Z (cl x.i 1) (cl x.i 3) hrel
                repeat' (refine N.go ?_; first | with_reducible refine N.obl (by decide) ?_ | with_reducible refine N.obl (flat_wi _ _ _) ?_ | with_reducible refine N.obl (flat_lim _ _) ?_ | with_reducible refine N.eq ?_ | with_reducible refine N.obl rfl ?_ | with_reducible refine N.obl ⟨by kernel_rfl, by kernel_rfl⟩ ?_ | with_reducible refine N.forkT ?_ | with_reducible refine N.forkF ?_ | refine N.call (cGotPollS _ _ _ _ _ _ _ _ _ _ _ _ _ _ (by rfl)) ?_ | refine N.call (rGotPoll _ _ _ _ _ _ _ _ _ _ _ _ _ (by rfl)) ?_ | refine N.forkNo (by decide) ?_ | refine N.forkYes (by decide) ?_ | fail_if_success skip)
                refine N.go ?_
                refine N.next ⟨x.i + 1, x.a0, x.a1, x.a2, x.a3, x.a4, (if (0 ≤ (cl x.i 1) ∧ (cl x.i 1) ≤ 70368744177664) then 1 else 0), (if (0 ≤ (cl x.i 1) ∧ (cl x.i 1) ≤ 70368744177664) then (cl x.i 1) else 0), 0, (if (0 ≤ (cl x.i 1) ∧ (cl x.i 1) ≤ 70368744177664) then 0 else 0), (if (0 ≤ (cl x.i 1) ∧ (cl x.i 1) ≤ 70368744177664) then (cl x.i 3) else 0), x.A, (if (0 ≤ (cl x.i 1) ∧ (cl x.i 1) ≤ 70368744177664) then 1 else 0), x.T1, x.T4, (if (0 ≤ (cl x.i 1) ∧ (cl x.i 1) ≤ 70368744177664) then (cl x.i 1) else 0), x.T3, (if (0 ≤ (cl x.i 1) ∧ (cl x.i 1) ≤ 70368744177664) then (cl x.i 3) else 0), x.M, x.Z⟩ ⟨⟨by show x.i + 1 ≤ n; omega, K⟩, by show n - (x.i + 1) < n - x.i; omega⟩ ?_
                repeat (refine N.go ?_; first | exact N.true | with_reducible refine N.obl rfl ?_ | with_reducible refine N.obl (ChunkLe.refl _) ?_ | refine N.obl (int_i64 (by rw [IntWalk.i64_in _ (by omega)]; rfl)) ?_ | refine N.obl (by first | trivial | rfl) ?_ | refine N.obl (safe_agg (by rfl)) ?_ | refine N.obl (safe_seg hl) ?_ | refine N.obl (safe_row rfl (by rfl)) ?_)
              · skip
                repeat' (refine N.go ?_; first | with_reducible refine N.obl (by decide) ?_ | with_reducible refine N.obl (flat_wi _ _ _) ?_ | with_reducible refine N.obl (flat_lim _ _) ?_ | with_reducible refine N.eq ?_ | with_reducible refine N.obl rfl ?_ | with_reducible refine N.obl ⟨by kernel_rfl, by kernel_rfl⟩ ?_ | with_reducible refine N.forkT ?_ | with_reducible refine N.forkF ?_)
                refine N.go ?_
                refine N.fork (fun hb => ?_) (fun hb => ?_)
                · skip
                  have K := k_resp x.a0 x.a1 x.a2 x.a3 x.a4 x.b0 x.b1 x.b2 x.b3 x.b4 x.A x.B x.T1 x.T4 x.T2 x.T3 x.S x.M x.Z (cl x.i 1) (cl x.i 2) hrel
                  repeat' (refine N.go ?_; first | with_reducible refine N.obl (by decide) ?_ | with_reducible refine N.obl (flat_wi _ _ _) ?_ | with_reducible refine N.obl (flat_lim _ _) ?_ | with_reducible refine N.eq ?_ | with_reducible refine N.obl rfl ?_ | with_reducible refine N.obl ⟨by kernel_rfl, by kernel_rfl⟩ ?_ | with_reducible refine N.forkT ?_ | with_reducible refine N.forkF ?_ | refine N.call (cRespS _ _ _ _ _ _ _ _ _ _ _ _ _ _ (by rfl)) ?_ | refine N.call (rResp _ _ _ _ _ _ _ _ _ _ _ _ _ (by rfl)) ?_ | with_reducible refine N.bin _ (eq_timing _ _ _ _ _ _ _ _ _ _) ?_ | refine N.forkYes (by simp [K.2]; first | done | fail) ?_ | refine N.forkNo (by simp [K.2]; first | done | fail) ?_ | refine N.forkNo (by decide) ?_ | refine N.forkYes (by decide) ?_ | fail_if_success skip)
                  refine N.go ?_
                  refine N.next ⟨x.i + 1, x.a0, x.a1, x.a2, x.a3, x.a4, (if ansP x.b0 x.b1 (cl x.i 1) then 2 else x.b0), x.b1, (if ansP x.b0 x.b1 (cl x.i 1) then (cl x.i 1) else x.b2), (if ansP x.b0 x.b1 (cl x.i 1) then (cl x.i 2) else x.b3), x.b4, x.A, (if ((0 ≤ (cl x.i 1) ∧ (cl x.i 1) ≤ 70368744177664) ∧ x.B = 1 ∧ x.T2 ≤ (cl x.i 1)) then 2 else x.B), x.T1, x.T4, x.T2, (if ((0 ≤ (cl x.i 1) ∧ (cl x.i 1) ≤ 70368744177664) ∧ x.B = 1 ∧ x.T2 ≤ (cl x.i 1)) then (cl x.i 1) else x.T3), x.S, x.M, (if ((0 ≤ (cl x.i 1) ∧ (cl x.i 1) ≤ 70368744177664) ∧ x.B = 1 ∧ x.T2 ≤ (cl x.i 1)) then (cl x.i 2) else x.Z)⟩ ⟨⟨by show x.i + 1 ≤ n; omega, K.1⟩, by show n - (x.i + 1) < n - x.i; omega⟩ ?_
                  repeat (refine N.go ?_; first | exact N.true | with_reducible refine N.obl rfl ?_ | with_reducible refine N.obl (ChunkLe.refl _) ?_ | refine N.obl (int_i64 (by rw [IntWalk.i64_in _ (by omega)]; rfl)) ?_ | refine N.obl (by first | trivial | rfl) ?_ | refine N.obl (safe_agg (by rfl)) ?_ | refine N.obl (safe_seg hl) ?_ | refine N.obl (safe_row rfl (by rfl)) ?_)
                · skip
                  have K := k_gotfinal x.a0 x.a1 x.a2 x.a3 x.a4 x.b0 x.b1 x.b2 x.b3 x.b4 x.A x.B x.T1 x.T4 x.T2 x.T3 x.S x.M x.Z (cl x.i 1) (cl x.i 4) (cl x.i 5) (cl x.i 2) hrel
                  repeat' (refine N.go ?_; first | with_reducible refine N.obl (by decide) ?_ | with_reducible refine N.obl (flat_wi _ _ _) ?_ | with_reducible refine N.obl (flat_lim _ _) ?_ | with_reducible refine N.eq ?_ | with_reducible refine N.obl rfl ?_ | with_reducible refine N.obl ⟨by kernel_rfl, by kernel_rfl⟩ ?_ | with_reducible refine N.forkT ?_ | with_reducible refine N.forkF ?_ | refine N.call (cGotFinalS _ _ _ _ _ _ _ _ _ _ _ _ _ _ _ _ (by rfl)) ?_ | refine N.call (rGotFinal _ _ _ _ _ _ _ _ _ _ _ _ _ _ _ (by rfl)) ?_ | with_reducible refine N.bin _ (eq_timing _ _ _ _ _ _ _ _ _ _) ?_ | refine N.forkYes (by simp [K.2]; first | done | fail) ?_ | refine N.forkNo (by simp [K.2]; first | done | fail) ?_ | refine N.forkNo (by decide) ?_ | refine N.forkYes (by decide) ?_ | fail_if_success skip)
                  refine N.go ?_
                  refine N.next ⟨x.i + 1, x.a0, x.a1, x.a2, x.a3, x.a4, (if (x.b3 = (cl x.i 2) ∧ endP x.b0 x.b2 (cl x.i 1)) then 0 else x.b0), (if (x.b3 = (cl x.i 2) ∧ endP x.b0 x.b2 (cl x.i 1)) then 0 else x.b1), (if (x.b3 = (cl x.i 2) ∧ endP x.b0 x.b2 (cl x.i 1)) then 0 else x.b2), (if (x.b3 = (cl x.i 2) ∧ endP x.b0 x.b2 (cl x.i 1)) then 0 else x.b3), (if (x.b3 = (cl x.i 2) ∧ endP x.b0 x.b2 (cl x.i 1)) then 0 else x.b4), x.A, (if ((0 ≤ (cl x.i 1) ∧ (cl x.i 1) ≤ 70368744177664) ∧ x.B = 2 ∧ (cl x.i 2) = x.Z ∧ x.T3 ≤ (cl x.i 1)) then 0 else x.B), x.T1, x.T4, x.T2, x.T3, x.S, x.M, x.Z⟩ ⟨⟨by show x.i + 1 ≤ n; omega, K.1⟩, by show n - (x.i + 1) < n - x.i; omega⟩ ?_
                  repeat (refine N.go ?_; first | exact N.true | with_reducible refine N.obl rfl ?_ | with_reducible refine N.obl (ChunkLe.refl _) ?_ | refine N.obl (int_i64 (by rw [IntWalk.i64_in _ (by omega)]; rfl)) ?_ | refine N.obl (by first | trivial | rfl) ?_ | refine N.obl (safe_agg (by rfl)) ?_ | refine N.obl (safe_seg hl) ?_ | refine N.obl (safe_row rfl (by rfl)) ?_)
    · refine N.go ?_
      refine N.forkNo (by simpa using hlt) ?_
      repeat' (refine N.go ?_; first | with_reducible refine N.obl (by decide) ?_ | with_reducible refine N.obl (flat_wi _ _ _) ?_ | with_reducible refine N.obl (flat_lim _ _) ?_ | with_reducible refine N.eq ?_ | with_reducible refine N.obl rfl ?_ | with_reducible refine N.obl ⟨by kernel_rfl, by kernel_rfl⟩ ?_ | with_reducible refine N.forkT ?_ | with_reducible refine N.forkF ?_ | with_reducible refine N.call (cAwake15 _) ?_)
      all_goals rfl
set_option maxRecDepth 100000 in
theorem walk0 (w : World) : Calls Try.prog 10 #[.slice none 0 0] w fun o w' => o = .returned (.bool true) ∧ Below w.heap.size w w' := by
  refine calls_pure (G := tys) w tysOK mixed Try.func10 (by rfl) (by rfl) (by rfl) ?_
  repeat' (refine N.go ?_; first | with_reducible refine N.obl (by decide) ?_ | with_reducible refine N.obl (flat_wi _ _ _) ?_ | with_reducible refine N.obl (flat_lim _ _) ?_ | with_reducible refine N.eq ?_ | with_reducible refine N.obl rfl ?_ | with_reducible refine N.obl ⟨by kernel_rfl, by kernel_rfl⟩ ?_ | with_reducible refine N.forkT ?_ | with_reducible refine N.forkF ?_ | refine N.call (cNew 0 _ (by rfl)) ?_ | refine N.call (cNew 1 _ (by rfl)) ?_ | refine N.call (cNew 2 _ (by rfl)) ?_ | refine N.call (cNew 3 _ (by rfl)) ?_ | refine N.call (cNew 4 _ (by rfl)) ?_ | refine N.call (cNew 5 _ (by rfl)) ?_ | refine N.roll 1 ?_ | with_reducible refine N.call (cAwake15 _) ?_ | refine N.forkNo (by decide) ?_ | refine N.forkYes (by decide) ?_)
  all_goals rfl
set_option maxRecDepth 100000 in
theorem open_calls {H : Type} {enc : TypeId × Value → H} {W : World} {r : Reach} {base : Nat} {v : Value} {d : DataW H} {p : List MemPlace}
    (hv : Value.okWide Try.prog W r base 48 v) (h : DataW.Trod enc Try.prog W 0 (fun _ => true) true 48 v d p) :
    v = .slice none 0 0 ∨ ∃ (a : Addr) (n cap : Nat) (f : Nat → Value) (cl : Nat → Nat → Int), v = .slice (some a) n cap ∧ n ≤ 9223372036854775807 ∧ SeenIn W ⟨a, n * 6, f⟩ ∧ ∀ i, i < n → ∀ j, j < 6 → f (i * 6 + j) = .int .i64 (cl i j) := by
  have hsh := slice_shape Try.underlying48 hv
  obtain ⟨A, n, cap, f, rfl, hl, hm, hd, hseg, hrow⟩ := open_rows (C := 6) Try.underlying48 (by kernel_rfl) h hsh
  cases A with
  | none =>
    obtain ⟨rfl, rfl⟩ := okWide_nil Try.underlying48 hv
    exact .inl rfl
  | some a =>
    have hf : ∀ i, i < n → ∀ j, j < 6 → f (i * 6 + j) = .int .i64 (intOf (f (i * 6 + j))) := by
      intro i hi j hj
      obtain ⟨x, fuel, cs, ht, hcl, hc⟩ := hrow i hi
      match j, hj with
      | 0, _ => exact (leaf_int (d := 3) (l := 3) (j := 0) (by kernel_rfl) (@Try.underlying3) (hc 0 (by omega)) ht).1
      | 1, _ => exact (leaf_int (d := 3) (l := 2) (j := 1) (by kernel_rfl) (@Try.underlying2) (hc 1 (by omega)) ht).1
      | 2, _ => exact (leaf_int (d := 3) (l := 2) (j := 2) (by kernel_rfl) (@Try.underlying2) (hc 2 (by omega)) ht).1
      | 3, _ => exact (leaf_int (d := 3) (l := 2) (j := 3) (by kernel_rfl) (@Try.underlying2) (hc 3 (by omega)) ht).1
      | 4, _ => exact (leaf_int (d := 3) (l := 2) (j := 4) (by kernel_rfl) (@Try.underlying2) (hc 4 (by omega)) ht).1
      | 5, _ => exact (leaf_int (d := 3) (l := 2) (j := 5) (by kernel_rfl) (@Try.underlying2) (hc 5 (by omega)) ht).1
    have hlit := rows_lit (f := f) (n := n) (k := 6) (by decide) fun i hi j hj => by rw [hf i hi j hj]; rfl
    exact .inr ⟨a, n, cap, f, fun i j => intOf (f (i * 6 + j)), rfl, by simp only [maxLen] at hm; omega, SeenIn.some Try.underlying48 hv hseg hlit, hf⟩
set_option maxRecDepth 100000 in
theorem lifted (os : Os) (started : os.Started) (H : Type) (enc : TypeId × Value → H) :
    ReturnsInHanded {} Try.checked os 10 .any (Rows.twrSessionsSpec.pre6 enc Try.prog Try.f10 Rows.twrSessionsRow.domain false) (Rows.twrSessionsSpec.post enc Try.prog Try.f10 false true false false) := by
  refine law_lifted (C := Try.checked) (tb := 4) Try.own started (by kernel_rfl) Try.func10 Try.laidOut (by kernel_rfl) rfl Try.underlying4 rfl
    (fun ds hds => by match ds, hds with | [_], _ => rfl)
    (ChangeSpec.witness6 (enc := enc) (C := Try.checked) false ⟨#[], #[.slice none 0 0], []⟩ 8 (by kernel_rfl) (by kernel_rfl) (by kernel_rfl) (by kernel_rfl)) ?_
  intro W base args ds p hval0 hA0 hsz0
  have hval : ∀ (j : Nat) t v, Try.f10.params[j]? = some t → args[j]? = some v → Value.okWide Try.prog W .any base t v := hval0
  have hA : DataW.TrodAll enc Try.prog W 0 (fun _ => true) true Try.f10.params.toList args.toList ds p := hA0
  have hsz : (DataW.weightsEach Try.prog Try.f10.params.toList ds).all (· ≤ reachBytes) = true := hsz0
  rw [Try.params10] at hA hval hsz
  obtain ⟨v0, vs0, d0, ds0, p0, q0, hargs, rfl, rfl, h0, r0⟩ := trodAll_cons hA
  obtain ⟨rfl, rfl, rfl⟩ := trodAll_nil r0
  obtain rfl : args = #[v0] := by cases args; simp_all
  rcases open_calls (hval 0 _ v0 rfl rfl) h0 with rfl | ⟨a, n, cap, f, cl, rfl, hn, hs, hf⟩
  · exact walk0 W
  exact walk a n cap f cl W hn hs hf

theorem proved : Rows.TwrSessionsSaid :=
  OpenClaim.holds_of_wide 10 Try.f10 rfl rfl rfl rfl rfl rfl rfl ⟨rfl, rfl, rfl, rfl, rfl⟩ rfl rfl rfl rfl rfl (by kernel_rfl) Try.func10 (by kernel_rfl)
    (of_decide_eq_true (by kernel_rfl)) (by unfold Func.isWrapper; rw [if_neg (by decide +kernel)]; exact ⟨rfl, rfl⟩)
    (fun os started H enc _ => lifted os started H enc)
#print axioms proved
end Go.Proofs.Ytioohgocbpdkeaa.twrSessions
