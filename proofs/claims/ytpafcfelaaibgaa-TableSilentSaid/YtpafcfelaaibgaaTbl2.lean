/-
  A table of neighbours, told as one stretch; the walks of New, Len, Get.
-/
import Derived.Test.YtpafcfelaaibgaaTbl1
set_option linter.unusedVariables false
set_option linter.unusedSimpArgs false
namespace Go.Proofs.Ytpafcfelaaibgaa
open Go Go.RowKit Sx

structure Ent where
  node : Int
  boot : Int
  heard : Int
  has : Bool
  x : Int
  y : Int
  a : Int
  b : Int
  d : Int
  when_ : Int
def Ent.zero : Ent := ⟨0, 0, 0, false, 0, 0, 0, 0, 0, 0⟩
abbrev entV (e : Ent) : Value := .agg ⟨[.int .i64 e.node, .int .i64 e.boot, .int .i64 e.heard, .bool e.has, .int .i64 e.x, .int .i64 e.y, .int .i64 e.a, .int .i64 e.b, .int .i64 e.d, .int .i64 e.when_]⟩
/-- A life, with the address of its window. -/
structure LifR where
  boot : Int
  left : Bool
  q : Nat × Nat
abbrev lifV (l : LifR) : Value := .agg ⟨[.int .i64 l.boot, .bool l.left, realP l.q]⟩
/-- A life. -/
structure Life where
  boot : Int
  left : Bool
  W : Win
structure Tbl where
  most : Int
  E : List (Int × Ent)
  lives : Int → Option Life
def winF (W : Win) (j : Nat) : Value := match j with
  | 0 => .bool W.any
  | 1 => .int .i64 W.last
  | _ => .int .u64 (W.seen : Int)
/-- The lives as they lie in memory: a map of lives, windows. -/
structure LB where
  D : List (Int × LifR)
  F : List ((Nat × Nat) × Win)
def livesOK (lv : Int → Option Life) (β : LB) : Prop :=
  (∀ n, dGet β.D n = none → lv n = none) ∧ (∀ n r, dGet β.D n = some r → ∃ W, (r.q, W) ∈ β.F ∧ lv n = some ⟨r.boot, r.left, W⟩) ∧
  ∀ n m r s, dGet β.D n = some r → dGet β.D m = some s → r.q = s.q → n = m
abbrev mainC (F : List ((Nat × Nat) × Win)) (most : Int) : Chunk := @Chunk.mk (famX 3 winF F) true 3 [(0, 3, .agg ⟨[.int .i64 most, .map (some 1), .map (some 2)]⟩)]
abbrev tblH (T : Tbl) (β : LB) : List (Option Chunk) := [some (mainC β.F T.most), some (mapC entV T.E), some (mapC lifV β.D)]
/-- A table. -/
abbrev tblC (T : Tbl) : Chunk := packC (livesOK T.lives) (tblH T)
def Tbl.new (most : Int) : Tbl := ⟨max 1 (min most 64), [], fun _ => none⟩
theorem main_re {ix : List (Nat × Nat)} {F : List ((Nat × Nat) × Win)} {most : Int} {c : Chunk} {i j : Nat} (h0 : c.f 0 = .int .i64 most) (h1 : c.f 1 = .map (some i)) (h2 : c.f 2 = .map (some j)) (hi : ixK ix 1 = some i) (hj : ixK ix 2 = some j) : ∀ l, l < 3 → Re1 ix (c.f l) ((mainC F most).f l) := fun l hl => by
  match l, hl with
  | 0, _ => rw [h0]; exact .plain rfl
  | 1, _ => rw [h1]; exact .map hi
  | 2, _ => rw [h2]; exact .map hj
/-- The end of a callee: a table lies at m, its maps at i and j. -/
theorem tblClose {ss : List Piece} {h : List (Option Chunk)} {v : Value} {K : Value → List (Option Chunk) → Prop} (T : Tbl) (β : LB) (m i j : Nat) (keep : List Nat) {c : Chunk} (hpc : ∀ l, (l = m ∨ l = i ∨ l = j) → l < ss.length → ∃ s, ss[l]? = some s ∧ s.e.x ≠ Ext.none ∧ Selfish s.e.x) (hbs : ∀ i, i < ss.length → i = m ∨ i ∈ keep) (hok : livesOK T.lives β)
    (hm : h[m]? = some (some c)) (ho : c.own = true) (hn : c.n = 3) (hx : c.x = famX 3 winF β.F) (h0 : c.f 0 = .int .i64 T.most) (h1 : c.f 1 = .map (some i)) (h2 : c.f 2 = .map (some j)) (hi : h[i]? = some (some (mapC entV T.E))) (hj : h[j]? = some (some (mapC lifV β.D))) (hd : m ≠ i ∧ m ≠ j ∧ i ≠ j)
    (hkk : ∀ k ∈ keep, k ≠ m ∧ k ≠ i ∧ k ≠ j) (hkd : ∀ k ∈ keep, ∀ (d : Chunk), h[k]? = some (some d) → ∀ l, l < d.n → Safe1 (closeH (tblC T) m keep h 0) (d.f l))
    (hv : ∀ ρ ρ', AgreeOn (Fil (closeH (tblC T) m keep h 0)) ρ ρ' → den ρ' v = den ρ v) (kk : K v (closeH (tblC T) m keep h 0)) : N (EndN ss h v K) := by
  refine closeN (ok := livesOK T.lives) (hB := tblH T) β m [(0, m), (1, i), (2, j)] keep (fun k l hk hl => hpc l ?_ hl) hbs hok rfl ⟨_, rfl⟩ ?_ rfl ?_ (fun k hk l i' hm' => ?_) hkd hv (List.getElem?_eq_some_iff.1 hm).1 kk
  · simp only [List.mem_cons, Prod.mk.injEq, List.not_mem_nil, or_false] at hk
    omega
  · have nb : ∀ a b : Nat, a ≠ b → Nat.beq a b = false := fun a b hab => by
      cases e : Nat.beq a b with
      | false => rfl
      | true => exact absurd (Nat.eq_of_beq_eq_true e) hab
    simp only [ixOne, List.all_cons, List.all_nil, nb _ _ hd.1.symm, nb _ _ hd.2.1.symm, nb _ _ hd.2.2.symm]
    rfl
  · intro k d hk
    match k, hk with
    | 0, hk =>
      obtain rfl : _ = d := by simpa using hk
      exact ⟨m, c, rfl, hm, ho, by rw [hn]; exact Nat.le_refl _, main_re h0 h1 h2 rfl rfl, .inr hx.symm, .inl (by omega)⟩
    | 1, hk =>
      obtain rfl : _ = d := by simpa using hk
      exact ⟨i, _, rfl, hi, rfl, Nat.le_refl _, fun j hj => absurd hj (Nat.not_lt_zero j), .inr rfl, .inr mapX_selfish⟩
    | 2, hk =>
      obtain rfl : _ = d := by simpa using hk
      exact ⟨j, _, rfl, hj, rfl, Nat.le_refl _, fun j hj => absurd hj (Nat.not_lt_zero j), .inr rfl, .inr mapX_selfish⟩
    | k + 3, hk => simp at hk
  · have := hkk k hk
    simp only [List.mem_cons, Prod.mk.injEq, List.not_mem_nil, or_false] at hm'
    omega
theorem livesNew : livesOK (fun _ => none) ⟨[], []⟩ := ⟨fun _ _ => rfl, fun _ _ h => by simp [dGet] at h, fun _ _ _ _ h => by simp [dGet] at h⟩
theorem plain_sc {v : Value} (h : plain3 v = true) {F : Nat → Prop} : ∀ ρ ρ', AgreeOn F ρ ρ' → den ρ' v = den ρ v := fun ρ ρ' _ => by rw [den_plain3 h, den_plain3 h]
theorem tblC_ne (T : Tbl) : (tblC T).x ≠ Ext.none := fun e => by
  have h1 : ∀ p S w, (tblC T).x.inv p S w → S p.1 := packX_selfish
  rw [e] at h1
  exact (h1 (0, 0) (fun _ => False) default fun _ h => h).elim
theorem tbl_piece {i : Nat} {T T' : Tbl} : ∀ l, (l = 0 ∨ l = 1 ∨ l = 2) → l < [(⟨i, tblC T, tblC T, tblC T'⟩ : Piece)].length → ∃ s, [(⟨i, tblC T, tblC T, tblC T'⟩ : Piece)][l]? = some s ∧ s.e.x ≠ Ext.none ∧ Selfish s.e.x := fun l _ hl => by
  obtain rfl : l = 0 := by simpa using hl
  exact ⟨_, rfl, tblC_ne T, packX_selfish⟩
theorem safe0 {h : List (Option Chunk)} {T : Tbl} {m : Nat} : ∀ k ∈ ([] : List Nat), ∀ (d : Chunk), h[k]? = some (some d) → ∀ l, l < d.n → Safe1 (closeH (tblC T) m [] h 0) (d.f l) := fun k hk => by cases hk
set_option maxRecDepth 100000 in
set_option maxHeartbeats 2000000 in
theorem cNewT (most : Int) (k : Nat) (h : List (Option Chunk)) (hk : h[k]? = some none) :
    CallOK Try.prog 9 [.int .i64 most] h (.pointer (some ⟨k, 0, some 0⟩)) [(k, tblC (Tbl.new most))] [] := by
  refine call_res (G := tys) (fun _ : Unit => True) (fun _ => []) [] [⟨k, 10, tblC (Tbl.new most)⟩] [.int .i64 most] tysOK mixed Try.func9 (by rfl) (Try.call9) trivial trivial trivial trivial ⟨⟨hk, rfl, .inr packX_selfish, by simp⟩, trivial⟩ ⟨.plain rfl, trivial⟩ Opens.same ?_
  rintro ⟨⟩ -
  repeat' (refine N.go ?_; first | with_reducible refine N.obl (by decide) ?_ | with_reducible refine N.obl (flat_wi _ _ _) ?_ | with_reducible refine N.obl (flat_lim _ _) ?_ | with_reducible refine N.eq ?_ | with_reducible refine N.obl rfl ?_ | with_reducible refine N.obl ⟨by kernel_rfl, by kernel_rfl⟩ ?_ | with_reducible refine N.forkT ?_ | with_reducible refine N.forkF ?_ | with_reducible refine N.min2 ?_ | with_reducible refine N.max2 ?_ | fail_if_success skip)
  refine N.go ?_
  refine N_mkMap entV ?_
  repeat' (refine N.go ?_; first | with_reducible refine N.obl (by decide) ?_ | with_reducible refine N.obl (flat_wi _ _ _) ?_ | with_reducible refine N.obl (flat_lim _ _) ?_ | with_reducible refine N.eq ?_ | with_reducible refine N.obl rfl ?_ | with_reducible refine N.obl ⟨by kernel_rfl, by kernel_rfl⟩ ?_ | with_reducible refine N.forkT ?_ | with_reducible refine N.forkF ?_ | with_reducible refine N.min2 ?_ | with_reducible refine N.max2 ?_ | fail_if_success skip)
  refine N.go ?_
  refine N_mkMap lifV ?_
  repeat' (refine N.go ?_; first | with_reducible refine N.obl (by decide) ?_ | with_reducible refine N.obl (flat_wi _ _ _) ?_ | with_reducible refine N.obl (flat_lim _ _) ?_ | with_reducible refine N.eq ?_ | with_reducible refine N.obl rfl ?_ | with_reducible refine N.obl ⟨by kernel_rfl, by kernel_rfl⟩ ?_ | with_reducible refine N.forkT ?_ | with_reducible refine N.forkF ?_ | with_reducible refine N.min2 ?_ | with_reducible refine N.max2 ?_ | fail_if_success skip)
  refine N.go ?_
  refine N_endFam 3 winF (k := 10) (by rfl) ?_
  refine tblClose (Tbl.new most) ⟨[], []⟩ 10 8 9 [] (fun _ _ hl => absurd hl (by simp)) (fun i hi => absurd hi (by simp)) livesNew (by rfl) (by rfl) (by rfl) (by rfl) (by rfl) (by rfl) (by rfl) (by rfl) (by rfl) (by decide) (fun k hk => by cases hk) safe0 (fun ρ ρ' ha => by have := ha 10 ⟨_, rfl⟩; simp [den, den2, den1, den0, denA, this]) ?_
  refine N.obl (.one (.ptr rfl)) ?_
  refine N.obl trivial ?_
  refine N.obl ⟨⟨Nat.zero_le _, _, rfl, id, Nat.le_refl _, fun j hj => absurd hj (Nat.not_lt_zero j)⟩, trivial⟩ ?_
  refine N.obl ⟨trivial, .inr ⟨_, rfl, rfl⟩, trivial⟩ ?_
  exact N.true
end Go.Proofs.Ytpafcfelaaibgaa
