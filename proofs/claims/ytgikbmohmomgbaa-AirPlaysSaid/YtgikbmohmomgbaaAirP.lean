
/-
  An air as one stretch: mails, each with its bytes at a real address.
-/
import Derived.Test.YtgikbmohmomgbaaAir1
import Derived.Test.YtgikbmohmomgbaaMem2
set_option linter.unusedVariables false
set_option linter.unusedSimpArgs false
namespace Go.Proofs.Ytgikbmohmomgbaa.Sx
open Go Go.RowKit

/-! ### A callee with a pack and one more stretch -/
def sh2 (l : Nat) : Nat := match l with
  | 0 => 0
  | l + 1 => l + 2
theorem sh2_inj {a b : Nat} (h : sh2 a = sh2 b) : a = b := by
  cases a <;> cases b <;> simp [sh2] at h <;> omega
theorem sh2_ne (l : Nat) : sh2 l ≠ 1 := by cases l <;> simp [sh2]
theorem pack_opens2 {B : Type} {ok : B → Prop} {h : B → List (Option Chunk)} {i j : Nat} {c d c2 e2 d2 : Chunk} (o : B → List (Option Chunk)) (ix : List (Nat × Nat)) (hix : ∀ l i, (l, i) ∈ ix → i = sh2 l) (hn2 : e2.n = 0) (h1 : ∀ β, (o β)[1]? = some (some e2))
    (hre : ∀ β, ok β → ∀ (l : Nat) (dl : Chunk), (h β)[l]? = some (some dl) → ∃ d' : Chunk, (o β)[sh2 l]? = some (some d') ∧ d'.n = dl.n ∧ d'.x = dl.x ∧ ∀ k, k < d'.n → Re1 ix (d'.f k) (dl.f k))
    (hre' : ∀ β, ok β → ∀ (k : Nat) (d' : Chunk), (o β)[k]? = some (some d') → k = 1 ∨ ∃ l, k = sh2 l ∧ Fil (h β) l) : Opens [⟨i, c, packC ok h, d⟩, ⟨j, c2, e2, d2⟩] ok o := fun X ρ w T H => by
  obtain ⟨S, E⟩ := H.ext
  have g0 : (partH [⟨i, c, packC ok h, d⟩, ⟨j, c2, e2, d2⟩])[0]? = some (some (packC ok h)) := rfl
  have g1 : (partH [⟨i, c, packC ok h, d⟩, ⟨j, c2, e2, d2⟩])[1]? = some (some e2) := rfl
  have two : ∀ (k : Nat) (e : Chunk), (partH [⟨i, c, packC ok h, d⟩, ⟨j, c2, e2, d2⟩])[k]? = some (some e) → k = 0 ∨ k = 1 := fun k e hk => by
    match k, hk with
    | 0, _ => exact .inl rfl
    | 1, _ => exact .inr rfl
    | k + 2, hk => simp [partH] at hk
  obtain ⟨_, β, hβ, ρp, Tp, e0, hf, K⟩ := E.inv 0 _ g0
  have n0 : X.n0 = 2 := T.n0
  let un : Nat → Nat := fun k => match k with
    | 0 => 0
    | k + 1 => k
  have un_sh : ∀ l, un (sh2 l) = l := fun l => by cases l <;> rfl
  let ρ' : Nat → Nat × Nat := fun k => if k = 1 then ρ 1 else ρp (un k)
  have ρ1 : ρ' 1 = ρ 1 := if_pos rfl
  have ρs : ∀ l, ρ' (sh2 l) = ρp l := fun l => by
    show (if sh2 l = 1 then ρ 1 else ρp (un (sh2 l))) = _
    rw [if_neg (sh2_ne l), un_sh]
  have ρ0 : ρ' 0 = ρ 0 := (ρs 0).trans e0
  have fil0 : Fil (o β) 0 := by
    obtain ⟨dl, hdl⟩ := hf
    obtain ⟨d', hd', _⟩ := hre β hβ 0 dl hdl
    exact ⟨d', hd'⟩
  have filS : ∀ l, Fil (h β) l → Fil (o β) (sh2 l) := fun l ⟨dl, hdl⟩ => by
    obtain ⟨d', hd', _⟩ := hre β hβ l dl hdl
    exact ⟨d', hd'⟩
  -- a new stretch, and the one of the pack
  have old : ∀ (k : Nat) (d' : Chunk), (o β)[k]? = some (some d') → k ≠ 1 → ∃ (l : Nat) (dl : Chunk), k = sh2 l ∧ (h β)[l]? = some (some dl) ∧ d'.n = dl.n ∧ d'.x = dl.x ∧ ∀ q, q < d'.n → Re1 ix (d'.f q) (dl.f q) := fun k d' hk hne => by
    rcases hre' β hβ k d' hk with rfl | ⟨l, rfl, dl, hdl⟩
    · exact absurd rfl hne
    · obtain ⟨d2, hd2, r1, r2, r3⟩ := hre β hβ l dl hdl
      rw [hk] at hd2
      obtain rfl : d' = d2 := by simpa using hd2
      exact ⟨l, dl, rfl, hdl, r1, r2, r3⟩
  refine ⟨β, hβ, ρ', fun k hk => ?_, fun k hk => ?_, ?_⟩
  · obtain ⟨e, he⟩ := hk
    rcases two k e he with rfl | rfl
    · exact ρ0
    · exact ρ1
  · obtain ⟨e, he⟩ := hk
    rcases two k e he with rfl | rfl
    · exact fil0
    · exact ⟨_, h1 β⟩
  · refine H.redo (T := fun k b => Tp (un k) b) E (fun k => k = 0) (fun k => k ≠ 1) (S 0) (fun b hb => ⟨0, _, rfl, g0, .inr hb⟩) (fun b hb => (E.mine 0 _ b g0 hb).2.2) (fun k hk => ?_) (fun k e hk hA => ?_) (fun k e hk hA => ?_) (fun k e l f hk hA hl hB hne => ?_)
    · rw [n0] at hk
      have : k = 0 ∨ k = 1 := by omega
      rcases this with rfl | rfl
      · exact ⟨fil0, ρ0⟩
      · exact ⟨⟨_, h1 β⟩, ρ1⟩
    · obtain rfl : k = 1 := Decidable.not_not.1 hA
      rw [h1 β] at hk
      obtain rfl : e2 = e := by simpa using hk
      exact ⟨by decide, ρ1, g1, fun q hq => by rw [hn2] at hq; exact absurd hq (Nat.not_lt_zero q)⟩
    · obtain ⟨l, dl, rfl, hdl, r1, r2, r3⟩ := old k e hk hA
      have hu := un_sh l
      refine ⟨by rw [ρs]; exact K.blk l dl hdl, fun q hq => ?_, fun _ q hq => by rw [ρs]; exact K.own l dl hdl q (by omega), ?_, fun b hb => ?_⟩
      · obtain ⟨x, hx, hxd⟩ := K.cell l dl hdl q (by omega)
        rw [ρs]
        refine ⟨x, hx, fun r hr => ?_⟩
        rw [(r3 q hq).den (r := r) (r' := fun k => r (sh2 k)) (fun a b hab => by rw [hix a b hab])]
        exact hxd (fun k => r (sh2 k)) fun k hk => (hr _ (filS k hk)).trans (ρs k)
      · rw [r2, ρs]
        have : (fun b => Tp (un (sh2 l)) b) = Tp l := by rw [hu]
        rw [this]; exact K.inv l dl hdl
      · rw [hu] at hb
        obtain ⟨q1, q2⟩ := K.foot l dl b hdl hb
        exact ⟨q1, by rw [r1, ρs]; exact q2⟩
    · obtain ⟨a, da, rfl, hda, _⟩ := old k e hk hA
      obtain ⟨b, db, rfl, hdb, _⟩ := old l f hl hB
      have hab : a ≠ b := fun e => hne (by rw [e])
      obtain ⟨q1, q2⟩ := K.sep a da b db hda hdb hab
      exact ⟨fun _ => by rw [ρs, ρs]; exact q1, fun x hx => by rw [un_sh] at hx ⊢; rw [ρs]; exact q2 x hx⟩
end Go.Proofs.Ytgikbmohmomgbaa.Sx
