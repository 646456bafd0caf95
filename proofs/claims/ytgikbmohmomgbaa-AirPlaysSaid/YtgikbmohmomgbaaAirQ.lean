
/-
  Mails with bytes at real addresses: an air's stretch.
-/
import Derived.Test.YtgikbmohmomgbaaAirP
set_option linter.unusedVariables false
set_option linter.unusedSimpArgs false
namespace Go.Proofs.Ytgikbmohmomgbaa
open Go Go.RowKit Sx

theorem N.bnd {lo hi : Option Value} {len cap : Nat} {K : Nat → Nat → Nat → Prop} (p q s : Nat) (hq : Bnd hi len cap q) (hp : Bnd lo 0 q p) (k : K p q s) : N (BndN lo hi len cap K) := N.mk ⟨p, q, s, hq, hp, k⟩
theorem N.bnd3 {lo : Option Value} {hi b : Value} {cap : Nat} {K : Nat → Nat → Nat → Nat → Prop} (p q m s : Nat) (hm : Bnd (some b) 0 cap m) (hq : Bnd (some hi) 0 m q) (hp : Bnd lo 0 q p) (k : K p q m s) : N (Bnd3N lo hi b cap K) := N.mk ⟨p, q, m, s, hm, hq, hp, k⟩
theorem N.clr {ci : Chunk} {f l size : Nat} {z : Value} {K : Chunk → Prop} (d : Chunk) (h0 : 0 < l) (hw : Writes ci f (l * size) (.agg ⟨segL (l * size) (repZ size z)⟩) d) (k : K d) : N (ClrN ci f l size z K) := N.mk ⟨d, h0, hw, k⟩
/-- A mail. -/
structure Ml where
  to_ : Int
  u : Option Sl
  at_ : Int
  tr : Int
  be : Bool
abbrev Ml.v (m : Ml) : Value := mailV m.to_ m.u m.at_ m.tr m.be
abbrev Ml.z : Ml := ⟨0, none, 0, 0, false⟩
def mlc (m : Ml) : Nat → Value
  | 0 => .int .i64 m.to_
  | 1 => uV m.u
  | 2 => .int .i64 m.at_
  | 3 => .int .i64 m.tr
  | 4 => .bool m.be
  | _ => .int .i64 0
theorem mlc_re (m : Ml) (k : Nat) {ix : List (Nat × Nat)} : Re1 ix (mlc m k) (mlc m k) := by unfold mlc; split <;> first | exact .plain rfl | exact uV_re1 _
theorem mlc_one (m : Ml) (k : Nat) : (mlc m k).oneCell' = true := by unfold mlc; split <;> first | rfl | exact uV_one _
theorem mlc_in (m : Ml) {k : Nat} (h : k < 5) : cellIn m.v k = mlc m k := by
  match k, h with
  | 0, _ => rfl
  | 1, _ => rfl
  | 2, _ => rfl
  | 3, _ => rfl
  | 4, _ => rfl
theorem mlv_flat (m : Ml) : flatB m.v 5 = true := mail_flat _ _ _ _ _
/-- Two cells that stand for one value. -/
def Eqv (v v' : Value) : Prop := ∀ r r', den1 r v = den1 r' v'
theorem mlc_eqv (m : Ml) (k : Nat) : Eqv (mlc m k) (mlc m k) := fun r r' => by
  have := (mlc_re m k (ix := [])).den (r := r) (r' := r') (fun a b h => by cases h)
  exact this
theorem eqv_of {v : Value} {m : Ml} {k : Nat} (h : v = mlc m k) : Eqv v (mlc m k) := by subst h; exact mlc_eqv m k
theorem mlc_zero (j : Nat) : Eqv (repZ 5 (.agg #[.int .i64 0, .slice none 0 0, .int .i64 0, .int .i64 0, .bool false]) j) (mlc Ml.z (j % 5)) := by
  unfold repZ
  have h : j % 5 < 5 := Nat.mod_lt _ (by decide)
  generalize j % 5 = k at h
  match k, h with
  | 0, _ => exact mlc_eqv Ml.z 0
  | 1, _ => exact fun r r' => rfl
  | 2, _ => exact mlc_eqv Ml.z 2
  | 3, _ => exact mlc_eqv Ml.z 3
  | 4, _ => exact mlc_eqv Ml.z 4
/-- Mails, with room. -/
abbrev mlA (o : Bool) (c : Nat) (T : Nat → Ml) : Chunk := ⟨o, c * 5, [(0, c * 5, .agg ⟨segL (c * 5) (fun j => mlc (T (j / 5)) (j % 5))⟩)]⟩
theorem mlA_re {ix : List (Nat × Nat)} {o o' : Bool} {c : Nat} {T : Nat → Ml} : ∀ j, j < c * 5 → Re1 ix ((mlA o c T).f j) ((mlA o' c T).f j) := fun j hj => by
  rw [seg_cell hj, seg_cell hj]; exact mlc_re _ _
theorem rd_mlA {o : Bool} {c p n : Nat} {T : Nat → Ml} (i : Nat) (hn : n = 5) (h : i < c) (e : p = i * 5) : Reads (mlA o c T) p true n (T i).v := by
  subst e hn
  refine ⟨by show i * 5 + 5 ≤ c * 5; omega, _, rfl, rfl, fun j hj => ?_⟩
  rw [seg_cell (by omega), show (i * 5 + j) / 5 = i from by omega, show (i * 5 + j) % 5 = j from by omega]
  exact (mlc_in _ hj).symm
theorem rd_mlc {o : Bool} {c p n : Nat} {T : Nat → Ml} (i k : Nat) (hk : k < 5) (h : i < c) (e : p = i * 5 + k) : Reads (mlA o c T) p false n (mlc (T i) k) := by
  subst e
  refine ⟨by show i * 5 + k < c * 5; omega, mlc_one _ _, ?_⟩
  rw [seg_cell (by omega), show (i * 5 + k) / 5 = i from by omega, show (i * 5 + k) % 5 = k from by omega]
def setM1 (T : Nat → Ml) (l : Nat) (x : Ml) (i : Nat) : Ml := if i = l then x else T i
theorem wr_mlA {c l p n : Nat} {T : Nat → Ml} {x : Ml} (hn : n = 5) (h : l < c) (e : p = l * 5) : Writes (mlA true c T) p n x.v (mlA true c (setM1 T l x)) := by
  subst e hn
  refine ⟨rfl, by show l * 5 + 5 ≤ c * 5; omega, rfl, fun j hj => ?_⟩
  have hj : j < c * 5 := hj
  rw [seg_cell hj, seg_cell hj]
  unfold setM1
  by_cases e : l * 5 ≤ j ∧ j < l * 5 + 5
  · rw [if_pos e, if_pos (by omega), mlc_in _ (by omega)]
    congr 1; omega
  · rw [if_neg e, if_neg (by omega)]
/-- Mail l is bent. -/
abbrev Ml.bent (m : Ml) : Ml := ⟨m.to_, m.u, m.at_, m.tr, true⟩
theorem wr_mbent {c l p n : Nat} {T : Nat → Ml} (hn : n = 1) (h : l < c) (e : p = l * 5 + 4) : Writes (mlA true c T) p n (.bool true) (mlA true c (setM1 T l (T l).bent)) := by
  subst e hn
  refine ⟨rfl, by show l * 5 + 4 + 1 ≤ c * 5; omega, rfl, fun j hj => ?_⟩
  have hj : j < c * 5 := hj
  rw [seg_cell hj, seg_cell hj]
  unfold setM1
  by_cases e : l * 5 + 4 ≤ j ∧ j < l * 5 + 4 + 1
  · rw [if_pos e, if_pos (by omega), show j % 5 = 4 from by omega]; rfl
  · rw [if_neg e]
    by_cases e2 : j / 5 = l
    · rw [if_pos e2, e2]
      have h4 : j % 5 < 4 := by omega
      generalize j % 5 = k at h4
      match k, h4 with
      | 0, _ => rfl
      | 1, _ => rfl
      | 2, _ => rfl
      | 3, _ => rfl
    · rw [if_neg e2]
def growM (T : Nat → Ml) (l : Nat) (x : Ml) (i : Nat) : Ml := if i < l then T i else if i = l then x else Ml.z
theorem grown_mlA {ci : Chunk} {l cap : Nat} {T : Nat → Ml} {x : Ml} {z : Value} (hz : z = .agg #[.int .i64 0, .slice none 0 0, .int .i64 0, .int .i64 0, .bool false]) (h : l < cap) (hc : ∀ j, j < l * 5 → ci.f j = mlc (T (j / 5)) (j % 5)) {j : Nat} (hj : j < cap * 5) : Eqv ((grown ci l 1 5 x.v z cap).f j) (mlc (growM T l x (j / 5)) (j % 5)) := by
  subst hz
  unfold growM
  by_cases h1 : j < l * 5
  · rw [grown_old h1, if_pos (by omega)]; exact eqv_of (hc j h1)
  · rw [if_neg (by omega)]
    by_cases h2 : j < (l + 1) * 5
    · have := grown_new (ci := ci) (l := l) (m := 1) (size := 5) (cap := cap) (v := x.v) (z := .agg #[.int .i64 0, .slice none 0 0, .int .i64 0, .int .i64 0, .bool false]) (j := j - l * 5) (by omega)
      rw [show l * 5 + (j - l * 5) = j from by omega] at this
      rw [this, if_pos (by omega), mlc_in _ (by omega)]
      refine eqv_of ?_
      congr 1; omega
    · rw [grown_zero (by omega) hj, if_neg (by omega)]; exact mlc_zero j
/-! ### The pack -/
def airOK (L : List Ml) : Option (Nat × (Nat → Ml)) → Prop
  | none => L = []
  | some (c, T) => 1 ≤ c ∧ L.length ≤ c ∧ ∀ i m, L[i]? = some m → T i = m
abbrev airH (L : List Ml) (β : Option (Nat × (Nat → Ml))) : List (Option Chunk) := match β with
  | none => [some (airC true (.slice none 0 0)), none]
  | some (c, T) => [some (airC true (.slice (some ⟨1, 0, some 0⟩) L.length c)), some (mlA true c T)]
/-- An air that has the mails L. -/
abbrev airP (L : List Ml) : Chunk := packC (airOK L) (airH L)
theorem airP_ne (L : List Ml) : (airP L).x ≠ Ext.none := fun e => by
  have h1 : ∀ p S w, (airP L).x.inv p S w → S p.1 := packX_selfish
  rw [e] at h1
  exact (h1 (0, 0) (fun _ => False) default fun _ h => h).elim
/-- An air in a callee that has all old memory as well. -/
abbrev airO (W : World) (F : List By) (L : List Ml) (β : Option (Nat × (Nat → Ml))) : List (Option Chunk) := match β with
  | none => [some (airC true (.slice none 0 0)), some (memC W F), none]
  | some (c, T) => [some (airC true (.slice (some ⟨2, 0, some 0⟩) L.length c)), some (memC W F), some (mlA true c T)]
theorem air_opens2 {i j : Nat} {c d c2 d2 : Chunk} {W : World} {F : List By} {L : List Ml} : Opens [⟨i, c, airP L, d⟩, ⟨j, c2, memC W F, d2⟩] (airOK L) (airO W F L) := by
  refine pack_opens2 (airO W F L) [(0, 0), (1, 2)] (fun l i hm => ?_) rfl (fun β => ?_) (fun β hβ l dl hl => ?_) (fun β hβ k d' hk => ?_)
  · simp only [List.mem_cons, Prod.mk.injEq, List.not_mem_nil, or_false] at hm
    rcases hm with ⟨rfl, rfl⟩ | ⟨rfl, rfl⟩ <;> rfl
  · cases β <;> rfl
  · cases β with
    | none =>
      match l, hl with
      | 0, hl =>
        obtain rfl : _ = dl := by simpa using hl
        exact ⟨_, rfl, rfl, rfl, fun k hk => by
          match k, hk with
          | 0, _ => exact .plain rfl⟩
      | 1, hl => simp at hl
      | l + 2, hl => simp at hl
    | some q =>
      obtain ⟨cc, T⟩ := q
      match l, hl with
      | 0, hl =>
        obtain rfl : _ = dl := by simpa using hl
        exact ⟨_, rfl, rfl, rfl, fun k hk => by
          match k, hk with
          | 0, _ => exact .slice rfl⟩
      | 1, hl =>
        obtain rfl : _ = dl := by simpa using hl
        exact ⟨_, rfl, rfl, rfl, mlA_re⟩
      | l + 2, hl => simp at hl
  · cases β with
    | none =>
      match k, hk with
      | 0, _ => exact .inr ⟨0, rfl, _, rfl⟩
      | 1, _ => exact .inl rfl
      | 2, hk => simp at hk
      | k + 3, hk => simp at hk
    | some q =>
      match k, hk with
      | 0, _ => exact .inr ⟨0, rfl, _, rfl⟩
      | 1, _ => exact .inl rfl
      | 2, _ => exact .inr ⟨1, rfl, _, rfl⟩
      | k + 3, hk => simp at hk
theorem safeM {h : List (Option Chunk)} {W : World} {F : List By} {h' : List (Option Chunk)} (h1 : h[1]? = some (some (memC W F))) : ∀ k ∈ [1], ∀ (d : Chunk), h[k]? = some (some d) → ∀ j, j < d.n → Safe1 h' (d.f j) := fun k hk d hd j hj => by
  obtain rfl := List.mem_singleton.1 hk
  rw [h1] at hd
  obtain rfl : memC W F = d := by simpa using hd
  exact absurd hj (Nat.not_lt_zero j)
theorem air_pieces {i j : Nat} {c d c2 d2 : Chunk} {W : World} {F : List By} {L : List Ml} (ix : List (Nat × Nat)) : ∀ k l, (k, l) ∈ ix → l < [(⟨i, c, airP L, d⟩ : Piece), ⟨j, c2, memC W F, d2⟩].length → ∃ s, [(⟨i, c, airP L, d⟩ : Piece), ⟨j, c2, memC W F, d2⟩][l]? = some s ∧ s.e.x ≠ Ext.none ∧ Selfish s.e.x := fun k l _ hl => by
  match l, hl with
  | 0, _ => exact ⟨_, rfl, airP_ne L, packX_selfish⟩
  | 1, _ => exact ⟨_, rfl, memC_ne W F, memX_selfish⟩
/-- A callee's end: the air is closed, its mails lie in the stretch k. -/
theorem airCloseG {ss : List Piece} {h : List (Option Chunk)} {v : Value} {K : Value → List (Option Chunk) → Prop} (m : Nat) (keep : List Nat) (L : List Ml) (k c : Nat) (T : Nat → Ml) {a b : Chunk} (hbs : ∀ i, i < ss.length → i = m ∨ i ∈ keep) (hpc : ∀ l, (l = m ∨ l = k) → l < ss.length → ∃ s, ss[l]? = some s ∧ s.e.x ≠ Ext.none ∧ Selfish s.e.x)
    (hc : 1 ≤ c) (hl : L.length ≤ c) (hT : ∀ i m, L[i]? = some m → T i = m) (h0 : h[m]? = some (some a)) (ha : a.own = true) (hn : 1 ≤ a.n) (haf : a.f 0 = .slice (some ⟨k, 0, some 0⟩) L.length c) (hk : h[k]? = some (some b)) (hkm : m ≠ k) (hb : b.own = true) (hbn : c * 5 ≤ b.n) (hbf : ∀ j, j < c * 5 → Eqv (b.f j) (mlc (T (j / 5)) (j % 5)))
    (hkk : ∀ x ∈ keep, x ≠ m ∧ x ≠ k) (hkd : ∀ x ∈ keep, ∀ (d : Chunk), h[x]? = some (some d) → ∀ j, j < d.n → Safe1 (closeH (airP L) m keep h 0) (d.f j))
    (hv : ∀ ρ ρ', AgreeOn (Fil (closeH (airP L) m keep h 0)) ρ ρ' → den ρ' v = den ρ v) (kk : K v (closeH (airP L) m keep h 0)) : N (EndN ss h v K) := by
  refine closeN (ok := airOK L) (hB := airH L) (some (c, T)) m [(0, m), (1, k)] keep (fun l i hm hi => hpc i ?_ hi) hbs ⟨hc, hl, hT⟩ rfl ⟨_, rfl⟩ ?_ rfl ?_ (fun x hx l i hm => ?_) hkd hv (List.getElem?_eq_some_iff.1 h0).1 kk
  · simp only [List.mem_cons, Prod.mk.injEq, List.not_mem_nil, or_false] at hm
    omega
  · have e2 : Nat.beq k m = false := by
      cases e : Nat.beq k m with
      | false => rfl
      | true => exact absurd (Nat.eq_of_beq_eq_true e).symm hkm
    have e1 : Nat.beq 1 0 = false := rfl
    simp [ixOne, e1, e2]
  · intro l d hd
    match l, hd with
    | 0, hd =>
      obtain rfl : _ = d := by simpa using hd
      refine ⟨m, a, rfl, h0, ha, hn, fun j hj => ?_, .inl rfl, .inl (by omega)⟩
      match j, hj with
      | 0, _ => rw [haf]; exact .slice rfl
    | 1, hd =>
      obtain rfl : _ = d := by simpa using hd
      refine ⟨k, b, rfl, hk, hb, hbn, fun j hj => ?_, .inl rfl, .inl (by omega)⟩
      have hj : j < c * 5 := hj
      rw [seg_cell hj]; exact .any (hbf j hj)
    | l + 2, hd => simp at hd
  · have := hkk x hx
    simp only [List.mem_cons, Prod.mk.injEq, List.not_mem_nil, or_false] at hm
    omega
/-- A callee's end: the air has no mail, and never had any. -/
theorem airClose0G {ss : List Piece} {h : List (Option Chunk)} {v : Value} {K : Value → List (Option Chunk) → Prop} (m : Nat) (keep : List Nat) {a : Chunk} (hbs : ∀ i, i < ss.length → i = m ∨ i ∈ keep) (hpc : m < ss.length → ∃ s, ss[m]? = some s ∧ s.e.x ≠ Ext.none ∧ Selfish s.e.x)
    (h0 : h[m]? = some (some a)) (ha : a.own = true) (hn : 1 ≤ a.n) (haf : a.f 0 = .slice none 0 0)
    (hkk : ∀ x ∈ keep, x ≠ m) (hkd : ∀ x ∈ keep, ∀ (d : Chunk), h[x]? = some (some d) → ∀ j, j < d.n → Safe1 (closeH (airP []) m keep h 0) (d.f j))
    (hv : ∀ ρ ρ', AgreeOn (Fil (closeH (airP []) m keep h 0)) ρ ρ' → den ρ' v = den ρ v) (kk : K v (closeH (airP []) m keep h 0)) : N (EndN ss h v K) := by
  refine closeN (ok := airOK []) (hB := airH []) none m [(0, m)] keep (fun l i hm hi => ?_) hbs rfl rfl ⟨_, rfl⟩ rfl rfl ?_ (fun x hx l i hm => ?_) hkd hv (List.getElem?_eq_some_iff.1 h0).1 kk
  · simp only [List.mem_cons, Prod.mk.injEq, List.not_mem_nil, or_false] at hm
    obtain ⟨_, rfl⟩ := hm
    exact hpc hi
  · intro l d hd
    match l, hd with
    | 0, hd =>
      obtain rfl : _ = d := by simpa using hd
      refine ⟨m, a, rfl, h0, ha, hn, fun j hj => ?_, .inl rfl, .inl (by omega)⟩
      match j, hj with
      | 0, _ => rw [haf]; exact .plain rfl
    | 1, hd => simp at hd
    | l + 2, hd => simp at hd
  · have := hkk x hx
    simp only [List.mem_cons, Prod.mk.injEq, List.not_mem_nil, or_false] at hm
    omega
theorem two_bs {ss : List Piece} (hss : ss.length = 2) : ∀ i, i < ss.length → i = 0 ∨ i ∈ [1] := fun i hi => by
  rw [hss] at hi
  have : i = 0 ∨ i = 1 := by omega
  rcases this with rfl | rfl
  · exact .inl rfl
  · exact .inr (List.mem_singleton.2 rfl)
theorem airClose {ss : List Piece} {h : List (Option Chunk)} {v : Value} {K : Value → List (Option Chunk) → Prop} {W : World} {F : List By} (L : List Ml) (k c : Nat) (T : Nat → Ml) {a b : Chunk} (hss : ss.length = 2) (hpc : ∀ l, l < 2 → ∃ s, ss[l]? = some s ∧ s.e.x ≠ Ext.none ∧ Selfish s.e.x)
    (hc : 1 ≤ c) (hl : L.length ≤ c) (hT : ∀ i m, L[i]? = some m → T i = m) (h0 : h[0]? = some (some a)) (ha : a.own = true) (hn : 1 ≤ a.n) (haf : a.f 0 = .slice (some ⟨k, 0, some 0⟩) L.length c) (h1 : h[1]? = some (some (memC W F))) (hk : h[k]? = some (some b)) (hk2 : 2 ≤ k) (hb : b.own = true) (hbn : c * 5 ≤ b.n) (hbf : ∀ j, j < c * 5 → Eqv (b.f j) (mlc (T (j / 5)) (j % 5)))
    (hv : ∀ ρ ρ', AgreeOn (Fil (closeH (airP L) 0 [1] h 0)) ρ ρ' → den ρ' v = den ρ v) (kk : K v (closeH (airP L) 0 [1] h 0)) : N (EndN ss h v K) :=
  airCloseG 0 [1] L k c T (two_bs hss) (fun l _ hl => hpc l (by omega)) hc hl hT h0 ha hn haf hk (by omega) hb hbn hbf (fun x hx => by obtain rfl := List.mem_singleton.1 hx; omega) (safeM h1) hv kk
theorem airClose0 {ss : List Piece} {h : List (Option Chunk)} {v : Value} {K : Value → List (Option Chunk) → Prop} {W : World} {F : List By} {a : Chunk} (hss : ss.length = 2) (hpc : ∀ l, l < 2 → ∃ s, ss[l]? = some s ∧ s.e.x ≠ Ext.none ∧ Selfish s.e.x)
    (h0 : h[0]? = some (some a)) (ha : a.own = true) (hn : 1 ≤ a.n) (haf : a.f 0 = .slice none 0 0) (h1 : h[1]? = some (some (memC W F)))
    (hv : ∀ ρ ρ', AgreeOn (Fil (closeH (airP []) 0 [1] h 0)) ρ ρ' → den ρ' v = den ρ v) (kk : K v (closeH (airP []) 0 [1] h 0)) : N (EndN ss h v K) :=
  airClose0G 0 [1] (two_bs hss) (fun _ => hpc 0 (by omega)) h0 ha hn haf (fun x hx => by obtain rfl := List.mem_singleton.1 hx; omega) (safeM h1) hv kk
end Go.Proofs.Ytgikbmohmomgbaa
