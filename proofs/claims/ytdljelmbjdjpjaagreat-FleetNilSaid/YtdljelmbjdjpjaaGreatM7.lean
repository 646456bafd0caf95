import Derived.Test.YtdljelmbjdjpjaaGreatM6
set_option linter.unusedVariables false
set_option linter.unusedSimpArgs false
set_option maxRecDepth 100000
set_option maxHeartbeats 20000000

namespace Go.Proofs.YtdljelmbjdjpjaaGreat
open Go Go.RowKit Sx
theorem pack_lensM {α B : Type} {Y Z : α → Ext} {q : Nat × Nat} {a : α} (ok : B → Prop) (hs : α → B → List (Option Chunk)) (c : Nat) (o : Bool) (m : Nat) (ps : B → List (Nat × Nat × Value)) (g0 : ∀ a β, (hs a β)[c]? = some (some (@Chunk.mk (Y a) o m (ps β)))) (gs : ∀ a a' β k, k ≠ c → (hs a β)[k]? = (hs a' β)[k]?) (hL : Lens Y Z q a) :
    Lens (fun a => packX ok (hs a)) Z q a := fun p S w h => by
  obtain ⟨hSp, β, hβ, ρ, T, h0, hf0, K⟩ := h
  have gs' : ∀ a a' k d, k ≠ c → (hs a β)[k]? = some (some d) → (hs a' β)[k]? = some (some d) := fun a a' k d hk h => (gs a' a β k hk).trans h
  have fl : ∀ a a' k, Fil (hs a β) k → Fil (hs a' β) k := fun a a' k hf => by
    by_cases e : k = c
    · subst e; exact ⟨_, g0 a' β⟩
    · exact ⟨_, gs' a a' k _ e hf.choose_spec⟩
  obtain ⟨S0, T1, hT, hd, hp, hz, hq, hw⟩ := hL _ _ _ (K.inv c _ (g0 a β))
  have TcS : ∀ b, T c b → S b := fun b hb => (K.foot c _ b (g0 a β) hb).1
  have n1 : ∀ k d, (hs a β)[k]? = some (some d) → ¬ T1 (ρ k).1 := fun k d hk h1 => by
    by_cases e : k = c
    · subst e; exact hp h1
    · exact ((K.sep c _ k d (g0 a β) hk (Ne.symm e)).2 _ ((hT _).2 (.inr h1))).1 rfl
  obtain ⟨d00, hd00⟩ := hf0
  have hp0 : ¬ T1 p.1 := by have := n1 0 d00 hd00; rw [h0] at this; exact this
  refine ⟨fun b => S b ∧ ¬ T1 b, T1, fun b => ⟨fun hb => ?_, fun hb => ?_⟩, fun b hb => hb.2, hp0, hz, hq, fun a2 T2 w2 h2 hd2 hp2 hz2 hq2 => ?_⟩
  · by_cases h1 : T1 b
    · exact .inr h1
    · exact .inl ⟨hb, h1⟩
  · rcases hb with hb | hb
    · exact hb.1
    · exact TcS b ((hT b).2 (.inr hb))
  have Tk : ∀ k d b, k ≠ c → (hs a β)[k]? = some (some d) → T k b → S b ∧ ¬ T1 b := fun k d b hk hkd hb => ⟨(K.foot k d b hkd hb).1, fun h1 => (K.sep k d c _ hkd (g0 a β) hk).2 b hb |>.2 ((hT b).2 (.inr h1))⟩
  have S0k : ∀ b, S0 b → S b ∧ ¬ T1 b := fun b hb => ⟨TcS b ((hT b).2 (.inl hb)), hd b hb⟩
  have blk : ∀ k d, (hs a β)[k]? = some (some d) → S (ρ k).1 ∧ ¬ T1 (ρ k).1 := fun k d hk => ⟨K.blk k d hk, n1 k d hk⟩
  have back : ∀ k d, (hs a2 β)[k]? = some (some d) → ∃ d0, (hs a β)[k]? = some (some d0) ∧ d.n = d0.n ∧ (∀ j, d.f j = d0.f j) ∧ (k ≠ c → d = d0) := fun k d hk => by
    by_cases e : k = c
    · subst e
      rw [g0] at hk
      obtain rfl := Option.some.inj (Option.some.inj hk)
      exact ⟨_, g0 a β, rfl, fun _ => rfl, fun h => absurd rfl h⟩
    · exact ⟨d, gs' a2 a k d e hk, rfl, fun _ => rfl, fun _ => rfl⟩
  have hpc : ¬ T2 (ρ c).1 := fun h => hd2 _ (blk c _ (g0 a β)) h
  refine ⟨.inl (by have := blk 0 d00 hd00; rw [h0] at this; exact this), β, hβ, ρ, fun k => if k = c then fun b => S0 b ∨ T2 b else T k, h0, fl a a2 0 ⟨d00, hd00⟩, fun k d hk => ?_, fun k d hk j hj => ?_, fun k d hk j hj => ?_, fun k d hk => ?_, fun k d b hk hb => ?_, fun k d l e hk hl hne => ?_⟩
  · obtain ⟨d0, hk0, _⟩ := back k d hk
    exact .inl (blk k d0 hk0)
  · obtain ⟨d0, hk0, hn, hf, _⟩ := back k d hk
    obtain ⟨x, hx, hxd⟩ := K.cell k d0 hk0 j (by omega)
    have e := h2 _ (blk k d0 hk0)
    refine ⟨x, ?_, ?_⟩
    · rw [← hx]; unfold World.cell?; simp only [e]
    · rw [hf j]; exact fun r hr => hxd r fun i hi => hr i (fl a a2 i hi)
  · obtain ⟨d0, hk0, hn, hf, _⟩ := back k d hk
    have e := h2 _ (blk k d0 hk0)
    rw [← K.own k d0 hk0 j (by omega)]; unfold World.frozen?; simp only [e]
  · by_cases e : k = c
    · subst e
      rw [g0] at hk
      obtain rfl := Option.some.inj (Option.some.inj hk)
      simp only [if_pos]
      exact hw a2 T2 w2 (fun b hb => h2 b (S0k b hb)) (fun b hb => hd2 b (S0k b hb)) hpc hz2 hq2
    · simp only [if_neg e]
      have hk0 := gs' a2 a k d e hk
      exact d.x.keep (K.inv k d hk0) fun b hb => h2 b (Tk k d b e hk0 hb)
  · by_cases e : k = c
    · subst e
      rw [g0] at hk
      obtain rfl := Option.some.inj (Option.some.inj hk)
      simp only [if_pos] at hb
      rcases hb with hb | hb
      · exact ⟨.inl (S0k b hb), (K.foot k _ b (g0 a β) ((hT b).2 (.inl hb))).2⟩
      · exact ⟨.inr hb, .inr fun e => hpc (e ▸ hb)⟩
    · simp only [if_neg e] at hb
      have hk0 := gs' a2 a k d e hk
      exact ⟨.inl (Tk k d b e hk0 hb), (K.foot k d b hk0 hb).2⟩
  · obtain ⟨d0, hk0, _⟩ := back k d hk
    obtain ⟨e0, hl0, _⟩ := back l e hl
    obtain ⟨s1, s2⟩ := K.sep k d0 l e0 hk0 hl0 hne
    refine ⟨s1, fun b hb => ?_⟩
    by_cases ek : k = c
    · subst ek
      simp only [if_pos] at hb
      have el : l ≠ k := Ne.symm hne
      simp only [if_neg el]
      rcases hb with hb | hb
      · exact s2 b ((hT b).2 (.inl hb))
      · exact ⟨fun e => hd2 _ (blk l e0 hl0) (e ▸ hb), fun h => hd2 b (Tk l e0 b el hl0 h) hb⟩
    · simp only [if_neg ek] at hb
      obtain ⟨a1, a2'⟩ := s2 b hb
      refine ⟨a1, fun h => ?_⟩
      by_cases el : l = c
      · subst el
        simp only [if_pos] at h
        rcases h with h | h
        · exact a2' ((hT b).2 (.inl h))
        · exact hd2 b (Tk k d0 b ek hk0 hb) h
      · simp only [if_neg el] at h
        exact a2' h
theorem fl_lens (F : FS) (m : Nat) (hm : m < F.n) : Lens (fun a => packX (flOK F) (flH {F with s := upd F.s m a})) ndX (F.g m) (F.s m) := by
  refine pack_lensM (Y := fun a => manyX ndX F.n F.g (upd F.s m a)) (flOK F) (fun a => flH {F with s := upd F.s m a}) 4 true F.n (fun _ => [(0, F.n, .agg ⟨segL F.n (fun j => .bool (F.on j))⟩)]) (fun a β => rfl) (fun a a' β k hk => ?_) (many_lens ndX F.g F.s hm (F.s m) rfl)
  match k, hk with
  | 0, _ => rfl
  | 1, _ => rfl
  | 2, _ => rfl
  | 3, _ => rfl
  | 4, hk => exact absurd rfl hk
  | 5, _ => rfl
  | 6, _ => rfl
  | k + 7, _ => rfl
theorem cFlHas (C : Nat → Int) (n cap iw ia io i0 ip m : Nat) (lost : Int) (hm : m < n) (f : Nat → Value) (h : List (Option Chunk)) (h0 : h[i0]? = some (some (flC C n iw ia io (.slice (some ⟨ip, 0, some 0⟩) n cap) lost))) (ha : ∃ c, h[ia]? = some (some c)) (hw : ∃ c, h[iw]? = some (some c)) (ho : ∃ c, h[io]? = some (some c)) (hp : ∃ c, h[ip]? = some (some c)) (hne : [i0, iw, ia, io, ip].Nodup) :
    CallOK Tryz.prog 30 [.pointer (some ⟨i0, 0, some 0⟩), .int .i64 (m : Int)] h (.bool true) [] [i0, iw, ia, io, ip] := by
  obtain ⟨ca, ha⟩ := ha
  obtain ⟨cw, hw⟩ := hw
  obtain ⟨co, ho⟩ := ho
  obtain ⟨cp, hp⟩ := hp
  simp only [List.nodup_cons, List.mem_cons, List.not_mem_nil, or_false, not_or, List.nodup_nil, and_true, not_false_eq_true] at hne
  refine call_sub (G := tys) [⟨i0, _, (@Chunk.mk Ext.none false 16 (flC C n 1 2 3 (.slice (some ⟨4, 0, some 0⟩) n cap) lost).ps), (@Chunk.mk Ext.none false 0 [])⟩, ⟨iw, cw, (@Chunk.mk Ext.none false 0 []), (@Chunk.mk Ext.none false 0 [])⟩, ⟨ia, ca, (@Chunk.mk Ext.none false 0 []), (@Chunk.mk Ext.none false 0 [])⟩, ⟨io, co, (@Chunk.mk Ext.none false 0 []), (@Chunk.mk Ext.none false 0 [])⟩, ⟨ip, cp, (@Chunk.mk Ext.none false 0 []), (@Chunk.mk Ext.none false 0 [])⟩] [] [.pointer (some ⟨0, 0, some 0⟩), .int .i64 (m : Int)] tysOK mixed Tryz.func30 (by rfl) (Tryz.call30) ⟨h0, hw, ha, ho, hp, trivial⟩ ⟨⟨fun h => (by cases h), Nat.le_refl _, lt16 (by first | exact Re1.plain rfl | exact Re1.ptr rfl | exact Re1.slice rfl) (by first | exact Re1.plain rfl | exact Re1.ptr rfl | exact Re1.slice rfl) (by first | exact Re1.plain rfl | exact Re1.ptr rfl | exact Re1.slice rfl) (by first | exact Re1.plain rfl | exact Re1.ptr rfl | exact Re1.slice rfl) (by first | exact Re1.plain rfl | exact Re1.ptr rfl | exact Re1.slice rfl) (by first | exact Re1.plain rfl | exact Re1.ptr rfl | exact Re1.slice rfl) (by first | exact Re1.plain rfl | exact Re1.ptr rfl | exact Re1.slice rfl) (by first | exact Re1.plain rfl | exact Re1.ptr rfl | exact Re1.slice rfl) (by first | exact Re1.plain rfl | exact Re1.ptr rfl | exact Re1.slice rfl) (by first | exact Re1.plain rfl | exact Re1.ptr rfl | exact Re1.slice rfl) (by first | exact Re1.plain rfl | exact Re1.ptr rfl | exact Re1.slice rfl) (by first | exact Re1.plain rfl | exact Re1.ptr rfl | exact Re1.slice rfl) (by first | exact Re1.plain rfl | exact Re1.ptr rfl | exact Re1.slice rfl) (by first | exact Re1.plain rfl | exact Re1.ptr rfl | exact Re1.slice rfl) (by first | exact Re1.plain rfl | exact Re1.ptr rfl | exact Re1.slice rfl) (by first | exact Re1.plain rfl | exact Re1.ptr rfl | exact Re1.slice rfl)⟩, ⟨fun h => (by cases h), Nat.zero_le _, fun j hj => absurd hj (Nat.not_lt_zero j)⟩, ⟨fun h => (by cases h), Nat.zero_le _, fun j hj => absurd hj (Nat.not_lt_zero j)⟩, ⟨fun h => (by cases h), Nat.zero_le _, fun j hj => absurd hj (Nat.not_lt_zero j)⟩, ⟨fun h => (by cases h), Nat.zero_le _, fun j hj => absurd hj (Nat.not_lt_zero j)⟩, trivial⟩ (by simp [Apart, *]) trivial ⟨.ptr rfl, .plain rfl, trivial⟩ ?_
  repeat' (refine N.go ?_; first | with_reducible refine N.forkT ?_ | refine N.forkYes (decide_eq_true (by omega)) ?_ | refine N.obl trivial ?_ | exact N.true | refine N.obl (reF_eqn (congrArg Value.bool (decide_eq_true (show (m : Int) < (n : Int) by omega)).symm) rfl) ?_ | fail)
theorem flClose {ss : List Piece} {h : List (Option Chunk)} {v : Value} {K : Value → List (Option Chunk) → Prop} (F : FS) (β : Nat × Nat) (hn : 0 < F.n) (hβ : flOK F β) (hss : ss.length = 1) (hpc : ∃ s, ss[0]? = some s ∧ s.e.x ≠ Ext.none ∧ Selfish s.e.x) (hh : ∀ k, k < 7 → h[k]? = (flH F β)[k]?)
    (hv : ∀ ρ ρ', AgreeOn (Fil (closeH (flP F) 0 [] h 0)) ρ ρ' → den ρ' v = den ρ v) (kk : K v (closeH (flP F) 0 [] h 0)) : N (EndN ss h v K) := by
  refine closeN (ok := flOK F) (hB := flH F) β 0 [(0, 0), (1, 1), (2, 2), (3, 3), (4, 4), (5, 5), (6, 6)] [] (fun l i hm' hl => ?_) (fun i hi => .inl (by omega)) hβ rfl ⟨_, rfl⟩ rfl rfl ?_ (fun k hk => by cases hk) (fun k hk => by cases hk) hv (List.getElem?_eq_some_iff.1 ((hh 0 (by decide)).trans rfl)).1 kk
  · obtain rfl : i = 0 := by omega
    exact hpc
  · intro l d hl
    match l, hl with
    | 0, hl =>
      obtain rfl : _ = d := by simpa using hl
      exact ⟨0, _, rfl, (hh 0 (by decide)).trans rfl, rfl, Nat.le_refl _, lt16 (by first | exact Re1.plain rfl | exact Re1.ptr rfl | exact Re1.slice rfl) (by first | exact Re1.plain rfl | exact Re1.ptr rfl | exact Re1.slice rfl) (by first | exact Re1.plain rfl | exact Re1.ptr rfl | exact Re1.slice rfl) (by first | exact Re1.plain rfl | exact Re1.ptr rfl | exact Re1.slice rfl) (by first | exact Re1.plain rfl | exact Re1.ptr rfl | exact Re1.slice rfl) (by first | exact Re1.plain rfl | exact Re1.ptr rfl | exact Re1.slice rfl) (by first | exact Re1.plain rfl | exact Re1.ptr rfl | exact Re1.slice rfl) (by first | exact Re1.plain rfl | exact Re1.ptr rfl | exact Re1.slice rfl) (by first | exact Re1.plain rfl | exact Re1.ptr rfl | exact Re1.slice rfl) (by first | exact Re1.plain rfl | exact Re1.ptr rfl | exact Re1.slice rfl) (by first | exact Re1.plain rfl | exact Re1.ptr rfl | exact Re1.slice rfl) (by first | exact Re1.plain rfl | exact Re1.ptr rfl | exact Re1.slice rfl) (by first | exact Re1.plain rfl | exact Re1.ptr rfl | exact Re1.slice rfl) (by first | exact Re1.plain rfl | exact Re1.ptr rfl | exact Re1.slice rfl) (by first | exact Re1.plain rfl | exact Re1.ptr rfl | exact Re1.slice rfl) (by first | exact Re1.plain rfl | exact Re1.ptr rfl | exact Re1.slice rfl), .inl rfl, .inl (by show 0 < 16; decide)⟩
    | 1, hl =>
      obtain rfl : _ = d := by simpa using hl
      exact ⟨1, _, rfl, (hh 1 (by decide)).trans rfl, rfl, Nat.le_refl _, lt15 (by first | exact Re1.plain rfl | exact Re1.ptr rfl | exact Re1.slice rfl) (by first | exact Re1.plain rfl | exact Re1.ptr rfl | exact Re1.slice rfl) (by first | exact Re1.plain rfl | exact Re1.ptr rfl | exact Re1.slice rfl) (by first | exact Re1.plain rfl | exact Re1.ptr rfl | exact Re1.slice rfl) (by first | exact Re1.plain rfl | exact Re1.ptr rfl | exact Re1.slice rfl) (by first | exact Re1.plain rfl | exact Re1.ptr rfl | exact Re1.slice rfl) (by first | exact Re1.plain rfl | exact Re1.ptr rfl | exact Re1.slice rfl) (by first | exact Re1.plain rfl | exact Re1.ptr rfl | exact Re1.slice rfl) (by first | exact Re1.plain rfl | exact Re1.ptr rfl | exact Re1.slice rfl) (by first | exact Re1.plain rfl | exact Re1.ptr rfl | exact Re1.slice rfl) (by first | exact Re1.plain rfl | exact Re1.ptr rfl | exact Re1.slice rfl) (by first | exact Re1.plain rfl | exact Re1.ptr rfl | exact Re1.slice rfl) (by first | exact Re1.plain rfl | exact Re1.ptr rfl | exact Re1.slice rfl) (by first | exact Re1.plain rfl | exact Re1.ptr rfl | exact Re1.slice rfl) (by first | exact Re1.plain rfl | exact Re1.ptr rfl | exact Re1.slice rfl), .inl rfl, .inl (by show 0 < 15; decide)⟩
    | 2, hl =>
      obtain rfl : _ = d := by simpa using hl
      exact ⟨2, _, rfl, (hh 2 (by decide)).trans rfl, rfl, Nat.le_refl _, ptP_re, .inl rfl, .inl (by show 0 < F.n * 2; omega)⟩
    | 3, hl =>
      obtain rfl : _ = d := by simpa using hl
      exact ⟨3, _, rfl, (hh 3 (by decide)).trans rfl, rfl, Nat.le_refl _, mvP_re, .inl rfl, .inl hn⟩
    | 4, hl =>
      obtain rfl : _ = d := by simpa using hl
      exact ⟨4, _, rfl, (hh 4 (by decide)).trans rfl, rfl, Nat.le_refl _, (on_ren fun _ _ => rfl).re, .inr rfl, .inl hn⟩
    | 5, hl =>
      obtain rfl : _ = d := by simpa using hl
      exact ⟨5, _, rfl, (hh 5 (by decide)).trans rfl, rfl, Nat.le_refl _, pr_ren.re, .inl rfl, .inl (by have := hβ.2; show 0 < β.2; omega)⟩
    | 6, hl =>
      obtain rfl : _ = d := by simpa using hl
      exact ⟨6, _, rfl, (hh 6 (by decide)).trans rfl, rfl, Nat.le_refl _, fun j hj => absurd hj (Nat.not_lt_zero j), .inr rfl, .inr packX_selfish⟩
    | l + 7, hl => simp at hl
theorem lt7F {p : Nat → Prop} (h0 : p 0) (h1 : p 1) (h2 : p 2) (h3 : p 3) (h4 : p 4) (h5 : p 5) (h6 : p 6) : ∀ k, k < 7 → p k := fun k hk => by
  match k, hk with
  | 0, _ => exact h0
  | 1, _ => exact h1
  | 2, _ => exact h2
  | 3, _ => exact h3
  | 4, _ => exact h4
  | 5, _ => exact h5
  | 6, _ => exact h6
theorem cFlNodeAt (F : FS) (m : Nat) (hm : m < F.n) (i : Nat) (h : List (Option Chunk)) (hi : h[i]? = some (some (flP F))) :
    CallAll Tryz.prog 11 [.pointer (some ⟨i, 0, some 0⟩), .int .i64 (m : Int)] h fun v ms => v = realP (F.g m) ∧ ms = [(i, flP F)] := by
  have key := call_resall (G := tys) (h := h) (vs := [.pointer (some ⟨i, 0, some 0⟩), .int .i64 (m : Int)]) (flOK F) (flH F) (α := Unit) (fun κ => True) (fun κ => realP (F.g m)) [⟨i, flP F, flP F, flP F⟩] (fun κ => [flP F]) (fun κ => []) [.pointer (some ⟨0, 0, some 0⟩), .int .i64 (m : Int)] tysOK mixed Tryz.func11 (by rfl) (Tryz.call11) ⟨hi, trivial⟩ ⟨⟨fun h => ⟨rfl, Nat.le_refl _⟩, Nat.le_refl _, fun j hj => absurd hj (Nat.not_lt_zero j)⟩, trivial⟩ (fun κ _ => ⟨⟨fun h => ⟨rfl, Nat.le_refl _⟩, Nat.le_refl _, fun j hj => absurd hj (Nat.not_lt_zero j)⟩, trivial⟩) (by simp [Apart]) ⟨.inr ⟨rfl, rfl⟩, trivial⟩ (fun κ _ => trivial) ⟨.ptr rfl, .plain rfl, trivial⟩ pack_opens ?_
  · refine callAll_mono key fun v ms hR => ?_
    obtain ⟨κ, _, rfl, rfl⟩ := hR
    exact ⟨rfl, rfl⟩
  intro β hβ
  repeat' (refine N.go ?_; first | refine N.forkNo (by decide) ?_ | refine N.call (cFlHas F.C F.n β.2 1 6 4 0 5 m F.lost hm (prF F.g F.n) _ (by rfl) ⟨_, by rfl⟩ ⟨_, by rfl⟩ ⟨_, by rfl⟩ ⟨_, by rfl⟩ (by decide)) ?_ | refine N.idx m 1 rfl hm ?_ | refine N.load _ (rd_pr hm hβ.2 rfl) ?_ | fail)
  refine N.go ?_
  refine flClose F β (by omega) hβ rfl ⟨_, rfl, flP_ne F, packX_selfish⟩ (lt7F rfl rfl rfl rfl rfl rfl rfl) (fun ρ ρ' _ => rfl) ?_
  refine N.some () ⟨trivial, ?_⟩
  refine N.obl (.plain rfl) ?_
  refine N.obl ⟨⟨_, rfl, fun h => h, Nat.le_refl _, fun j hj => absurd hj (Nat.not_lt_zero j)⟩, trivial⟩ ?_
  refine N.obl trivial ?_
  refine N.obl ⟨⟨.inr ⟨_, rfl, rfl⟩, trivial⟩, trivial⟩ ?_
  exact N.true
theorem cFlTime (F : FS) (hn : 0 < F.n) (i : Nat) (h : List (Option Chunk)) (hi : h[i]? = some (some (flP F))) :
    CallAll Tryz.prog 15 [.pointer (some ⟨i, 0, some 0⟩)] h fun v ms => v = .int .i64 F.tm ∧ ms = [(i, flP F)] := by
  have key := call_resall (G := tys) (h := h) (vs := [.pointer (some ⟨i, 0, some 0⟩)]) (flOK F) (flH F) (α := Unit) (fun κ => True) (fun κ => .int .i64 F.tm) [⟨i, flP F, flP F, flP F⟩] (fun κ => [flP F]) (fun κ => []) [.pointer (some ⟨0, 0, some 0⟩)] tysOK mixed Tryz.func15 (by rfl) (Tryz.call15) ⟨hi, trivial⟩ ⟨⟨fun h => ⟨rfl, Nat.le_refl _⟩, Nat.le_refl _, fun j hj => absurd hj (Nat.not_lt_zero j)⟩, trivial⟩ (fun κ _ => ⟨⟨fun h => ⟨rfl, Nat.le_refl _⟩, Nat.le_refl _, fun j hj => absurd hj (Nat.not_lt_zero j)⟩, trivial⟩) (by simp [Apart]) ⟨.inr ⟨rfl, rfl⟩, trivial⟩ (fun κ _ => trivial) ⟨.ptr rfl, trivial⟩ pack_opens ?_
  · refine callAll_mono key fun v ms hR => ?_
    obtain ⟨κ, _, rfl, rfl⟩ := hR
    exact ⟨rfl, rfl⟩
  intro β hβ
  repeat' (refine N.go ?_; first | with_reducible refine N.forkF ?_ | refine N.call (cTime F.C F.n β.1 1 2 3 F.P F.M F.tm F.st true true true _ (by rfl) (by rfl) (by rfl)) ?_ | fail)
  refine N.go ?_
  refine flClose F β (by omega) hβ rfl ⟨_, rfl, flP_ne F, packX_selfish⟩ (lt7F rfl rfl rfl rfl rfl rfl rfl) (fun ρ ρ' _ => rfl) ?_
  refine N.some () ⟨trivial, ?_⟩
  refine N.obl (.plain rfl) ?_
  refine N.obl ⟨⟨_, rfl, fun h => h, Nat.le_refl _, fun j hj => absurd hj (Nat.not_lt_zero j)⟩, trivial⟩ ?_
  refine N.obl trivial ?_
  refine N.obl ⟨⟨.inr ⟨_, rfl, rfl⟩, trivial⟩, trivial⟩ ?_
  exact N.true
theorem cFlReport (F : FS) (m : Nat) (hm : m < F.n) (hE : (F.s m).T.E = []) (i k : Nat) (h : List (Option Chunk)) (hi : h[i]? = some (some (flP F))) (hk : h[k]? = some none) :
    CallAll Tryz.prog 12 [realP (F.g m)] h fun v ms => v = rpV (F.s m).fv (F.s m).fx (F.s m).fy (F.s m).fa (F.s m).fb (F.s m).fd (.slice none 0 0) ∧ ms = [(i, flP F)] := by
  have hkl := (List.getElem?_eq_some_iff.1 hk).1
  have hF : ({F with s := upd F.s m (F.s m)} : FS) = F := by rw [upd_self]
  have key := cReport0 (F.s m) hE k ((h.set i (some (@Chunk.mk (wandX (fun a => packX (flOK F) (flH {F with s := upd F.s m a})) ndX (F.g m)) true 0 []))).set k (some (@Chunk.mk (ndX (F.s m)) true 0 []))) (List.getElem?_set_self (by simpa using hkl))
  have hi' : h[i]? = some (some (@Chunk.mk (packX (flOK F) (flH {F with s := upd F.s m (F.s m)})) true 0 [])) := by rw [hi, hF]
  refine call_lens (vs' := [.pointer (some ⟨k, 0, some 0⟩)]) (Y := fun a => packX (flOK F) (flH {F with s := upd F.s m a})) (Z := ndX) (q := F.g m) (a := F.s m) i k hi' hk (fl_lens F m hm) ndX_self ⟨.ptr, trivial⟩ (callOK_all key) fun v ms hR => ?_
  obtain ⟨rfl, rfl⟩ := hR
  refine ⟨F.s m, [], ?_, (fun m hm => by cases hm), (fun r r' _ => by simp [den, den2, den1, den0, denA]), rfl, ?_⟩
  · show List.set _ _ _ = _
    rw [List.set_set]
    rfl
  · rw [hF]
end Go.Proofs.YtdljelmbjdjpjaaGreat


namespace Go.Proofs.YtdljelmbjdjpjaaGreat
open Go Go.RowKit Sx
theorem cFlLen (F : FS) (hn : 0 < F.n) (i : Nat) (h : List (Option Chunk)) (hi : h[i]? = some (some (flP F))) :
    CallAll Tryz.prog 13 [.pointer (some ⟨i, 0, some 0⟩)] h fun v ms => v = .int .i64 (F.L.length : Nat) ∧ ms = [(i, flP F)] := by
  have key := call_resall (G := tys) (h := h) (vs := [.pointer (some ⟨i, 0, some 0⟩)]) (flOK F) (flH F) (α := Unit) (fun κ => True) (fun κ => .int .i64 (F.L.length : Nat)) [⟨i, flP F, flP F, flP F⟩] (fun κ => [flP F]) (fun κ => []) [.pointer (some ⟨0, 0, some 0⟩)] tysOK mixed Tryz.func13 (by rfl) (Tryz.call13) ⟨hi, trivial⟩ ⟨⟨fun h => ⟨rfl, Nat.le_refl _⟩, Nat.le_refl _, fun j hj => absurd hj (Nat.not_lt_zero j)⟩, trivial⟩ (fun κ _ => ⟨⟨fun h => ⟨rfl, Nat.le_refl _⟩, Nat.le_refl _, fun j hj => absurd hj (Nat.not_lt_zero j)⟩, trivial⟩) (by simp [Apart]) ⟨.inr ⟨rfl, rfl⟩, trivial⟩ (fun κ _ => trivial) ⟨.ptr rfl, trivial⟩ pack_opens ?_
  · refine callAll_mono key fun v ms hR => ?_
    obtain ⟨κ, _, rfl, rfl⟩ := hR
    exact ⟨rfl, rfl⟩
  intro β hβ
  repeat' (refine N.go ?_; first | with_reducible refine N.forkF ?_ | refine N.call (cLenM F.L 6 _ (by rfl)) ?_ | fail)
  refine N.go ?_
  refine flClose F β (by omega) hβ rfl ⟨_, rfl, flP_ne F, packX_selfish⟩ (lt7F rfl rfl rfl rfl rfl rfl rfl) (fun ρ ρ' _ => rfl) ?_
  refine N.some () ⟨trivial, ?_⟩
  refine N.obl (.plain rfl) ?_
  refine N.obl ⟨⟨_, rfl, fun h => h, Nat.le_refl _, fun j hj => absurd hj (Nat.not_lt_zero j)⟩, trivial⟩ ?_
  refine N.obl trivial ?_
  refine N.obl ⟨⟨.inr ⟨_, rfl, rfl⟩, trivial⟩, trivial⟩ ?_
  exact N.true
theorem flCloseO {ss : List Piece} {h : List (Option Chunk)} {v : Value} {K : Value → List (Option Chunk) → Prop} (W : World) (B : List By) (F : FS) (β : Nat × Nat) (hn : 0 < F.n) (hβ : flOK F β) (hss : ss.length = 2) (hpc : ∃ s, ss[0]? = some s ∧ s.e.x ≠ Ext.none ∧ Selfish s.e.x) (hh : ∀ k, k < 8 → h[k]? = (flO W B F β)[k]?)
    (hv : ∀ ρ ρ', AgreeOn (Fil (closeH (flP F) 0 [1] h 0)) ρ ρ' → den ρ' v = den ρ v) (kk : K v (closeH (flP F) 0 [1] h 0)) : N (EndN ss h v K) := by
  refine closeN (ok := flOK F) (hB := flH F) β 0 [(0, 0), (1, 2), (2, 3), (3, 4), (4, 5), (5, 6), (6, 7)] [1] (fun l i hm' hl => ?_) (fun i hi => ?_) hβ rfl ⟨_, rfl⟩ rfl rfl ?_ (fun k hk l i hm' => ?_) (safeM ((hh 1 (by decide)).trans rfl)) hv (List.getElem?_eq_some_iff.1 ((hh 0 (by decide)).trans rfl)).1 kk
  · simp only [List.mem_cons, Prod.mk.injEq, List.not_mem_nil, or_false] at hm'
    obtain rfl : i = 0 := by omega
    exact hpc
  · rcases (by omega : i = 0 ∨ i = 1) with rfl | rfl
    · exact .inl rfl
    · exact .inr (List.mem_singleton.2 rfl)
  · intro l d hl
    match l, hl with
    | 0, hl =>
      obtain rfl : _ = d := by simpa using hl
      exact ⟨0, _, rfl, (hh 0 (by decide)).trans rfl, rfl, Nat.le_refl _, lt16 (by first | exact Re1.plain rfl | exact Re1.ptr rfl | exact Re1.slice rfl) (by first | exact Re1.plain rfl | exact Re1.ptr rfl | exact Re1.slice rfl) (by first | exact Re1.plain rfl | exact Re1.ptr rfl | exact Re1.slice rfl) (by first | exact Re1.plain rfl | exact Re1.ptr rfl | exact Re1.slice rfl) (by first | exact Re1.plain rfl | exact Re1.ptr rfl | exact Re1.slice rfl) (by first | exact Re1.plain rfl | exact Re1.ptr rfl | exact Re1.slice rfl) (by first | exact Re1.plain rfl | exact Re1.ptr rfl | exact Re1.slice rfl) (by first | exact Re1.plain rfl | exact Re1.ptr rfl | exact Re1.slice rfl) (by first | exact Re1.plain rfl | exact Re1.ptr rfl | exact Re1.slice rfl) (by first | exact Re1.plain rfl | exact Re1.ptr rfl | exact Re1.slice rfl) (by first | exact Re1.plain rfl | exact Re1.ptr rfl | exact Re1.slice rfl) (by first | exact Re1.plain rfl | exact Re1.ptr rfl | exact Re1.slice rfl) (by first | exact Re1.plain rfl | exact Re1.ptr rfl | exact Re1.slice rfl) (by first | exact Re1.plain rfl | exact Re1.ptr rfl | exact Re1.slice rfl) (by first | exact Re1.plain rfl | exact Re1.ptr rfl | exact Re1.slice rfl) (by first | exact Re1.plain rfl | exact Re1.ptr rfl | exact Re1.slice rfl), .inl rfl, .inl (by show 0 < 16; decide)⟩
    | 1, hl =>
      obtain rfl : _ = d := by simpa using hl
      exact ⟨2, _, rfl, (hh 2 (by decide)).trans rfl, rfl, Nat.le_refl _, lt15 (by first | exact Re1.plain rfl | exact Re1.ptr rfl | exact Re1.slice rfl) (by first | exact Re1.plain rfl | exact Re1.ptr rfl | exact Re1.slice rfl) (by first | exact Re1.plain rfl | exact Re1.ptr rfl | exact Re1.slice rfl) (by first | exact Re1.plain rfl | exact Re1.ptr rfl | exact Re1.slice rfl) (by first | exact Re1.plain rfl | exact Re1.ptr rfl | exact Re1.slice rfl) (by first | exact Re1.plain rfl | exact Re1.ptr rfl | exact Re1.slice rfl) (by first | exact Re1.plain rfl | exact Re1.ptr rfl | exact Re1.slice rfl) (by first | exact Re1.plain rfl | exact Re1.ptr rfl | exact Re1.slice rfl) (by first | exact Re1.plain rfl | exact Re1.ptr rfl | exact Re1.slice rfl) (by first | exact Re1.plain rfl | exact Re1.ptr rfl | exact Re1.slice rfl) (by first | exact Re1.plain rfl | exact Re1.ptr rfl | exact Re1.slice rfl) (by first | exact Re1.plain rfl | exact Re1.ptr rfl | exact Re1.slice rfl) (by first | exact Re1.plain rfl | exact Re1.ptr rfl | exact Re1.slice rfl) (by first | exact Re1.plain rfl | exact Re1.ptr rfl | exact Re1.slice rfl) (by first | exact Re1.plain rfl | exact Re1.ptr rfl | exact Re1.slice rfl), .inl rfl, .inl (by show 0 < 15; decide)⟩
    | 2, hl =>
      obtain rfl : _ = d := by simpa using hl
      exact ⟨3, _, rfl, (hh 3 (by decide)).trans rfl, rfl, Nat.le_refl _, ptP_re, .inl rfl, .inl (by show 0 < F.n * 2; omega)⟩
    | 3, hl =>
      obtain rfl : _ = d := by simpa using hl
      exact ⟨4, _, rfl, (hh 4 (by decide)).trans rfl, rfl, Nat.le_refl _, mvP_re, .inl rfl, .inl hn⟩
    | 4, hl =>
      obtain rfl : _ = d := by simpa using hl
      exact ⟨5, _, rfl, (hh 5 (by decide)).trans rfl, rfl, Nat.le_refl _, (on_ren fun _ _ => rfl).re, .inr rfl, .inl hn⟩
    | 5, hl =>
      obtain rfl : _ = d := by simpa using hl
      exact ⟨6, _, rfl, (hh 6 (by decide)).trans rfl, rfl, Nat.le_refl _, pr_ren.re, .inl rfl, .inl (by have := hβ.2; show 0 < β.2; omega)⟩
    | 6, hl =>
      obtain rfl : _ = d := by simpa using hl
      exact ⟨7, _, rfl, (hh 7 (by decide)).trans rfl, rfl, Nat.le_refl _, fun j hj => absurd hj (Nat.not_lt_zero j), .inr rfl, .inr packX_selfish⟩
    | l + 7, hl => simp at hl
  · obtain rfl := List.mem_singleton.1 hk
    simp only [List.mem_cons, Prod.mk.injEq, List.not_mem_nil, or_false] at hm'
    omega
theorem lt8F {p : Nat → Prop} (h0 : p 0) (h1 : p 1) (h2 : p 2) (h3 : p 3) (h4 : p 4) (h5 : p 5) (h6 : p 6) (h7 : p 7) : ∀ k, k < 8 → p k := fun k hk => by
  match k, hk with
  | 0, _ => exact h0
  | 1, _ => exact h1
  | 2, _ => exact h2
  | 3, _ => exact h3
  | 4, _ => exact h4
  | 5, _ => exact h5
  | 6, _ => exact h6
  | 7, _ => exact h7
theorem cFlDeliverS (W : World) (B : List By) (F : FS) (hn : 1 ≤ F.n ∧ F.n ≤ 64) (ht : 0 ≤ F.tm ∧ F.tm ≤ 1000000) (hst : 0 ≤ F.st ∧ F.st ≤ 16777215) (A : List Am) (hA : AirA W B F.L A) (x : Nat) (a : Am) (ha : A[x]? = some a) (hg : F.tm * 16777216 + min (F.st + 1) 16777215 < a.tr) (i j : Nat) (hij : i ≠ j) (h : List (Option Chunk)) (hi : h[i]? = some (some (flP F))) (hj : h[j]? = some (some (memC W B))) :
    CallAll Tryz.prog 28 [.pointer (some ⟨i, 0, some 0⟩), .int .i64 (x : Nat)] h fun v ms => ∃ B', (∀ e, e ∈ B → e ∈ B') ∧ v = .int .i64 10 ∧ ms = [(i, flP {F with st := min (F.st + 1) 16777215}), (j, memC W B')] := by
  have key := call_resall (G := tys) (h := h) (vs := [.pointer (some ⟨i, 0, some 0⟩), .int .i64 (x : Nat)]) (flOK F) (flO W B F) (α := List By) (fun κ => ∀ e, e ∈ B → e ∈ κ) (fun κ => .int .i64 10) [⟨i, flP F, flP F, flP F⟩, ⟨j, memC W B, memC W B, memC W B⟩] (fun κ => [flP {F with st := min (F.st + 1) 16777215}, memC W κ]) (fun κ => []) [.pointer (some ⟨0, 0, some 0⟩), .int .i64 (x : Nat)] tysOK mixed Tryz.func28 (by rfl) (Tryz.call28) ⟨hi, hj, trivial⟩ ⟨⟨fun h => ⟨rfl, Nat.le_refl _⟩, Nat.le_refl _, fun j hj => absurd hj (Nat.not_lt_zero j)⟩, ⟨fun h => ⟨rfl, Nat.le_refl _⟩, Nat.le_refl _, fun j hj => absurd hj (Nat.not_lt_zero j)⟩, trivial⟩ (fun κ _ => ⟨⟨fun h => ⟨rfl, Nat.le_refl _⟩, Nat.le_refl _, fun j hj => absurd hj (Nat.not_lt_zero j)⟩, ⟨fun h => ⟨rfl, Nat.le_refl _⟩, Nat.le_refl _, fun j hj => absurd hj (Nat.not_lt_zero j)⟩, trivial⟩) (by simp [Apart, hij]) ⟨.inr ⟨rfl, rfl⟩, .inr ⟨rfl, rfl⟩, trivial⟩ (fun κ _ => trivial) ⟨.ptr rfl, .plain rfl, trivial⟩ fl_opens2 ?_
  · refine callAll_mono key fun v ms hR => ?_
    obtain ⟨κ, hκ, rfl, rfl⟩ := hR
    exact ⟨κ, hκ, rfl, rfl⟩
  intro β hβ
  obtain ⟨m, hm, hma⟩ := hA.get ha
  have htr := hma.tr
  repeat' (refine N.go ?_; first | fail)
  refine N.go ?_
  refine N.callAll (cGetM W B F.L x m a.bs 7 1 (by decide) _ (by rfl) (by rfl) hm hma.src (by have := hma.len; omega)) fun v ms hR => ?_
  obtain ⟨u', B', hmade, rfl, rfl⟩ := hR
  repeat' (refine N.go ?_; first | with_reducible refine N.obl rfl ?_ | refine N.forkNo (by decide) ?_ | refine N.call (cStep F.C F.n β.1 2 3 4 F.P F.M F.tm F.st true true _ (by rfl) (by rfl) (by rfl) (by decide) (by decide) ht hst) ?_ | refine N.forkYes (decide_eq_true (by omega)) ?_ | fail)
  refine N.go ?_
  refine flCloseO W B' {F with st := min (F.st + 1) 16777215} β (by show 0 < F.n; omega) hβ rfl ⟨_, rfl, flP_ne F, packX_selfish⟩ (lt8F rfl rfl rfl rfl rfl rfl rfl rfl) (fun ρ ρ' _ => rfl) ?_
  refine N.some B' ⟨made_mono hmade, ?_⟩
  refine N.obl (.plain rfl) ?_
  refine N.obl ⟨⟨_, rfl, fun h => h, Nat.le_refl _, fun j hj => absurd hj (Nat.not_lt_zero j)⟩, ⟨_, rfl, fun h => h, Nat.le_refl _, fun j hj => absurd hj (Nat.not_lt_zero j)⟩, trivial⟩ ?_
  refine N.obl trivial ?_
  refine N.obl ⟨⟨.inr ⟨_, rfl, rfl⟩, .inr ⟨_, rfl, rfl⟩, trivial⟩, trivial⟩ ?_
  exact N.true
end Go.Proofs.YtdljelmbjdjpjaaGreat


namespace Go.Proofs.YtdljelmbjdjpjaaGreat
open Go Go.RowKit Sx
theorem g1 {p : Nat → Prop} (h : p 0) : ∀ j, j < 1 → p j := fun j hj => by
  obtain rfl : j = 0 := by omega
  exact h
end Go.Proofs.YtdljelmbjdjpjaaGreat


namespace Go.Proofs.YtdljelmbjdjpjaaGreat
open Go Go.RowKit Sx
end Go.Proofs.YtdljelmbjdjpjaaGreat


namespace Go.Proofs.YtdljelmbjdjpjaaGreat
open Go Go.RowKit Sx
end Go.Proofs.YtdljelmbjdjpjaaGreat


namespace Go.Proofs.YtdljelmbjdjpjaaGreat
open Go Go.RowKit Sx
abbrev stepV (k nd n px py qx qy ex ey ea eb ed x b : Int) (u : Value) : Value := .agg ⟨[.int .i64 k, .int .i64 nd, .int .i64 n, .int .i64 px, .int .i64 py, .int .i64 qx, .int .i64 qy, .int .i64 ex, .int .i64 ey, .int .i64 ea, .int .i64 eb, .int .i64 ed, .int .i64 x, .int .u8 b, u]⟩
theorem cFlDoTick (W : World) (B : List By) (F : FS) (hn : 1 ≤ F.n ∧ F.n ≤ 64) (h4 : 0 ≤ F.C 4 ∧ F.C 4 ≤ 100) (h5 : 0 ≤ F.C 5 ∧ F.C 5 ≤ 1000) (ht : 0 ≤ F.tm ∧ F.tm < 750000) (hl : 0 ≤ F.lost ∧ F.lost ≤ 1000000) (A : List Am) (hA : AirA W B F.L A) (hN : ∀ m, m < F.n → NdOK (F.s m)) (i j : Nat) (hij : i ≠ j) (h : List (Option Chunk)) (hi : h[i]? = some (some (flP F))) (hj : h[j]? = some (some (memC W B))) :
    CallAll Tryz.prog 10 [.pointer (some ⟨i, 0, some 0⟩), stepV 2 0 0 0 0 0 0 0 0 0 0 0 0 0 (.slice none 0 0)] h fun v ms => ∃ L' B', AirA W B' L' (tickZ F A F.n).2.1 ∧ (∀ e, e ∈ B → e ∈ B') ∧ v = .int .i64 0 ∧ ms = [(i, flP (tickF F L' (tickZ F A F.n))), (j, memC W B')] := by
  have key := call_resall (G := tys) (h := h) (vs := [.pointer (some ⟨i, 0, some 0⟩), stepV 2 0 0 0 0 0 0 0 0 0 0 0 0 0 (.slice none 0 0)]) (fun _ : Unit => True) (fun _ => _) (α := List Ml × List By) (fun κ => AirA W κ.2 κ.1 (tickZ F A F.n).2.1 ∧ ∀ e, e ∈ B → e ∈ κ.2) (fun κ => .int .i64 0) [⟨i, flP F, flP F, flP F⟩, ⟨j, memC W B, memC W B, memC W B⟩] (fun κ => [flP (tickF F κ.1 (tickZ F A F.n)), memC W κ.2]) (fun κ => []) [.pointer (some ⟨0, 0, some 0⟩), stepV 2 0 0 0 0 0 0 0 0 0 0 0 0 0 (.slice none 0 0)] tysOK mixed Tryz.func10 (by rfl) (Tryz.call10) ⟨hi, hj, trivial⟩ ⟨⟨fun h => ⟨rfl, Nat.le_refl _⟩, Nat.le_refl _, fun j hj => absurd hj (Nat.not_lt_zero j)⟩, ⟨fun h => ⟨rfl, Nat.le_refl _⟩, Nat.le_refl _, fun j hj => absurd hj (Nat.not_lt_zero j)⟩, trivial⟩ (fun κ _ => ⟨⟨fun h => ⟨rfl, Nat.le_refl _⟩, Nat.le_refl _, fun j hj => absurd hj (Nat.not_lt_zero j)⟩, ⟨fun h => ⟨rfl, Nat.le_refl _⟩, Nat.le_refl _, fun j hj => absurd hj (Nat.not_lt_zero j)⟩, trivial⟩) (by simp [Apart, hij]) ⟨.inr ⟨rfl, rfl⟩, .inr ⟨rfl, rfl⟩, trivial⟩ (fun κ _ => trivial) ⟨.ptr rfl, .plain rfl, trivial⟩ Opens.same ?_
  · refine callAll_mono key fun v ms hR => ?_
    obtain ⟨κ, hκ, rfl, rfl⟩ := hR
    exact ⟨κ.1, κ.2, hκ.1, hκ.2, rfl, rfl⟩
  rintro ⟨⟩ -
  repeat' (refine N.go ?_; first | with_reducible (first | refine N.obl (by decide) ?_ | refine N.forkF ?_) | refine N.forkNo (by decide) ?_ | refine N.forkYes (by decide) ?_ | fail)
  refine N.go ?_
  refine N.callAll (cFlTickF W B F hn h4 h5 ht hl A hA hN 0 1 (by decide) _ (by rfl) (by rfl)) fun v ms hR => ?_
  obtain ⟨L', B', hA', hM', rfl, rfl⟩ := hR
  repeat' (refine N.go ?_; first | fail)
  refine N.go ?_
  refine N.endSame ?_
  refine N.some (L', B') ⟨⟨hA', hM'⟩, ?_⟩
  refine N.obl (.plain rfl) ?_
  refine N.obl ⟨⟨_, rfl, fun h => h, Nat.le_refl _, fun j hj => absurd hj (Nat.not_lt_zero j)⟩, ⟨_, rfl, fun h => h, Nat.le_refl _, fun j hj => absurd hj (Nat.not_lt_zero j)⟩, trivial⟩ ?_
  refine N.obl trivial ?_
  refine N.obl ⟨⟨.inr ⟨_, rfl, rfl⟩, .inr ⟨_, rfl, rfl⟩, trivial⟩, trivial⟩ ?_
  exact N.true
end Go.Proofs.YtdljelmbjdjpjaaGreat


namespace Go.Proofs.YtdljelmbjdjpjaaGreat
open Go Go.RowKit Sx
abbrev noW : World := default
theorem noW_size : noW.heap.size = 0 := rfl
theorem don_at {X : Ctx} {ρ : Nat → Nat × Nat} {h : List (Option Chunk)} {w : World} {i : Nat} {c : Chunk} (H : HOK X ρ h w) (hi : h[i]? = some (some c)) (ho : c.own = true) : HOK X ρ (h.set i (some (memC noW []))) w := by
  obtain ⟨S, E⟩ := H.ext
  refine H.turnX E hi (d := memC noW []) (S' := fun _ => False) (fun _ => ho) (Nat.zero_le _) (fun j hj => absurd hj (Nat.not_lt_zero j)) rfl rfl rfl (Nat.le_refl _) (fun b _ _ => rfl) (fun b hb => hb.elim) ?_
  refine ⟨fun h => absurd h (by rw [noW_size]; decide), fun b => ⟨fun h => h.elim, fun h => ?_⟩, by rw [noW_size]; exact Nat.zero_le _, fun b hb => absurd hb (by rw [noW_size]; exact Nat.not_lt_zero b), List.nodup_nil, fun e he => by cases he⟩
  rcases h with h | ⟨e, he, _⟩
  · rw [noW_size] at h; exact absurd h (Nat.not_lt_zero b)
  · cases he
theorem call_donor {P : Program} {g : FuncId} {vs : List Value} {h : List (Option Chunk)} {R : Value → List (Nat × Chunk) → Prop} (i : Nat) {c : Chunk} (hi : h[i]? = some (some c)) (ho : c.own = true)
    (hc : CallAll P g vs (h.set i (some (memC noW []))) R) (hm : ∀ v ms, R v ms → modH (h.set i (some (memC noW []))) ms = modH h ms) : CallAll P g vs h R := fun X ρ w xs H hx => by
  have hil := (List.getElem?_eq_some_iff.1 hi).1
  have fil : ∀ j, Fil h j → Fil (h.set i (some (memC noW []))) j := fun j hj => hj.set
  have key := hc X ρ w xs (don_at H hi ho) (all2_more hx fun v _ x hd => hd.more (AgreeOn.refl _ _) fil)
  have fix : ∀ x w', (∃ v ms ρ', R v ms ∧ AgreeOn (Fil (h.set i (some (memC noW [])))) ρ ρ' ∧ HOK X ρ' (modH (h.set i (some (memC noW []))) ms) w' ∧ Den (Fil (modH (h.set i (some (memC noW []))) ms)) ρ' v x) → ∃ v ms ρ', R v ms ∧ AgreeOn (Fil h) ρ ρ' ∧ HOK X ρ' (modH h ms) w' ∧ Den (Fil (modH h ms)) ρ' v x := by
    rintro x w' ⟨v, ms, ρ', hr, ha, hh, hd⟩
    rw [hm v ms hr] at hh hd
    exact ⟨v, ms, ρ', hr, fun j hj => ha j (fil j hj), hh, hd⟩
  rcases key with ⟨x, w', h1, h2⟩ | ⟨h1, h2⟩
  · exact .inl ⟨x, w', h1, fix _ _ h2⟩
  · refine .inr ⟨h1, h2.mono ?_⟩
    rintro e w' ⟨x, he, h3⟩
    exact ⟨x, he, fix _ _ h3⟩
end Go.Proofs.YtdljelmbjdjpjaaGreat


namespace Go.Proofs.YtdljelmbjdjpjaaGreat
open Go Go.RowKit Sx
end Go.Proofs.YtdljelmbjdjpjaaGreat


namespace Go.Proofs.YtdljelmbjdjpjaaGreat
open Go Go.RowKit Sx
theorem inner_bytes {H : Type} {enc : TypeId × Value → H} {W : World} {fuel : Nat} {v : Value} {x : DataW H × List MemPlace} (hf : DataW.trod enc Tryz.prog W 0 (fun _ => true) true fuel 39 [v] = some x) : ∃ u bs, v = uR u ∧ Src W [] u bs := by
  rcases Deep.open_slice Tryz.underlying39 hf with ⟨hcs, hx⟩ | ⟨a, len, cap, m, n, D, Pl, hcs, hb, hl, hm, hmm, hx, hi⟩
  · obtain rfl : v = .slice none 0 0 := by simpa using hcs
    exact ⟨none, [], rfl, .nil⟩
  · obtain rfl : v = .slice (some a) len cap := by simpa using hcs
    have hmc : m = cap := by simpa using hmm
    subst hmc
    have hC : Tryz.prog.cellsOf 5 = 1 := by kernel_rfl
    rw [hC] at hi
    have key : ∀ i, i < len → ∃ z, W.cell? (a.add i) = some (.int .u8 z) := fun i hil => by
      obtain ⟨cs', hc, ht'⟩ := hi i (by omega)
      obtain ⟨_, hcl, hat⟩ := World.cells?_some hc
      obtain ⟨z, hz, _, _⟩ := DataW.trod_int Tryz.underlying5 ht'
      have := hat 0 (by omega)
      rw [hz, Nat.mul_one] at this
      have e : (a.add i).add 0 = a.add i := by simp [Addr.add]
      rw [e] at this
      exact ⟨z, by simpa using this⟩
    obtain ⟨b, o, sp⟩ := a
    have hsp : sp = none ∨ len = 0 := by
      cases sp with
      | none => exact .inl rfl
      | some t =>
        rcases Nat.eq_zero_or_pos len with h0 | h0
        · exact .inr h0
        · obtain ⟨z, hz⟩ := key 0 h0
          simp [Addr.add, World.cell?] at hz
          split at hz <;> simp at hz
    refine ⟨some ⟨b, o, len, m, sp⟩, (List.range len).map (fun j => intOf ((W.cell? ⟨b, o + j, none⟩).getD undef)), rfl, .old (by simp) hsp fun j hj => ?_⟩
    have hj : j < len := by simpa using hj
    rcases hsp with rfl | h0
    · obtain ⟨z, hz⟩ := key j hj
      rw [add_at] at hz
      have hz : W.cell? ⟨b, o + j, none⟩ = some (.int .u8 z) := hz
      show W.cell? ⟨b, o + j, none⟩ = _
      rw [hz]
      simp [List.getD_eq_getElem?_getD, hj, hz, intOf]
    · omega
section
variable {o : Oper} {st : St}
end
end Go.Proofs.YtdljelmbjdjpjaaGreat


namespace Go.Proofs.YtdljelmbjdjpjaaGreat
open Go Go.RowKit Sx
structure Sp where
  kd : Int
  nd : Int
  n : Int
  px : Int
  py : Int
  qx : Int
  qy : Int
  ex : Int
  ey : Int
  ea : Int
  eb : Int
  ed : Int
  x : Int
  b : Int
  u : Option Sl
abbrev Sp.cs (c : Sp) : List Value := [.int .i64 c.kd, .int .i64 c.nd, .int .i64 c.n, .int .i64 c.px, .int .i64 c.py, .int .i64 c.qx, .int .i64 c.qy, .int .i64 c.ex, .int .i64 c.ey, .int .i64 c.ea, .int .i64 c.eb, .int .i64 c.ed, .int .i64 c.x, .int .u8 c.b, uV c.u]
abbrev Sp.rs (c : Sp) : List Value := [.int .i64 c.kd, .int .i64 c.nd, .int .i64 c.n, .int .i64 c.px, .int .i64 c.py, .int .i64 c.qx, .int .i64 c.qy, .int .i64 c.ex, .int .i64 c.ey, .int .i64 c.ea, .int .i64 c.eb, .int .i64 c.ed, .int .i64 c.x, .int .u8 c.b, uR c.u]
abbrev Sp.v (c : Sp) : Value := .agg ⟨c.cs⟩
theorem Sp.den (c : Sp) (ρ : Nat → Nat × Nat) : den ρ (.agg ⟨c.cs⟩) = .agg ⟨c.rs⟩ := by
  show Value.agg ((⟨c.cs⟩ : Array Value).map (den1 ρ)) = _
  have e := uV_den1 c.u ρ
  simp only [List.map_toArray, List.map_cons, List.map_nil]
  rw [e]
  rfl
theorem Sp.re (c : Sp) {ix : List (Nat × Nat)} : Re2 ix c.v c.v := .agg ⟨.plain rfl, .plain rfl, .plain rfl, .plain rfl, .plain rfl, .plain rfl, .plain rfl, .plain rfl, .plain rfl, .plain rfl, .plain rfl, .plain rfl, .plain rfl, .plain rfl, uV_re1 c.u, trivial⟩
end Go.Proofs.YtdljelmbjdjpjaaGreat


namespace Go.Proofs.YtdljelmbjdjpjaaGreat
open Go Go.ChangeShapes Go.WideShapes Go.ChangeAt Go.RowKit Sx
end Go.Proofs.YtdljelmbjdjpjaaGreat


namespace Go.Proofs.YtdljelmbjdjpjaaGreat
open Go Go.RowKit Sx
def moves (c : Nat → Int) (P : Nat → Int) (M : Nat → Bool) (p : Nat) (px py qx qy : Int) : Prop :=
  stp px py = true ∧ px * px + py * py ≤ c 2 * c 2 ∧ stp (qx - px) (qy - py) = true ∧ (qx - px) * (qx - px) + (qy - py) * (qy - py) ≤ c 3 * c 3 ∧ M p = false ∧ wiB (P (p * 2) + px) (P (p * 2 + 1) + py) 4194304
end Go.Proofs.YtdljelmbjdjpjaaGreat


namespace Go.Proofs.YtdljelmbjdjpjaaGreat
open Go Go.RowKit Sx
theorem kY {a : Int} {k : Int} (h : a = k) : (a == k) = true := by subst h; exact beq_self_eq_true a
theorem kN {a : Int} {k : Int} (h : a ≠ k) : (a == k) = false := beq_eq_false_iff_ne.2 h
end Go.Proofs.YtdljelmbjdjpjaaGreat


namespace Go.Proofs.YtdljelmbjdjpjaaGreat
open Go Go.RowKit Sx
theorem AirA.setM {W : World} {F : List By} {L : List Ml} {A : List Am} (h : AirA W F L A) : ∀ {x : Nat} {m m' : Ml}, L[x]? = some m → m'.u = m.u → ∃ A', AirA W F (L.set x m') A' := by
  induction h with
  | nil => intro x m m' hx; simp at hx
  | @cons m0 a L A hm hA ih =>
    intro x m m' hx hu
    cases x with
    | zero =>
      obtain rfl : m0 = m := by simpa using hx
      exact ⟨⟨m'.to_, a.bs, m'.at_, m'.tr, m'.be⟩ :: A, .cons ⟨rfl, rfl, rfl, rfl, by show Own F m'.u a.bs; rw [hu]; exact hm.own, hm.len⟩ hA⟩
    | succ x =>
      obtain ⟨A', hA'⟩ := ih (by simpa using hx) hu
      exact ⟨a :: A', .cons hm hA'⟩
def AE (W : World) (B : List By) (L : List Ml) : Prop := (∃ A, AirA W B L A) ∧ L.length ≤ 512
theorem AE.more {W : World} {B B' : List By} {L : List Ml} (h : AE W B L) (hs : ∀ e, e ∈ B → e ∈ B') : AE W B' L := by
  obtain ⟨⟨A, hA⟩, hl⟩ := h
  exact ⟨⟨A, hA.mono hs⟩, hl⟩
theorem AE.erase {W : World} {B : List By} {L : List Ml} (h : AE W B L) (x : Nat) : AE W B (L.eraseIdx x) := by
  obtain ⟨⟨A, hA⟩, hl⟩ := h
  exact ⟨⟨_, hA.erase x⟩, Nat.le_trans (by rw [List.length_eraseIdx]; split <;> omega) hl⟩
theorem AE.snoc {W : World} {B : List By} {L : List Ml} (h : AE W B L) (hl : L.length < 512) {m : Ml} {bs : List Int} (ho : Own B m.u bs) (hb : bs.length ≤ 1000) : AE W B (L ++ [m]) := by
  obtain ⟨⟨A, hA⟩, _⟩ := h
  exact ⟨⟨_, hA.snoc (a := ⟨m.to_, bs, m.at_, m.tr, m.be⟩) ⟨rfl, rfl, rfl, rfl, ho, hb⟩⟩, by rw [List.length_append]; exact hl⟩
theorem AE.get {W : World} {B : List By} {L : List Ml} (h : AE W B L) {x : Nat} (hx : x < L.length) : ∃ m bs, L[x]? = some m ∧ Own B m.u bs ∧ bs.length ≤ 1000 := by
  obtain ⟨⟨A, hA⟩, _⟩ := h
  have e := hA.len
  obtain ⟨m, h1, h2⟩ := hA.get (a := A[x]) (List.getElem?_eq_getElem (by omega))
  exact ⟨m, _, h1, h2.own, h2.len⟩
end Go.Proofs.YtdljelmbjdjpjaaGreat


namespace Go.Proofs.YtdljelmbjdjpjaaGreat
open Go Go.RowKit Sx
end Go.Proofs.YtdljelmbjdjpjaaGreat


namespace Go.Proofs.YtdljelmbjdjpjaaGreat
open Go Go.RowKit Sx
end Go.Proofs.YtdljelmbjdjpjaaGreat


namespace Go.Proofs.YtdljelmbjdjpjaaGreat
open Go Go.RowKit Sx
def StR (W : World) (R : Int → FS → List By → Prop) (i j : Nat) (v : Value) (ms : List (Nat × Chunk)) : Prop := ∃ (e : Int) (F' : FS) (B' : List By), R e F' B' ∧ v = .int .i64 e ∧ ms = [(i, flP F'), (j, memC W B')]
end Go.Proofs.YtdljelmbjdjpjaaGreat


namespace Go.Proofs.YtdljelmbjdjpjaaGreat
open Go Go.RowKit Sx
theorem cFlDoDelV (W : World) (B : List By) (F : FS) (hn : 0 < F.n) (c : Sp) (R : Int → FS → List By → Prop) (hk : c.kd = 3) (hS : ∀ h : List (Option Chunk), h[0]? = some (some (flP F)) → h[1]? = some (some (memC W B)) → CallAll Tryz.prog 28 [.pointer (some ⟨0, 0, some 0⟩), .int .i64 c.n] h (StR W R 0 1)) (i j : Nat) (hij : i ≠ j) (h : List (Option Chunk)) (hi : h[i]? = some (some (flP F))) (hj : h[j]? = some (some (memC W B))) :
    CallAll Tryz.prog 10 [.pointer (some ⟨i, 0, some 0⟩), c.v] h (StR W R i j) := by
  have key := call_resall (G := tys) (h := h) (vs := [.pointer (some ⟨i, 0, some 0⟩), c.v]) (fun _ : Unit => True) (fun _ => _) (α := Int × FS × List By) (fun κ => R κ.1 κ.2.1 κ.2.2) (fun κ => .int .i64 κ.1) [⟨i, flP F, flP F, flP F⟩, ⟨j, memC W B, memC W B, memC W B⟩] (fun κ => [flP κ.2.1, memC W κ.2.2]) (fun κ => []) [.pointer (some ⟨0, 0, some 0⟩), c.v] tysOK mixed Tryz.func10 (by rfl) (Tryz.call10) ⟨hi, hj, trivial⟩ ⟨⟨fun h => ⟨rfl, Nat.le_refl _⟩, Nat.le_refl _, fun j hj => absurd hj (Nat.not_lt_zero j)⟩, ⟨fun h => ⟨rfl, Nat.le_refl _⟩, Nat.le_refl _, fun j hj => absurd hj (Nat.not_lt_zero j)⟩, trivial⟩ (fun κ _ => ⟨⟨fun h => ⟨rfl, Nat.le_refl _⟩, Nat.le_refl _, fun j hj => absurd hj (Nat.not_lt_zero j)⟩, ⟨fun h => ⟨rfl, Nat.le_refl _⟩, Nat.le_refl _, fun j hj => absurd hj (Nat.not_lt_zero j)⟩, trivial⟩) (by simp [Apart, hij]) ⟨.inr ⟨rfl, rfl⟩, .inr ⟨rfl, rfl⟩, trivial⟩ (fun κ _ => trivial) ⟨.ptr rfl, c.re, trivial⟩ Opens.same ?_
  · refine callAll_mono key fun v ms hR => ?_
    obtain ⟨κ, hκ, rfl, rfl⟩ := hR
    exact ⟨_, _, _, hκ, rfl, rfl⟩
  rintro ⟨⟩ -
  repeat' (refine N.go ?_; first | with_reducible (first | refine N.obl rfl ?_ | refine N.forkF ?_) | refine N.forkNo (kN (by omega)) ?_ | refine N.forkYes (kY (by omega)) ?_ | fail)
  refine N.go ?_
  refine N.callAll (hS _ (by rfl) (by rfl)) fun v ms hR => ?_
  obtain ⟨e, F', B', hR, rfl, rfl⟩ := hR
  repeat' (refine N.go ?_; first | fail)
  refine N.go ?_
  refine N.endSame ?_
  refine N.some (e, F', B') ⟨hR, ?_⟩
  refine N.obl (.plain rfl) ?_
  refine N.obl ⟨⟨_, rfl, fun h => h, Nat.le_refl _, fun j hj => absurd hj (Nat.not_lt_zero j)⟩, ⟨_, rfl, fun h => h, Nat.le_refl _, fun j hj => absurd hj (Nat.not_lt_zero j)⟩, trivial⟩ ?_
  refine N.obl trivial ?_
  refine N.obl ⟨⟨.inr ⟨_, rfl, rfl⟩, .inr ⟨_, rfl, rfl⟩, trivial⟩, trivial⟩ ?_
  exact N.true
end Go.Proofs.YtdljelmbjdjpjaaGreat


namespace Go.Proofs.YtdljelmbjdjpjaaGreat
open Go Go.RowKit Sx
structure Cr where
  P : Nat → Int
  M : Nat → Bool
  tm : Int
  s : Nat → NSt
  on : Nat → Bool
structure NdK (C : Nat → Int) (k m : Nat) (on : Bool) (s : NSt) : Prop where
  E : s.T.E = []
  te : 0 ≤ s.te ∧ s.te ≤ 1000000
  bn : 2 ≤ s.bn ∧ s.bn < 1000
  bl : on = true → 0 < s.bl ∧ s.bl < 1000
  seq : 0 ≤ s.seq ∧ s.seq ≤ k
  boot : 0 ≤ s.boot ∧ s.boot ≤ k
  id : s.id = m
  may : s.fv = true → mayP s.fx s.fy s.fa s.fb s.fd
  C : s.C = C
structure CrOK (C : Nat → Int) (n k : Nat) (c : Cr) : Prop where
  nd : ∀ m, m < n → NdK C k m (c.on m) (c.s m)
  P : ∀ m, m < n → wiB (c.P (m * 2)) (c.P (m * 2 + 1)) 4194304
  tm : 0 ≤ c.tm ∧ c.tm ≤ k
structure FlE (W : World) (B : List By) (F : FS) : Prop where
  st : 0 ≤ F.st ∧ F.st ≤ 16777215
  lost : 0 ≤ F.lost ∧ F.lost ≤ 1000000
  air : AE W B F.L
theorem NdK.more {C : Nat → Int} {k k' m : Nat} {on : Bool} {s : NSt} (h : NdK C k m on s) (hk : k ≤ k') : NdK C k' m on s :=
  ⟨h.E, h.te, h.bn, h.bl, by have := h.seq; omega, by have := h.boot; omega, h.id, h.may, h.C⟩
theorem CrOK.more {C : Nat → Int} {n k k' : Nat} {c : Cr} (h : CrOK C n k c) (hk : k ≤ k') : CrOK C n k' c :=
  ⟨fun m hm => (h.nd m hm).more hk, h.P, by have := h.tm; omega⟩
theorem NdK.tick {C : Nat → Int} {k m : Nat} {on : Bool} {s : NSt} (h : NdK C k m on s) (hk : k < 60000) (hm : m < 64) : NdOK s :=
  ⟨⟨h.E, h.te, by have := h.bn; omega, by have := h.seq; omega, by have := h.boot; omega⟩, by rw [h.id]; omega, h.may⟩
def tickC (on : Nat → Bool) (now : Nat → Int) (s : Nat → NSt) : Nat → Nat → NSt
  | 0 => s
  | j + 1 => if on j = true then upd (tickC on now s j) j (tickS (tickC on now s j j) (now j)) else tickC on now s j
theorem tickA_fst (C P : Nat → Int) (n : Nat) (on : Nat → Bool) (now : Nat → Int) (g : Int) (z : (Nat → NSt) × (List Am × Int)) : ∀ j, (tickA C P n on now g z j).1 = tickC on now z.1 j
  | 0 => rfl
  | j + 1 => by
    have ih := tickA_fst C P n on now g z j
    unfold tickA tickC
    split
    · show upd _ _ _ = _
      rw [ih]
    · exact ih
theorem tickC_ge (on : Nat → Bool) (now : Nat → Int) (s : Nat → NSt) (k : Nat) : ∀ j, j ≤ k → tickC on now s j k = s k
  | 0, _ => rfl
  | j + 1, h => by
    unfold tickC
    split
    · rw [upd_ne _ _ (by omega)]; exact tickC_ge on now s k j (by omega)
    · exact tickC_ge on now s k j (by omega)
theorem tickC_lt (on : Nat → Bool) (now : Nat → Int) (s : Nat → NSt) (k : Nat) : ∀ j, k < j → tickC on now s j k = if on k = true then tickS (s k) (now k) else s k
  | 0, h => absurd h (Nat.not_lt_zero _)
  | j + 1, h => by
    by_cases e : k = j
    · subst e
      unfold tickC
      by_cases ho : on k = true
      · rw [if_pos ho, if_pos ho, upd_at, tickC_ge on now s k k (Nat.le_refl _)]
      · rw [if_neg ho, if_neg ho, tickC_ge on now s k k (Nat.le_refl _)]
    · have ih := tickC_lt on now s k j (by omega)
      unfold tickC
      split
      · rw [upd_ne _ _ e]; exact ih
      · exact ih
theorem NdK.tickS {C : Nat → Int} {k m : Nat} {s : NSt} (h : NdK C k m true s) (hk : k < 60000) (now : Int) (hnow : 0 ≤ now ∧ now ≤ 1000000) : NdK C (k + 1) m true (tickS s now) := by
  obtain ⟨a1, a2, a3, a4, a5, a6, a7, a8, a9⟩ := h
  unfold Go.Proofs.YtdljelmbjdjpjaaGreat.tickS
  split
  · exact ⟨a1, a2, a3, fun _ => by show 0 < s.bn ∧ s.bn < 1000; omega, by show 0 ≤ s.seq ∧ s.seq ≤ ((k + 1 : Nat) : Int); omega, by show 0 ≤ s.boot ∧ s.boot ≤ ((k + 1 : Nat) : Int); omega, a7, a8, a9⟩
  · exact ⟨a1, a2, a3, fun _ => by show 0 < s.bn - 1 ∧ s.bn - 1 < 1000; omega, by show 0 ≤ s.seq + 1 ∧ s.seq + 1 ≤ ((k + 1 : Nat) : Int); omega, by show 0 ≤ s.boot ∧ s.boot ≤ ((k + 1 : Nat) : Int); omega, a7, a8, a9⟩
theorem tickS_fv (s : NSt) (now : Int) : (tickS s now).fv = s.fv := by
  unfold tickS
  split <;> rfl
def Sp.z (c : Sp) : Prop := c.ex = 0 ∧ c.ey = 0 ∧ c.ea = 0 ∧ c.eb = 0 ∧ c.ed = 0
structure StepF (n : Nat) (c c' : Cr) (sp : Sp) (e : Int) : Prop where
  boot : sp.kd = 8 → e = 0 → 0 ≤ sp.nd ∧ sp.nd < (n : Int)
  know : ∀ m, m < n → (c'.s m).fv = true → (sp.kd = 8 ∧ e = 0 ∧ sp.nd = (m : Int) ∧ ¬ sp.z) ∨ (¬ (sp.kd = 8 ∧ e = 0 ∧ sp.nd = (m : Int)) ∧ (c.s m).fv = true)
theorem StepF.same (n : Nat) (c : Cr) (sp : Sp) (e : Int) (he : e ≠ 0 ∨ sp.kd ≠ 8) : StepF n c c sp e :=
  ⟨fun h1 h2 => by omega, fun m _ hv => .inr ⟨fun h => by omega, hv⟩⟩
theorem nsNew_k (C : Nat → Int) (hC : CfOK C) (h9 : 2 ≤ C 9) (k m : Nat) (boot : Int) (hb : 0 ≤ boot ∧ boot ≤ k) (v : Bool) (x y a b d : Int) (hv : v = true → mayP x y a b d) : NdK C k m true (nsNew C (m : Int) boot v x y a b d) := by
  have q8 := hC.h8
  have q9 := hC.h9
  refine ⟨rfl, ?_, ?_, fun _ => ?_, ?_, hb, rfl, hv, rfl⟩
  · show 0 ≤ max 1 (min (C 8) 1000000) ∧ max 1 (min (C 8) 1000000) ≤ 1000000; omega
  · show 2 ≤ max 0 (min (C 9) 1000) ∧ max 0 (min (C 9) 1000) < 1000; omega
  · show 0 < max 0 (min (C 9) 1000) ∧ max 0 (min (C 9) 1000) < 1000; omega
  · show 0 ≤ (0 : Int) ∧ (0 : Int) ≤ k; omega
end Go.Proofs.YtdljelmbjdjpjaaGreat


namespace Go.Proofs.YtdljelmbjdjpjaaGreat
open Go Go.RowKit Sx
theorem callOK_of {P : Program} {g : FuncId} {vs : List Value} {h : List (Option Chunk)} {v : Value} {ms : List (Nat × Chunk)} {rh : List Nat} (hc : ∀ h₂ : List (Option Chunk), (∀ i ∈ rh, h₂[i]? = h[i]?) → (∀ m ∈ ms, h₂[m.1]? = h[m.1]?) → CallAll P g vs h₂ fun v' ms' => v' = v ∧ ms' = ms) : CallOK P g vs h v ms rh := fun h₂ h1 h2 X ρ w xs H hx => by
  rcases hc h₂ h1 h2 X ρ w xs H hx with ⟨x, w', hr, v', ms', ρ', ⟨rfl, rfl⟩, h3⟩ | ⟨hr, hcl⟩
  · exact .inl ⟨x, w', hr, ρ', h3⟩
  · refine .inr ⟨hr, hcl.mono ?_⟩
    rintro e w' ⟨x, he, v', ms', ρ', ⟨rfl, rfl⟩, h3⟩
    exact ⟨x, he, ρ', h3⟩
theorem cFlLenK (F : FS) (hn : 0 < F.n) (i : Nat) (h : List (Option Chunk)) (hi : h[i]? = some (some (flP F))) : CallOK Tryz.prog 13 [.pointer (some ⟨i, 0, some 0⟩)] h (.int .i64 (F.L.length : Nat)) [(i, flP F)] [] :=
  callOK_of fun h₂ _ h2 => cFlLen F hn i h₂ ((h2 _ (List.mem_singleton.2 rfl)).trans hi)
theorem cFlTimeK (F : FS) (hn : 0 < F.n) (i : Nat) (h : List (Option Chunk)) (hi : h[i]? = some (some (flP F))) : CallOK Tryz.prog 15 [.pointer (some ⟨i, 0, some 0⟩)] h (.int .i64 F.tm) [(i, flP F)] [] :=
  callOK_of fun h₂ _ h2 => cFlTime F hn i h₂ ((h2 _ (List.mem_singleton.2 rfl)).trans hi)
theorem cFlNodeK (F : FS) (m : Nat) (hm : m < F.n) (i : Nat) (h : List (Option Chunk)) (hi : h[i]? = some (some (flP F))) : CallOK Tryz.prog 11 [.pointer (some ⟨i, 0, some 0⟩), .int .i64 (m : Int)] h (realP (F.g m)) [(i, flP F)] [] :=
  callOK_of fun h₂ _ h2 => cFlNodeAt F m hm i h₂ ((h2 _ (List.mem_singleton.2 rfl)).trans hi)
theorem cFlReportK (F : FS) (m : Nat) (hm : m < F.n) (hE : (F.s m).T.E = []) (i k : Nat) (h : List (Option Chunk)) (hi : h[i]? = some (some (flP F))) (hk : h[k]? = some none) : CallOK Tryz.prog 12 [realP (F.g m)] h (rpV (F.s m).fv (F.s m).fx (F.s m).fy (F.s m).fa (F.s m).fb (F.s m).fd (.slice none 0 0)) [(i, flP F)] [k] :=
  callOK_of fun h₂ h1 h2 => cFlReport F m hm hE i k h₂ ((h2 _ (List.mem_singleton.2 rfl)).trans hi) ((h1 k (List.mem_singleton.2 rfl)).trans hk)
theorem callAll_den {P : Program} {g : FuncId} {vs vs' : List Value} {h : List (Option Chunk)} {R : Value → List (Nat × Chunk) → Prop} (hv : All2 (fun v v' => ∀ r, den r v = den r v') vs vs') (hc : CallAll P g vs' h R) : CallAll P g vs h R := fun X ρ w xs H hx => by
  refine hc X ρ w xs H ?_
  have key : ∀ (vs vs' xs : List Value), All2 (fun v v' => ∀ r, den r v = den r v') vs vs' → All2 (Den (Fil h) ρ) vs xs → All2 (Den (Fil h) ρ) vs' xs := by
    intro vs
    induction vs with
    | nil =>
      intro vs' xs hv hx
      cases vs' with
      | nil => exact hx
      | cons _ _ => exact hv.elim
    | cons v vs ih =>
      intro vs' xs hv hx
      cases vs' with
      | nil => exact hv.elim
      | cons v' vs' =>
        cases xs with
        | nil => exact hx.elim
        | cons x xs => exact ⟨fun r hr => (hv.1 r).symm.trans (hx.1 r hr), ih _ _ hv.2 hx.2⟩
  exact key _ _ _ hv hx
theorem stepL_den (k nd n px py qx qy ex ey ea eb ed x b : Int) (r : Nat → Nat × Nat) : den r (stepV k nd n px py qx qy ex ey ea eb ed x b (.slice none 0 0)) = den r (⟨k, nd, n, px, py, qx, qy, ex, ey, ea, eb, ed, x, b, none⟩ : Sp).v := by
  rw [Sp.den]
  show Value.agg ((⟨[.int .i64 k, .int .i64 nd, .int .i64 n, .int .i64 px, .int .i64 py, .int .i64 qx, .int .i64 qy, .int .i64 ex, .int .i64 ey, .int .i64 ea, .int .i64 eb, .int .i64 ed, .int .i64 x, .int .u8 b, .slice none 0 0]⟩ : Array Value).map (den1 r)) = _
  simp only [List.map_toArray, List.map_cons, List.map_nil]
  rfl
theorem callAll_lit {h : List (Option Chunk)} {R : Value → List (Nat × Chunk) → Prop} {p : Value} (k nd n px py qx qy ex ey ea eb ed x b : Int) (hc : CallAll Tryz.prog 10 [p, (⟨k, nd, n, px, py, qx, qy, ex, ey, ea, eb, ed, x, b, none⟩ : Sp).v] h R) : CallAll Tryz.prog 10 [p, stepV k nd n px py qx qy ex ey ea eb ed x b (.slice none 0 0)] h R :=
  callAll_den (vs' := [p, (⟨k, nd, n, px, py, qx, qy, ex, ey, ea, eb, ed, x, b, none⟩ : Sp).v]) ⟨fun r => rfl, fun r => stepL_den _ _ _ _ _ _ _ _ _ _ _ _ _ _ r, trivial⟩ hc
abbrev awF (g : Nat → Nat × Nat) : FS := ⟨(cf6 4 4 5 1 4 5), 5, pos0, fun _ => false, 0, 0, [], g, nodeS (cf6 4 4 5 1 4 5), fun _ => true, 0⟩
theorem may_cf {C : Nat → Int} (h : CfOK C) : mayC C := by
  obtain ⟨h0, h1, h2, h3, h4, h5, h6, h7, h8, h9, h10⟩ := h
  unfold mayC
  rw [h4, h6]
  omega
theorem sendA_get0 (i : Nat) (on : Nat → Bool) (mk : Nat → Am) (s : List Am × Int) (a : Am) (h : s.1[0]? = some a) : ∀ j, (sendA i on mk s j).1[0]? = some a
  | 0 => h
  | j + 1 => by
    have ih := sendA_get0 i on mk s a h j
    unfold sendA
    split
    · exact ih
    · unfold putA
      split
      · show ((sendA i on mk s j).1 ++ [mk j])[0]? = some a
        rw [List.getElem?_append_left (List.getElem?_eq_some_iff.1 ih).1]; exact ih
      · exact ih
theorem sendA_room (i : Nat) (on : Nat → Bool) (mk : Nat → Am) (s : List Am × Int) (n : Nat) (hon : ∀ j, j < n → on j = true) (hl : s.1.length + n ≤ 512) : ∀ j, j ≤ n → (sendA i on mk s j).1.length = s.1.length + (j - if i < j then 1 else 0)
  | 0, _ => by simp [sendA]
  | j + 1, h => by
    have ih := sendA_room i on mk s n hon hl j (by omega)
    unfold sendA
    by_cases e : j = i
    · rw [if_pos (.inl e), ih, if_neg (by omega), if_pos (by omega)]
      omega
    · rw [if_neg (fun h => h.elim e fun h2 => by rw [hon j (by omega)] at h2; cases h2)]
      unfold putA
      rw [if_pos (by rw [ih]; split <;> omega)]
      show ((sendA i on mk s j).1 ++ [mk j]).length = _
      rw [List.length_append, ih]
      show s.1.length + (j - if i < j then 1 else 0) + 1 = s.1.length + (j + 1 - if i < j + 1 then 1 else 0)
      by_cases h3 : i < j
      · rw [if_pos h3, if_pos (by omega)]; omega
      · rw [if_neg h3, if_neg (by omega)]; omega
theorem tick_first (C P : Nat → Int) (n : Nat) (on : Nat → Bool) (now : Nat → Int) (g : Int) (s : Nat → NSt) (lost : Int) (hon : ∀ j, j < n → on j = true) (hdue : ∀ j, j < n → ¬ now j < (s j).tx) (hn : n ≤ 16) : ∀ j, j ≤ n → (tickA C P n on now g (s, ([], lost)) j).2.1.length = j * (n - 1)
  | 0, _ => by simp [tickA]
  | j + 1, h => by
    have ih := tick_first C P n on now g s lost hon hdue hn j (by omega)
    unfold tickA
    rw [if_pos (hon j (by omega))]
    show (tellA _ _ _ _ _ _).1.length = _
    have hs : (tickA C P n on now g (s, ([], lost)) j).1 j = s j := tickA_ge _ _ _ _ _ _ _ j j (Nat.le_refl _)
    rw [hs]
    unfold tickB
    rw [if_neg (hdue j (by omega))]
    show (sendA _ _ _ _ _).1.length = _
    have hb : j * (n - 1) ≤ 15 * 15 := Nat.mul_le_mul (by omega) (by omega)
    rw [sendA_room _ _ _ _ n hon (by rw [ih]; omega) n (Nat.le_refl _), ih, if_pos (by omega), Nat.succ_mul]
theorem tick_get0 (C P : Nat → Int) (n : Nat) (on : Nat → Bool) (now : Nat → Int) (g : Int) (s : Nat → NSt) (lost : Int) (hon : ∀ j, j < n → on j = true) (hdue : ∀ j, j < n → ¬ now j < (s j).tx) (hn : 2 ≤ n) : ∃ bs, ∀ j, 1 ≤ j → j ≤ n → (tickA C P n on now g (s, ([], lost)) j).2.1[0]? = some (mkA C P bs 0 g 1) := by
  refine ⟨(tickB (s 0) (now 0)).getD [], fun j => ?_⟩
  induction j with
  | zero => intro h; omega
  | succ j ih =>
    intro _ hj
    unfold tickA
    rw [if_pos (hon j (by omega))]
    show (tellA _ _ _ _ _ _).1[0]? = _
    have hs : (tickA C P n on now g (s, ([], lost)) j).1 j = s j := tickA_ge _ _ _ _ _ _ _ j j (Nat.le_refl _)
    rw [hs]
    by_cases h0 : j = 0
    · subst h0
      have e : tickB (s 0) (now 0) = some ((tickB (s 0) (now 0)).getD []) := by
        unfold tickB
        rw [if_neg (hdue 0 (by omega))]; rfl
      generalize hbs : (tickB (s 0) (now 0)).getD [] = bs at e ⊢
      rw [e]
      show (sendA 0 on (mkA C P bs 0 g) ([], lost) n).1[0]? = _
      have key : ∀ m, 2 ≤ m → (sendA 0 on (mkA C P bs 0 g) ([], lost) m).1[0]? = some (mkA C P bs 0 g 1) := by
        intro m
        induction m with
        | zero => intro h; omega
        | succ m ihm =>
          intro hm2
          by_cases e1 : m = 1
          · subst e1
            have h1 := hon 1 (by omega)
            simp [sendA, putA, h1]
          · have ih2 := ihm (by omega)
            unfold sendA
            split
            · exact ih2
            · unfold putA
              split
              · show ((sendA 0 on (mkA C P bs 0 g) ([], lost) m).1 ++ [_])[0]? = _
                rw [List.getElem?_append_left (List.getElem?_eq_some_iff.1 ih2).1]; exact ih2
              · exact ih2
      exact key n hn
    · have ih2 := ih (by omega) (by omega)
      unfold tellA
      split
      · exact ih2
      · exact sendA_get0 _ _ _ _ _ ih2 _
theorem aw_tick (g : Nat → Nat × Nat) (i j : Nat) (hij : i ≠ j) (h : List (Option Chunk)) {d : Chunk} (hd : d.own = true) (hi : h[i]? = some (some (flP (awF g)))) (hj : h[j]? = some (some d)) : CallAll Tryz.prog 10 [.pointer (some ⟨i, 0, some 0⟩), stepV 2 0 0 0 0 0 0 0 0 0 0 0 0 0 (.slice none 0 0)] h fun v ms => ∃ L' B', AirA noW B' L' (tickZ (awF g) [] 5).2.1 ∧ v = .int .i64 0 ∧ ms = [(i, flP (tickF (awF g) L' (tickZ (awF g) [] 5))), (j, memC noW B')] := by
  have hjl := (List.getElem?_eq_some_iff.1 hj).1
  refine call_donor j hj hd (callAll_mono (cFlDoTick noW [] (awF g) (show 1 ≤ 5 ∧ 5 ≤ 64 by decide) (show 0 ≤ (cf6 4 4 5 1 4 5) 4 ∧ (cf6 4 4 5 1 4 5) 4 ≤ 100 by decide) (show 0 ≤ (cf6 4 4 5 1 4 5) 5 ∧ (cf6 4 4 5 1 4 5) 5 ≤ 1000 by decide) (show (0 : Int) ≤ 0 ∧ (0 : Int) < 750000 by decide) (show (0 : Int) ≤ 0 ∧ (0 : Int) ≤ 1000000 by decide) [] .nil (fun m hm => ?_) i j hij _ (by rw [List.getElem?_set_ne (Ne.symm hij)]; exact hi) (List.getElem?_set_self hjl)) fun v ms hR => ?_) fun v ms hR => ?_
  · have hm : m < 5 := hm
    have hk := nsNew_k (cf6 4 4 5 1 4 5) (cf6_ok 4 4 5 1 4 5) (by decide) 0 m 0 (by decide)
    have : NdK (cf6 4 4 5 1 4 5) 0 m true (nodeS (cf6 4 4 5 1 4 5) m) := by
      unfold nodeS
      split
      · exact hk true _ _ _ _ _ fun _ => ⟨pos_in m (by omega), by decide, by decide, by decide, by decide⟩
      · exact hk false 0 0 0 0 0 fun h => by cases h
    exact this.tick (by decide) (by omega)
  · obtain ⟨L', B', h1, h2, rfl, rfl⟩ := hR
    exact ⟨L', B', h1, rfl, rfl⟩
  · obtain ⟨L', B', h1, rfl, rfl⟩ := hR
    show List.set (List.set _ _ _) _ _ = List.set (List.set _ _ _) _ _
    rw [List.set_comm _ _ hij.symm, List.set_set]
theorem aw_due {g : Nat → Nat × Nat} : ∀ j, j < 5 → ¬ nowA (awF g) j < ((awF g).s j).tx := fun j hj => by
  have : ((awF g).s j).tx = 0 := by
    show (nodeS (cf6 4 4 5 1 4 5) j).tx = 0
    unfold nodeS
    split <;> rfl
  rw [this]
  show ¬ locN _ _ < 0
  unfold locN
  omega
theorem aw_len (g : Nat → Nat × Nat) : (tickZ (awF g) [] 5).2.1.length = 20 :=
  tick_first _ _ 5 _ _ _ _ _ (fun _ _ => rfl) (fun j hj => aw_due (g := g) j hj) (by decide) 5 (by decide)
theorem aw_get (g : Nat → Nat × Nat) : ∃ a, (tickZ (awF g) [] 5).2.1[0]? = some a ∧ 1 * 16777216 + min (1 + 1) 16777215 < a.tr := by
  obtain ⟨bs, hbs⟩ := tick_get0 (awF g).C (awF g).P 5 (awF g).on (nowA (awF g)) ((0 + 1) * 16777216 + min (0 + 1) 16777215) (awF g).s 0 (fun _ _ => rfl) (fun j hj => aw_due (g := g) j hj) (by decide)
  refine ⟨_, hbs 5 (by decide) (by decide), ?_⟩
  have p0 : pos0 (0 * 2) = 0 := by decide
  have p1 : pos0 (0 * 2 + 1) = 0 := by decide
  have p2 : pos0 (1 * 2) = 1000 := by decide
  have p3 : pos0 (1 * 2 + 1) = 0 := by decide
  unfold mkA
  dsimp only
  unfold trA
  rw [p0, p1, p2, p3]
  have e : distN 0 0 1000 0 = 1000 := by
    unfold distN
    rw [if_pos (by decide)]
    have q : ((0 - 1000) * (0 - 1000) + (0 - 0) * (0 - 0) : Int).toNat = 1000 * 1000 := by decide
    rw [q, isq_eq (v := 1000 * 1000) (r := 1000) (by decide) (by decide)]
    rfl
  rw [e, i64s _ (by omega) (by omega)]
  omega
abbrev awG (g : Nat → Nat × Nat) (L : List Ml) : FS := {tickF (awF g) L (tickZ (awF g) [] 5) with st := 2}
theorem aw_s0 (g : Nat → Nat × Nat) (L : List Ml) : (awG g L).s 0 = tickS (nodeS (cf6 4 4 5 1 4 5) 0) (nowA (awF g) 0) := by
  show (tickZ (awF g) [] 5).1 0 = _
  rw [tickA_fst, tickC_lt _ _ _ _ _ (by decide)]
  rfl
theorem aw_E (g : Nat → Nat × Nat) (L : List Ml) : ((awG g L).s 0).T.E = [] := by
  rw [aw_s0]
  unfold tickS
  split <;> rfl
theorem aw_fv (g : Nat → Nat × Nat) (L : List Ml) : ((awG g L).s 0).fv = true := by
  rw [aw_s0, tickS_fv]
  rfl
theorem aw_del (g : Nat → Nat × Nat) (L : List Ml) (B : List By) (hL : AirA noW B L (tickZ (awF g) [] 5).2.1) (i j : Nat) (hij : i ≠ j) (h : List (Option Chunk)) (hi : h[i]? = some (some (flP (tickF (awF g) L (tickZ (awF g) [] 5))))) (hj : h[j]? = some (some (memC noW B))) : CallAll Tryz.prog 10 [.pointer (some ⟨i, 0, some 0⟩), stepV 3 0 0 0 0 0 0 0 0 0 0 0 0 0 (.slice none 0 0)] h fun v ms => ∃ B', v = .int .i64 10 ∧ ms = [(i, flP {tickF (awF g) L (tickZ (awF g) [] 5) with st := 2}), (j, memC noW B')] := by
  obtain ⟨a, ha, hg⟩ := aw_get g
  refine callAll_lit 3 0 0 0 0 0 0 0 0 0 0 0 0 0 (callAll_mono (cFlDoDelV noW B (tickF (awF g) L (tickZ (awF g) [] 5)) (show 0 < 5 by decide) ⟨3, 0, 0, 0, 0, 0, 0, 0, 0, 0, 0, 0, 0, 0, none⟩ (fun e F' B' => e = 10 ∧ F' = {tickF (awF g) L (tickZ (awF g) [] 5) with st := 2}) rfl (fun h hi hj => callAll_mono (cFlDeliverS noW B (tickF (awF g) L (tickZ (awF g) [] 5)) (show 1 ≤ 5 ∧ 5 ≤ 64 by decide) (show (0 : Int) ≤ 0 + 1 ∧ (0 : Int) + 1 ≤ 1000000 by decide) (show (0 : Int) ≤ 1 ∧ (1 : Int) ≤ 16777215 by decide) _ hL 0 a ha hg 0 1 (by decide) h hi hj) fun v ms hR => ?_) i j hij h hi hj) fun v ms hR => ?_)
  · obtain ⟨B', _, rfl, rfl⟩ := hR
    exact ⟨10, _, B', ⟨rfl, rfl⟩, rfl, rfl⟩
  · obtain ⟨e, F', B', ⟨rfl, rfl⟩, rfl, rfl⟩ := hR
    exact ⟨B', rfl, rfl⟩
theorem flawake_x (w : World) : Calls Tryz.prog 7 #[] w fun e w' => e = .returned (.bool true) ∧ Below w.heap.size w w' := by
  refine calls_pure (G := tys) w tysOK mixed Tryz.func7 (by rfl) (by rfl) (by rfl) ?_
  repeat' (refine N.go ?_; first | refine N.call (cConfig 4 4 5 1 4 5 _) ?_ | fail)
  refine N.go ?_
  refine N.callAll (cFlNew (cf6 4 4 5 1 4 5) (cf6_ok 4 4 5 1 4 5) (may_cf (cf6_ok 4 4 5 1 4 5)) 5 (by decide) (by decide) (by decide) 4 5 (by decide) _ (by rfl) (by rfl)) fun v ms hR => ?_
  obtain ⟨g, rfl, rfl⟩ := hR
  repeat' (refine N.go ?_; first | with_reducible refine N.forkF ?_ | refine N.forkNo (by decide) ?_ | fail)
  refine N.go ?_
  refine N.callAll (aw_tick g 4 5 (by decide) _ (d := garC (cf6 4 4 5 1 4 5)) rfl (by rfl) (by rfl)) fun v ms hR => ?_
  obtain ⟨L, B, hL, rfl, rfl⟩ := hR
  repeat' (refine N.go ?_; first | fail)
  refine N.go ?_
  refine N.callAll (aw_del g L B hL 4 5 (by decide) _ (by rfl) (by rfl)) fun v ms hR => ?_
  obtain ⟨B', rfl, rfl⟩ := hR
  repeat' (refine N.go ?_; first | with_reducible (first | refine N.eq ?_ | refine N.obl rfl ?_ | refine N.forkT ?_) | refine N.forkYes (by decide) ?_ | refine N.call (cFlNodeK (awG g L) 0 (show 0 < 5 by decide) 4 _ (by rfl)) ?_ | refine N.call (cFlReportK (awG g L) 0 (show 0 < 5 by decide) (aw_E g L) 4 6 _ (by rfl) (by rfl)) ?_ | refine N.call (cFlLenK (awG g L) (show 0 < 5 by decide) 4 _ (by rfl)) ?_ | refine N.call (cFlTimeK (awG g L) (show 0 < 5 by decide) 4 _ (by rfl)) ?_ | refine N.forkYes (kY (by show ((L.length : Nat) : Int) = 20; rw [hL.len, aw_len]; rfl)) ?_ | refine N.forkYes (aw_fv g L) ?_ | fail)
  all_goals rfl
theorem cAwake25 (h : List (Option Chunk)) : CallOK Tryz.prog 7 [] h (.bool true) [] [] := call_pure rfl rfl (Tryz.call7 _) flawake_x
end Go.Proofs.YtdljelmbjdjpjaaGreat
