import Derived.Test.YtdljelmbjdjpjaaGreatM5
set_option linter.unusedVariables false
set_option linter.unusedSimpArgs false
set_option maxRecDepth 100000
set_option maxHeartbeats 20000000

namespace Go.Proofs.YtdljelmbjdjpjaaGreat
open Go Go.RowKit Sx
theorem reF_eqn {ix : List (Nat × Nat)} {v u : Value} (h : v = u) (hp : plain3 v = true) : Re ix v u := by subst h; exact .plain hp
theorem rvF_re [ZW] {ix : List (Nat × Nat)} {R R' : List Rw} : ∀ j, j < 0 → Re1 ix ((rvC R).f j) ((rvC R').f j) := fun j hj => absurd hj (Nat.not_lt_zero j)
theorem rvF_ren [ZW] {ix : List (Nat × Nat)} {R : List Rw} : ChunkReLe ix (rvC R) (rvC R) := ⟨id, Nat.le_refl _, rvF_re⟩
theorem intF_eqn {k : IntKind} {a b : Int} (h : a = b) : Value.int k a = .int k b := by rw [h]
theorem rdF_all {o : Bool} {n m : Nat} {l : List Value} (hl : l.length = n) (hm : m = n) : Reads ⟨o, n, [(0, n, .agg ⟨l⟩)]⟩ 0 true m (.agg ⟨l⟩) := by
  subst hl hm
  refine ⟨Nat.le_of_eq (Nat.zero_add _), _, rfl, rfl, fun j hj => ?_⟩
  show cellOf _ _ = _
  rw [cellOf_cons, if_pos (by omega), Nat.zero_add, Nat.sub_zero]; rfl
def byteAt (n : Int) (i : Nat) : Int := n / 256 ^ i % 256
def beK (n : Int) (w : Nat) : Nat → List Int
  | 0 => []
  | k + 1 => beK n w k ++ [byteAt n (w - 1 - k)]
abbrev be (n : Int) (w : Nat) : List Int := beK n w w
theorem beK_len (n : Int) (w : Nat) : ∀ k, (beK n w k).length = k
  | 0 => rfl
  | k + 1 => by rw [beK, List.length_append, beK_len n w k]; rfl
structure BufOK (r : Rw) (bs : List Int) : Prop where
  w : r.w = true
  e : r.e = 5
  k : r.k = 1
  n : r.n = bs.length
  xs : r.xs = bs.map (Value.int .u8)
theorem BufOK.grew {r r' : Rw} {bs cs : List Int} (h : BufOK r bs) (hg : Grew (some r) (some r') 5 1 cs.length (cs.map (Value.int .u8))) : BufOK r' (bs ++ cs) := by
  obtain ⟨h1, h2, h3⟩ := hg.ty r' rfl
  exact ⟨h3, h1, h2, by have := hg.n; show rowN (some r') = _; rw [this, List.length_append]; show r.n + _ = _; rw [h.n], by have := hg.xs; show rowXs (some r') = _; rw [this, List.map_append]; show r.xs ++ _ = _; rw [h.xs]⟩
theorem u8_info : ∃ ei z, Tryz.prog.info? 5 = some ei ∧ ei.size = 1 ∧ ei.bytes ≤ 1000 ∧ ei.zero = some z ∧ z.cells.size = 1 := by
  obtain ⟨ei, d, h1, h2, h3⟩ := lookT_out tysOK (t := 5) (K := fun ei _ => ei.size = 1 ∧ ei.bytes ≤ 1000 ∧ ∃ z, ei.zero = some z ∧ z.cells.size = 1) ⟨rfl, by decide, _, rfl, rfl⟩
  obtain ⟨h3, h4, z, h5, h6⟩ := h3
  exact ⟨ei, z, h1, h3, h4, h5, h6⟩
theorem byte_shr (n : Int) (m : Nat) (hm : m ≤ 7) : IntKind.u8.wrap (n.fdiv (2 ^ sh ((8 * m : Nat) : Int) IntKind.i64)) = byteAt n m := by
  have h1 : sh ((8 * m : Nat) : Int) IntKind.i64 = 8 * m := by
    unfold sh
    rw [Int.toNat_natCast]
    show min (8 * m) 64 = 8 * m
    omega
  have h2 : (2 : Int) ^ (8 * m) = 256 ^ m := by rw [Int.pow_mul]; rfl
  rw [h1, h2, IntKind.wrap_u8, Int.fdiv_eq_ediv_of_nonneg _ (Int.pow_nonneg (by decide))]
  rfl
theorem bytes_one (M : List Int) : ∀ u ∈ M.map (Value.int .u8), u.oneCell' = true := fun u hu => by
  obtain ⟨e, _, rfl⟩ := List.mem_map.1 hu
  rfl
theorem appB [ZW] {o : Oper} {st : St} {x y : Operand} {p : Value} {own : Bool} {n : Nat} {ps : List (Nat × Nat × Value)} {K : Value → List (Nat × Chunk) → Prop} (r : Rw) (R : List Rw) (bs cs : List Int) (i : Nat) (hs : List Nat) (hr : BufOK r bs)
    (ho : o.op = .call ⟨.builtin .append, #[x, y], #[39, 39]⟩) (hx : EvTo x st p) (hp : ∀ ρ, den ρ p = uR (some r.sl)) (hi : st.h[i]? = some (some (@Chunk.mk (rvX (r :: R)) own n ps)))
    (hsrc : SrcN y st hs cs.length 1 (cs.map (Value.int .u8))) (hl : bs.length + cs.length ≤ 100000) (hK : ∀ r', BufOK r' (bs ++ cs) → K (uV (some r'.sl)) [(i, @Chunk.mk (rvX (r' :: R)) own n ps)]) : N (EffAll Tryz.prog o st K) := by
  obtain ⟨ei, z, h1, h2, h3, h4, h5⟩ := u8_info
  have hn : rowN (some r) = bs.length := hr.n
  have hb : (rowN (some r) + cs.length) * ei.bytes ≤ 100000 * 1000 := Nat.mul_le_mul (by rw [hn]; exact hl) h3
  refine app_now (e := 5) (ei := ei) (z := z) (some r) R i cs.length (cs.map (Value.int .u8)) ho hx hp Tryz.underlying39 h1 h4 (by rw [h5, h2]) (by rw [h2]; decide) hi (fun q hq => by cases hq; rw [h2]; exact ⟨hr.e, hr.k, hr.w⟩) hs (by rw [h2]; exact hsrc) (bytes_one cs) (by rw [hn]; omega) (by omega) fun oe' hg => ?_
  rw [h2] at hg
  cases oe' with
  | none => exact absurd (hg.nil.1 rfl).1 (by simp)
  | some r' => exact hK r' (hr.grew hg)
theorem cPut [ZW] (r : Rw) (R : List Rw) (bs : List Int) (hr : BufOK r bs) (n : Int) (hn : -9223372036854775808 ≤ n ∧ n ≤ 9223372036854775807) (w : Nat) (hw : 1 ≤ w ∧ w ≤ 8) (hl : bs.length ≤ 1000) (i : Nat) (h : List (Option Chunk)) (hi : h[i]? = some (some (rvC (r :: R)))) :
    CallAll Tryz.prog 109 [uV (some r.sl), .int .i64 n, .int .i64 (w : Nat)] h (fun v ms => ∃ r' : Rw, BufOK r' (bs ++ be n w) ∧ v = uV (some r'.sl) ∧ ms = [(i, rvC (r' :: R))]) := by
  have key := call_resall (G := tys) (h := h) (vs := [uV (some r.sl), .int .i64 n, .int .i64 (w : Nat)]) (fun _ : Unit => True) (fun _ => _) (α := Rw) (fun κ => BufOK κ (bs ++ be n w)) (fun κ => uV (some κ.sl)) [⟨i, rvC (r :: R), rvC (r :: R), rvC (r :: R)⟩] (fun κ => [rvC (κ :: R)]) (fun κ => []) [uV (some r.sl), .int .i64 n, .int .i64 (w : Nat)] tysOK mixed Tryz.func109 (by rfl) (Tryz.call109) ⟨hi, trivial⟩ ⟨⟨fun h => ⟨rfl, Nat.le_refl _⟩, Nat.le_refl _, rvF_re⟩, trivial⟩ (fun κ _ => ⟨⟨fun h => ⟨rfl, Nat.le_refl _⟩, Nat.le_refl _, rvF_re⟩, trivial⟩) (by simp [Apart]) ⟨.inr ⟨rfl, rfl⟩, trivial⟩ (fun κ _ => trivial) ⟨.quo, .plain rfl, .plain rfl, trivial⟩ Opens.same ?_
  · intro X ρ w2 xs H hx
    rcases key X ρ w2 xs H hx with ⟨v, w', hr', u, ms, ρ', ⟨κ, hκ, rfl, rfl⟩, ha⟩ | ⟨hr', hcl⟩
    · exact .inl ⟨v, w', hr', _, _, ρ', ⟨κ, hκ, rfl, rfl⟩, ha⟩
    · refine .inr ⟨hr', hcl.mono ?_⟩
      rintro e w' ⟨y, he, u, ms, ρ', ⟨κ, hκ, rfl, rfl⟩, ha⟩
      exact ⟨y, he, _, _, ρ', ⟨κ, hκ, rfl, rfl⟩, ha⟩
  rintro ⟨⟩ -
  have e0 : IntKind.i64.wrap ((w : Int) - 1) = (w : Int) - 1 := i64s _ (by omega) (by omega)
  have ek : (w : Int) - 1 - ((0 : Nat) : Int) = IntKind.i64.wrap ((w : Int) - 1) := by rw [e0]; omega
  repeat' (refine N.go ?_; first | fail)
  refine N.go ?_
  refine N.loopR (α := Nat × Rw) (fun q => q.1 ≤ w ∧ BufOK q.2 (bs ++ beK n w q.1)) (fun q => w - q.1) (fun q => [(0, uV (some q.2.sl)), (7, .int .i64 ((w : Int) - 1 - (q.1 : Int)))]) (fun q => [(0, rvC (q.2 :: R))]) (0, r) [(0, 0)] ⟨Nat.zero_le _, by show BufOK r (bs ++ []); rw [List.append_nil]; exact hr⟩ ?_ ?_
  · repeat' (refine N.go ?_; first | exact N.true | refine N.obl (.plain (by rfl)) ?_ | refine N.obl (reF_eqn (intF_eqn ek) rfl) ?_ | refine N.obl rvF_ren ?_ | refine N.obl (.one .quo) ?_ | fail)
  rintro ⟨k, q⟩ ⟨hk, hq⟩
  have hk : k ≤ w := hk
  have hq : BufOK q (bs ++ beK n w k) := hq
  have hql : (bs ++ beK n w k).length = bs.length + k := by rw [List.length_append, beK_len]
  by_cases hkw : k < w
  · have e8 : IntKind.i64.wrap (8 * ((w : Int) - 1 - (k : Int))) = ((8 * (w - 1 - k) : Nat) : Int) := by rw [i64s _ (by omega) (by omega)]; omega
    have ev := byte_shr n (w - 1 - k) (by omega)
    rw [← e8] at ev
    have ek : (w : Int) - 1 - ((k + 1 : Nat) : Int) = IntKind.i64.wrap ((w : Int) - 1 - (k : Int) - 1) := by rw [i64s _ (by omega) (by omega)]; omega
    repeat' (refine N.go ?_; first | with_reducible refine N.alt ?_ | refine N.forkYes (decide_eq_true (by omega)) ?_ | refine N.obl (by rw [e8]; omega) ?_ | fail)
    refine N.go ?_
    refine appB q R (bs ++ beK n w k) [_] 0 [_] hq rfl rfl (fun ρ => uV_den _ ρ) (by rfl) (src_chunk [_] (List.mem_singleton.2 rfl) rfl (by rfl) (rdF_all (by rfl) (by rfl)) rfl) (by rw [hql]; show _ + 1 ≤ _; omega) fun q' hq' => ?_
    rw [ev, List.append_assoc] at hq'
    repeat' (refine N.go ?_; first | fail)
    refine N.go ?_
    refine N.nextR (α := Nat × Rw) (k + 1, q') [(0, 0)] ⟨⟨hkw, hq'⟩, by show w - (k + 1) < w - k; omega⟩ ?_
    repeat' (refine N.go ?_; first | exact N.true | refine N.obl (.plain (by rfl)) ?_ | refine N.obl (reF_eqn (intF_eqn ek) rfl) ?_ | refine N.obl rvF_ren ?_ | refine N.obl (.one .quo) ?_ | fail)
  · obtain rfl : k = w := by omega
    repeat' (refine N.go ?_; first | refine N.forkNo (decide_eq_false (by omega)) ?_ | refine N.endSame ?_ | refine N.some q ⟨hq, ?_⟩ | refine N.obl (.one .quo) ?_ | refine N.obl ⟨⟨_, rfl, fun h => h, Nat.le_refl _, rvF_re⟩, trivial⟩ ?_ | refine N.obl trivial ?_ | refine N.obl ⟨⟨.inr ⟨_, rfl, rfl⟩, trivial⟩, trivial⟩ ?_ | exact N.true | fail)
abbrev oddB (n : Int) : Bool := IntKind.u32.wrap ((BitVec.ofInt IntKind.u32.bits n &&& BitVec.ofInt IntKind.u32.bits 1).toNat : Int) == 1
abbrev xor32 (a b : Int) : Int := IntKind.u32.wrap ((BitVec.ofInt IntKind.u32.bits a ^^^ BitVec.ofInt IntKind.u32.bits b).toNat : Int)
abbrev shr32 (n k : Int) : Int := n.fdiv (2 ^ sh k IntKind.u32)
def crcS (n : Int) : Int := if oddB n = true then xor32 (shr32 n 1) 3988292384 else shr32 n 1
def crcK (n : Int) : Nat → Int
  | 0 => n
  | k + 1 => crcS (crcK n k)
def entN (i : Nat) : Int := crcK (IntKind.u32.wrap (i : Int)) 8
structure TabOK (oe : Option Rw) (l : List Int) : Prop where
  n : rowN oe = l.length
  xs : rowXs oe = l.map (Value.int .u32)
  ty : ∀ r, oe = some r → r.e = 187 ∧ r.k = 1 ∧ r.w = true
theorem TabOK.nil : TabOK none [] := ⟨rfl, rfl, (fun r h => by cases h)⟩
theorem TabOK.grew {oe oe' : Option Rw} {M M2 : List Int} (h : TabOK oe M) (hg : Grew oe oe' 187 1 M2.length (M2.map (Value.int .u32))) : TabOK oe' (M ++ M2) :=
  ⟨by rw [hg.n, h.n, List.length_append], by rw [hg.xs, h.xs, List.map_append], hg.ty⟩
theorem u32_info : ∃ ei z, Tryz.prog.info? 187 = some ei ∧ ei.size = 1 ∧ ei.bytes ≤ 1000 ∧ ei.zero = some z ∧ z.cells.size = 1 := by
  obtain ⟨ei, d, h1, h2, h3⟩ := lookT_out tysOK (t := 187) (K := fun ei _ => ei.size = 1 ∧ ei.bytes ≤ 1000 ∧ ∃ z, ei.zero = some z ∧ z.cells.size = 1) ⟨rfl, by decide, _, rfl, rfl⟩
  obtain ⟨h3, h4, z, h5, h6⟩ := h3
  exact ⟨ei, z, h1, h3, h4, h5, h6⟩
theorem sums_one (M : List Int) : ∀ u ∈ M.map (Value.int .u32), u.oneCell' = true := fun u hu => by
  obtain ⟨e, _, rfl⟩ := List.mem_map.1 hu
  rfl
theorem appT [ZW] {o : Oper} {st : St} {x y : Operand} {p : Value} {own : Bool} {n : Nat} {ps : List (Nat × Nat × Value)} {K : Value → List (Nat × Chunk) → Prop} (oe : Option Rw) (R : List Rw) (M M2 : List Int) (i : Nat) (hs : List Nat) (hoe : TabOK oe M)
    (ho : o.op = .call ⟨.builtin .append, #[x, y], #[215, 215]⟩) (hx : EvTo x st p) (hp : ∀ ρ, den ρ p = uR (rowO oe)) (hi : st.h[i]? = some (some (@Chunk.mk (rvX (rowL oe R)) own n ps)))
    (hsrc : SrcN y st hs M2.length 1 (M2.map (Value.int .u32))) (hl : M.length + M2.length ≤ 100000) (hK : ∀ oe', TabOK oe' (M ++ M2) → K (uV (rowO oe')) [(i, @Chunk.mk (rvX (rowL oe' R)) own n ps)]) : N (EffAll Tryz.prog o st K) := by
  obtain ⟨ei, z, h1, h2, h3, h4, h5⟩ := u32_info
  have hb : (rowN oe + M2.length) * ei.bytes ≤ 100000 * 1000 := Nat.mul_le_mul (by rw [hoe.n]; exact hl) h3
  exact app_now (e := 187) (ei := ei) (z := z) oe R i M2.length (M2.map (Value.int .u32)) ho hx hp Tryz.underlying215 h1 h4 (by rw [h5, h2]) (by rw [h2]; decide) hi (fun r hr => by rw [h2]; exact hoe.ty r hr) hs (by rw [h2]; exact hsrc) (sums_one M2) (by rw [hoe.n]; omega) (by omega) fun oe' hg => hK oe' (hoe.grew (by rw [h2] at hg; exact hg))
def tabL (k : Nat) : List Int := (List.range k).map entN
theorem tabL_len (k : Nat) : (tabL k).length = k := by unfold tabL; rw [List.length_map, List.length_range]
theorem cTable [ZW] (R : List Rw) (i : Nat) (h : List (Option Chunk)) (hi : h[i]? = some (some (rvC R))) :
    CallAll Tryz.prog 138 [] h (fun v ms => ∃ r : Rw, TabOK (some r) (tabL 256) ∧ v = uV (some r.sl) ∧ ms = [(i, rvC (r :: R))]) := by
  have key := call_resall (G := tys) (h := h) (vs := []) (fun _ : Unit => True) (fun _ => _) (α := Rw) (fun κ => TabOK (some κ) (tabL 256)) (fun κ => uV (some κ.sl)) [⟨i, rvC R, rvC R, rvC R⟩] (fun κ => [rvC (κ :: R)]) (fun κ => []) [] tysOK mixed Tryz.func138 (by rfl) (Tryz.call138) ⟨hi, trivial⟩ ⟨⟨fun h => ⟨rfl, Nat.le_refl _⟩, Nat.le_refl _, rvF_re⟩, trivial⟩ (fun κ _ => ⟨⟨fun h => ⟨rfl, Nat.le_refl _⟩, Nat.le_refl _, rvF_re⟩, trivial⟩) (by simp [Apart]) ⟨.inr ⟨rfl, rfl⟩, trivial⟩ (fun κ _ => trivial) trivial Opens.same ?_
  · intro X ρ w2 xs H hx
    rcases key X ρ w2 xs H hx with ⟨v, w', hr', u, ms, ρ', ⟨κ, hκ, rfl, rfl⟩, ha⟩ | ⟨hr', hcl⟩
    · exact .inl ⟨v, w', hr', _, _, ρ', ⟨κ, hκ, rfl, rfl⟩, ha⟩
    · refine .inr ⟨hr', hcl.mono ?_⟩
      rintro e w' ⟨y, he, u, ms, ρ', ⟨κ, hκ, rfl, rfl⟩, ha⟩
      exact ⟨y, he, _, _, ρ', ⟨κ, hκ, rfl, rfl⟩, ha⟩
  rintro ⟨⟩ -
  repeat' (refine N.go ?_; first | fail)
  refine N.go ?_
  refine N.loopR (α := Nat × Option Rw) (fun q => q.1 ≤ 256 ∧ TabOK q.2 (tabL q.1)) (fun q => 256 - q.1) (fun q => [(1, uV (rowO q.2)), (5, .int .i64 (q.1 : Int))]) (fun q => [(0, rvC (rowL q.2 R))]) (0, none) [(0, 0)] ⟨by decide, TabOK.nil⟩ ?_ ?_
  · repeat' (refine N.go ?_; first | exact N.true | refine N.obl (.plain (by rfl)) ?_ | refine N.obl rvF_ren ?_ | refine N.obl (.one (.any (fun _ _ => rfl) fun _ _ => rfl)) ?_ | fail)
  rintro ⟨k, oe⟩ ⟨hk, hoe⟩
  have hk : k ≤ 256 := hk
  have hoe : TabOK oe (tabL k) := hoe
  by_cases hkl : k < 256
  · repeat' (refine N.go ?_; first | refine N.forkYes (decide_eq_true (by omega)) ?_ | fail)
    refine N.go ?_
    refine N.loop (α := Nat) (fun m => m ≤ 8) (fun m => 8 - m) (fun m => [(3, .int .u32 (crcK (IntKind.u32.wrap (k : Int)) m)), (10, .int .i64 (m : Int))]) (fun m => []) 0 (by decide) ?_ ?_
    · repeat' (refine N.go ?_; first | with_reducible refine N.obl rfl ?_ | exact N.true | refine N.obl (ChunkLe.refl _) ?_ | fail)
    intro m hm
    have hm : m ≤ 8 := hm
    by_cases hm8 : m < 8
    · generalize hx : crcK (IntKind.u32.wrap (k : Int)) m = x
      have em : IntKind.i64.wrap ((m : Int) + 1) = ((m + 1 : Nat) : Int) := by rw [i64s _ (by omega) (by omega)]; rfl
      by_cases ho : oddB x = true
      · have es : xor32 (shr32 x 1) 3988292384 = crcK (IntKind.u32.wrap (k : Int)) (m + 1) := by rw [crcK, hx, crcS, if_pos ho]
        repeat' (refine N.go ?_; first | with_reducible refine N.obl (by decide) ?_ | refine N.forkYes ho ?_ | refine N.forkYes (decide_eq_true (by omega)) ?_ | fail)
        refine N.go ?_
        refine N.next (α := Nat) (m + 1) ⟨hm8, by show 8 - (m + 1) < 8 - m; omega⟩ ?_
        repeat' (refine N.go ?_; first | with_reducible refine N.obl rfl ?_ | exact N.true | refine N.obl (congrArg (Value.int .u32) es) ?_ | refine N.obl (congrArg (Value.int .i64) em) ?_ | refine N.obl (ChunkLe.refl _) ?_ | fail)
      · have es : shr32 x 1 = crcK (IntKind.u32.wrap (k : Int)) (m + 1) := by rw [crcK, hx, crcS, if_neg ho]
        repeat' (refine N.go ?_; first | with_reducible refine N.obl (by decide) ?_ | refine N.forkNo (eq_false_of_ne_true ho) ?_ | refine N.forkYes (decide_eq_true (by omega)) ?_ | fail)
        refine N.go ?_
        refine N.next (α := Nat) (m + 1) ⟨hm8, by show 8 - (m + 1) < 8 - m; omega⟩ ?_
        repeat' (refine N.go ?_; first | with_reducible refine N.obl rfl ?_ | exact N.true | refine N.obl (congrArg (Value.int .u32) es) ?_ | refine N.obl (congrArg (Value.int .i64) em) ?_ | refine N.obl (ChunkLe.refl _) ?_ | fail)
    · obtain rfl : m = 8 := by omega
      have ek : ((k + 1 : Nat) : Int) = IntKind.i64.wrap ((k : Int) + 1) := by rw [i64s _ (by omega) (by omega)]; rfl
      repeat' (refine N.go ?_; first | with_reducible refine N.alt ?_ | refine N.forkNo (decide_eq_false (by omega)) ?_ | fail)
      refine N.go ?_
      refine appT oe R (tabL k) [_] 0 [_] hoe rfl rfl (fun ρ => uV_den _ ρ) (by rfl) (src_chunk [_] (List.mem_singleton.2 rfl) rfl (by rfl) (rdF_all (by rfl) (by rfl)) rfl) (by rw [tabL_len]; show _ + 1 ≤ _; omega) fun oe' hoe' => ?_
      have hoe2 : TabOK oe' (tabL (k + 1)) := by
        unfold tabL
        rw [List.range_succ, List.map_append]
        exact hoe'
      repeat' (refine N.go ?_; first | fail)
      refine N.go ?_
      refine N.nextR (α := Nat × Option Rw) (k + 1, oe') [(0, 0)] ⟨⟨hkl, hoe2⟩, by show 256 - (k + 1) < 256 - k; omega⟩ ?_
      repeat' (refine N.go ?_; first | exact N.true | refine N.obl (.plain (by rfl)) ?_ | refine N.obl (reF_eqn (intF_eqn ek) rfl) ?_ | refine N.obl rvF_ren ?_ | refine N.obl (.one .quo) ?_ | fail)
  · obtain rfl : k = 256 := by omega
    cases oe with
    | none => have := hoe.n; rw [tabL_len] at this; exact absurd this (by decide)
    | some r =>
      repeat' (refine N.go ?_; first | refine N.forkNo (decide_eq_false (by omega)) ?_ | refine N.endSame ?_ | refine N.some r ⟨hoe, ?_⟩ | refine N.obl (.one .quo) ?_ | refine N.obl ⟨⟨_, rfl, fun h => h, Nat.le_refl _, rvF_re⟩, trivial⟩ ?_ | refine N.obl trivial ?_ | refine N.obl ⟨⟨.inr ⟨_, rfl, rfl⟩, trivial⟩, trivial⟩ ?_ | exact N.true | fail)
abbrev xor8 (a b : Int) : Int := IntKind.u8.wrap ((BitVec.ofInt IntKind.u8.bits a ^^^ BitVec.ofInt IntKind.u8.bits b).toNat : Int)
theorem xor8_lt (a b : Int) : 0 ≤ xor8 a b ∧ xor8 a b < 256 := by
  unfold xor8
  rw [IntKind.wrap_u8]
  omega
def sumStep (s c : Int) : Int := xor32 (shr32 s 8) (entN (xor8 (IntKind.u8.wrap s) c).toNat)
def sumK (bs : List Int) (k : Nat) : Int := (bs.take k).foldl sumStep 4294967295
def sumN (bs : List Int) : Int := xor32 4294967295 (sumK bs bs.length)
theorem N.notU {x : Int} {K : Value → Prop} (h : K (.int .u32 (xor32 4294967295 x))) : N (UnN Tryz.prog .xor (.int .u32 x) K) := N.mk ⟨.int .u32 (xor32 4294967295 x), ⟨rfl, rfl, fun w => by go_simp; rfl⟩, h⟩
theorem sumK_next {bs : List Int} {k : Nat} {c : Int} (h : bs[k]? = some c) : sumK bs (k + 1) = sumStep (sumK bs k) c := by
  unfold sumK
  rw [List.take_add_one, h, List.foldl_append]; rfl
theorem cWith [ZW] (rt rb : Rw) (R : List Rw) (bs : List Int) (hT : TabOK (some rt) (tabL 256)) (hB : BufOK rb bs) (hl : bs.length ≤ 1000) (ht : rt ∈ R) (hb : rb ∈ R) (i : Nat) (h : List (Option Chunk)) (hi : h[i]? = some (some (rvC R))) :
    CallOK Tryz.prog 137 [uV (some rt.sl), uV (some rb.sl)] h (.int .u32 (sumN bs)) [(i, rvC R)] [] := by
  refine call_res (G := tys) (fun _ : Unit => True) (fun _ => _) [⟨i, rvC R, rvC R, rvC R⟩] [] [uV (some rt.sl), uV (some rb.sl)] tysOK mixed Tryz.func137 (by rfl) (Tryz.call137) ⟨hi, trivial⟩ ⟨⟨fun h => ⟨rfl, Nat.le_refl _⟩, Nat.le_refl _, rvF_re⟩, trivial⟩ (by simp [Apart]) ⟨.inr ⟨rfl, rfl⟩, trivial⟩ trivial ⟨.quo, .quo, trivial⟩ Opens.same ?_
  rintro ⟨⟩ -
  have hbn := hB.n
  have htn : rt.n = 256 := by have := hT.n; rw [tabL_len] at this; exact this
  have hTx : rt.xs = (tabL 256).map (Value.int .u32) := hT.xs
  have hlb : ((uN (some rb.sl) : Nat) : Int) = ((bs.length : Nat) : Int) := by show ((rb.n : Nat) : Int) = _; rw [hbn]
  have hlt : ((uN (some rt.sl) : Nat) : Int) = 256 := by show ((rt.n : Nat) : Int) = _; rw [htn]; rfl
  repeat' (refine N.go ?_; first | refine N.op (ok_lenU rfl rfl ⟨_, rfl, _, Tryz.underlying39⟩) ?_ | fail)
  refine N.go ?_
  refine N.loopR (α := Nat) (fun k => k ≤ bs.length) (fun k => bs.length - k) (fun k => [(5, .int .u32 (sumK bs k)), (11, .int .i64 (k : Int))]) (fun k => []) 0 [(0, 0)] (Nat.zero_le _) ?_ ?_
  · repeat' (refine N.go ?_; first | exact N.true | refine N.obl (.plain (by rfl)) ?_ | refine N.obl rvF_ren ?_ | refine N.obl (.one .quo) ?_ | fail)
  intro k hk
  have hk : k ≤ bs.length := hk
  by_cases hkl : k < bs.length
  · obtain ⟨c, hc⟩ : ∃ c, bs[k]? = some c := ⟨_, List.getElem?_eq_getElem hkl⟩
    have hs := sumK_next hc
    generalize sumK bs k = s0 at hs
    obtain ⟨x0, x1⟩ := xor8_lt (IntKind.u8.wrap s0) c
    have es : sumK bs (k + 1) = xor32 (shr32 s0 8) (entN (xor8 (IntKind.u8.wrap s0) c).toNat) := hs
    have ex : IntKind.i64.wrap (xor8 (IntKind.u8.wrap s0) c) = (xor8 (IntKind.u8.wrap s0) c) := i64s _ (by omega) (by omega)
    have hxe : (tabL 256)[(xor8 (IntKind.u8.wrap s0) c).toNat]? = some (entN (xor8 (IntKind.u8.wrap s0) c).toNat) := by
      unfold tabL
      rw [List.getElem?_map, List.getElem?_range (by omega)]; rfl
    have ek : ((k + 1 : Nat) : Int) = IntKind.i64.wrap ((k : Int) + 1) := by rw [i64s _ (by omega) (by omega)]; rfl
    repeat' (refine N.go ?_; first | with_reducible refine N.obl (by decide) ?_ | refine N.forkYes (decide_eq_true (show _ < _ from by rw [hlt, ex]; exact x1)) ?_ | refine N.op (ok_lenU rfl rfl ⟨_, rfl, _, Tryz.underlying215⟩) ?_ | refine N.op (ok_idxR (sz := 1) (g := rb.o + k) tysOK rfl rfl (fun ρ => by rw [uV_den]; rfl) rfl (by exact rfl) (by omega) (by show ((k : Nat) : Int) < ((rb.n : Nat) : Int); omega) (by show rb.o + ((k : Nat) : Int).toNat * 1 = _; rw [Int.toNat_natCast, Nat.mul_one])) ?_ | refine N.op (ok_loadV (i := 0) rb (v := .int .u8 c) k tysOK rfl rfl rfl (by rfl) hb (by exact rfl) rfl (by rw [hB.xs, List.getElem?_map, hc]; rfl)) ?_ | refine N.op (ok_idxR (sz := 1) (g := rt.o + (xor8 (IntKind.u8.wrap s0) c).toNat) tysOK rfl rfl (fun ρ => by rw [uV_den]; rfl) rfl (by exact rfl) (by rw [ex]; omega) (by rw [ex]; show (xor8 (IntKind.u8.wrap s0) c) < ((rt.n : Nat) : Int); omega) (by rw [ex, Nat.mul_one])) ?_ | refine N.op (ok_loadV (i := 0) rt (v := .int .u32 (entN (xor8 (IntKind.u8.wrap s0) c).toNat)) (xor8 (IntKind.u8.wrap s0) c).toNat tysOK rfl rfl rfl (by rfl) ht (by exact rfl) rfl (by rw [hTx, List.getElem?_map, hxe]; rfl)) ?_ | refine N.forkYes (decide_eq_true (by omega)) ?_ | fail)
    refine N.go ?_
    refine N.nextR (α := Nat) (k + 1) [(0, 0)] ⟨hkl, by show bs.length - (k + 1) < bs.length - k; omega⟩ ?_
    repeat' (refine N.go ?_; first | exact N.true | refine N.obl (.plain (by rfl)) ?_ | refine N.obl (reF_eqn (intF_eqn ek) rfl) ?_ | refine N.obl (reF_eqn (intF_eqn es) rfl) ?_ | refine N.obl rvF_ren ?_ | refine N.obl (.one .quo) ?_ | fail)
  · obtain rfl : k = bs.length := by omega
    repeat' (refine N.go ?_; first | refine N.notU ?_ | refine N.forkNo (decide_eq_false (by omega)) ?_ | refine N.endSame ?_ | refine N.obl (.plain rfl) ?_ | refine N.obl ⟨⟨_, rfl, fun h => h, Nat.le_refl _, rvF_re⟩, trivial⟩ ?_ | refine N.obl trivial ?_ | refine N.obl ⟨⟨.inr ⟨_, rfl, rfl⟩, trivial⟩, trivial⟩ ?_ | exact N.true | fail)
theorem cSum [ZW] (rb : Rw) (R : List Rw) (bs : List Int) (hB : BufOK rb bs) (hl : bs.length ≤ 1000) (hb : rb ∈ R) (i : Nat) (h : List (Option Chunk)) (hi : h[i]? = some (some (rvC R))) :
    CallAll Tryz.prog 110 [uV (some rb.sl)] h (fun v ms => v = .int .u32 (sumN bs) ∧ ms = [(i, rvC R)]) := by
  have hil := (List.getElem?_eq_some_iff.1 hi).1
  have key := call_resall (G := tys) (h := h) (vs := [uV (some rb.sl)]) (fun _ : Unit => True) (fun _ => _) (α := Rw) (fun κ => True) (fun κ => .int .u32 (sumN bs)) [⟨i, rvC R, rvC R, rvC R⟩] (fun κ => [rvC (κ :: R)]) (fun κ => []) [uV (some rb.sl)] tysOK mixed Tryz.func110 (by rfl) (Tryz.call110) ⟨hi, trivial⟩ ⟨⟨fun h => ⟨rfl, Nat.le_refl _⟩, Nat.le_refl _, rvF_re⟩, trivial⟩ (fun κ _ => ⟨⟨fun h => ⟨rfl, Nat.le_refl _⟩, Nat.le_refl _, rvF_re⟩, trivial⟩) (by simp [Apart]) ⟨.inr ⟨rfl, rfl⟩, trivial⟩ (fun κ _ => trivial) ⟨.quo, trivial⟩ Opens.same ?_
  · refine CallAll.soft key fun v ms hR => ?_
    obtain ⟨κ, _, rfl, rfl⟩ := hR
    refine ⟨i, rvX (κ :: R), rvX R, true, 0, [], [(i, rvC R)], ?_, rv_less (List.sublist_cons_self ..), ?_, rfl, rfl⟩
    · show (h.set i _)[i]? = _
      rw [List.getElem?_set_self hil]
    · show (h.set i _).set i _ = h.set i _
      rw [List.set_set]
  rintro ⟨⟩ -
  repeat' (refine N.go ?_; first | fail)
  refine N.go ?_
  refine N.callAll (cTable R 0 _ (by rfl)) fun v ms hR => ?_
  obtain ⟨rt, hT, rfl, rfl⟩ := hR
  repeat' (refine N.go ?_; first | refine N.call (cWith rt rb (rt :: R) bs hT hB hl (List.mem_cons_self ..) (List.mem_cons_of_mem _ hb) 0 _ (by rfl)) ?_ | refine N.endSame ?_ | refine N.some rt ⟨trivial, ?_⟩ | refine N.obl (.plain rfl) ?_ | refine N.obl ⟨⟨_, rfl, fun h => h, Nat.le_refl _, rvF_re⟩, trivial⟩ ?_ | refine N.obl trivial ?_ | refine N.obl ⟨⟨.inr ⟨_, rfl, rfl⟩, trivial⟩, trivial⟩ ?_ | exact N.true | fail)
end Go.Proofs.YtdljelmbjdjpjaaGreat


namespace Go.Proofs.YtdljelmbjdjpjaaGreat
open Go Go.RowKit Sx
theorem frin_x (n m : Int)  (w : World) : Calls Tryz.prog 136 #[.int .i64 n, .int .i64 m] w fun e w' => e = .returned (.bool (decide (0 ≤ n ∧ n ≤ m))) ∧ Below w.heap.size w w' := by
  refine calls_pure (G := tys) w tysOK mixed Tryz.func136 (by rfl) (by first | rfl | (simp only [List.all_cons, List.all_nil, plain_wz, plain_lim, plain_wi]; rfl)) (by first | exact plain3_wz _ | exact plain3_wi _ _ _ | rfl | (simp only [plain3, List.all_cons, List.all_nil, plain_wz, plain_lim, plain_wi]; rfl)) ?_
  repeat' (refine N.go ?_; first | with_reducible (first | refine N.eq ?_ | refine N.forkT ?_ | refine N.forkF ?_) | with_reducible refine N.fork (fun hb => ?_) (fun hb => ?_) | fail)
  all_goals
    refine boolD ?_
    simp only [decide_eq_true_eq, decide_eq_false_iff_not, Bool.false_eq_true, false_iff, true_iff, iff_true, iff_false, reduceCtorEq, not_true_eq_false, not_false_eq_true, ge_iff_le, gt_iff_lt] at *
    omega
theorem cFrIn (n m : Int) (h : List (Option Chunk)) : CallOK Tryz.prog 136 [.int .i64 n, .int .i64 m] h (.bool (decide (0 ≤ n ∧ n ≤ m))) [] [] := call_pure rfl rfl (Tryz.call136 _) (frin_x n m)
theorem frnode_x (n : Int)  (w : World) : Calls Tryz.prog 135 #[.int .i64 n] w fun e w' => e = .returned (.bool (decide (0 ≤ n ∧ n < 64))) ∧ Below w.heap.size w w' := by
  refine calls_pure (G := tys) w tysOK mixed Tryz.func135 (by rfl) (by first | rfl | (simp only [List.all_cons, List.all_nil, plain_wz, plain_lim, plain_wi]; rfl)) (by first | exact plain3_wz _ | exact plain3_wi _ _ _ | rfl | (simp only [plain3, List.all_cons, List.all_nil, plain_wz, plain_lim, plain_wi]; rfl)) ?_
  repeat' (refine N.go ?_; first | with_reducible (first | refine N.eq ?_ | refine N.forkT ?_ | refine N.forkF ?_) | with_reducible refine N.fork (fun hb => ?_) (fun hb => ?_) | fail)
  all_goals
    refine boolD ?_
    simp only [decide_eq_true_eq, decide_eq_false_iff_not, Bool.false_eq_true, false_iff, true_iff, iff_true, iff_false, reduceCtorEq, not_true_eq_false, not_false_eq_true, ge_iff_le, gt_iff_lt] at *
    omega
theorem cFrNode (n : Int) (h : List (Option Chunk)) : CallOK Tryz.prog 135 [.int .i64 n] h (.bool (decide (0 ≤ n ∧ n < 64))) [] [] := call_pure rfl rfl (Tryz.call135 _) (frnode_x n)
theorem tupD {v : Value} {b : Bool} {p : Prop} [Decidable p] (h : b = true ↔ p) : Value.tuple #[v, .bool b] = .tuple #[v, .bool (decide p)] := by
  by_cases hp : p
  · rw [h.2 hp, decide_eq_true hp]
  · rw [decide_eq_false hp]
    cases b with
    | false => rfl
    | true => exact absurd (h.1 rfl) hp
abbrev frF (k s b q st ds t1 t2 wh wn x y a c d : Int) : Value := .agg ⟨[.int .i64 k, .int .i64 s, .int .i64 b, .int .i64 q, .int .i64 st, .int .i64 ds, .int .i64 t1, .int .i64 t2, .int .i64 wh, .int .i64 wn, .int .i64 x, .int .i64 y, .int .i64 a, .int .i64 c, .int .i64 d]⟩
theorem rest1_x (s b q st ds t1 t2 wh wn x y a c d : Int)  (w : World) : Calls Tryz.prog 134 #[frF 1 s b q st ds t1 t2 wh wn x y a c d] w fun e w' => e = .returned (.tuple #[frF 1 s b q st ds t1 t2 wh wn x y a c d, .bool (decide (True))]) ∧ Below w.heap.size w w' := by
  refine calls_pure (G := tys) w tysOK mixed Tryz.func134 (by rfl) (by first | rfl | (simp only [List.all_cons, List.all_nil, plain_wz, plain_lim, plain_wi]; rfl)) (by first | exact plain3_wz _ | exact plain3_wi _ _ _ | rfl | (simp only [plain3, List.all_cons, List.all_nil, plain_wz, plain_lim, plain_wi]; rfl)) ?_
  repeat' (refine N.go ?_; first | with_reducible (first | refine N.eq ?_ | refine N.obl rfl ?_ | refine N.forkT ?_) | refine N.forkYes (by decide) ?_ | fail)
  all_goals
    refine tupD ?_
    simp only [decide_eq_true_eq, decide_eq_false_iff_not, Bool.false_eq_true, false_iff, true_iff, iff_true, iff_false, reduceCtorEq, not_true_eq_false, not_false_eq_true, ge_iff_le, gt_iff_lt, bne_iff_ne, ne_eq, bne_eq_false_iff_eq] at *
    try first | omega | exact ⟨fun hh => ⟨by assumption, by assumption, by assumption, hh⟩, fun hh => hh.2.2.2⟩
theorem rest5_x (s b q st ds t1 t2 wh wn x y a c d : Int)  (w : World) : Calls Tryz.prog 134 #[frF 5 s b q st ds t1 t2 wh wn x y a c d] w fun e w' => e = .returned (.tuple #[frF 5 s b q st ds t1 t2 wh wn 0 0 0 0 0, .bool (decide (mayP x y a c d))]) ∧ Below w.heap.size w w' := by
  refine calls_pure (G := tys) w tysOK mixed Tryz.func134 (by rfl) (by first | rfl | (simp only [List.all_cons, List.all_nil, plain_wz, plain_lim, plain_wi]; rfl)) (by first | exact plain3_wz _ | exact plain3_wi _ _ _ | rfl | (simp only [plain3, List.all_cons, List.all_nil, plain_wz, plain_lim, plain_wi]; rfl)) ?_
  repeat' (refine N.go ?_; first | with_reducible (first | refine N.obl (by decide) ?_ | refine N.eq ?_ | refine N.obl rfl ?_) | refine N.forkNo (by decide) ?_ | refine N.forkYes (by decide) ?_ | refine N.call (cEMay _ _ _ _ _ _) ?_ | fail)
  all_goals
    refine tupD ?_
    simp only [decide_eq_true_eq, decide_eq_false_iff_not, Bool.false_eq_true, false_iff, true_iff, iff_true, iff_false, reduceCtorEq, not_true_eq_false, not_false_eq_true, ge_iff_le, gt_iff_lt, bne_iff_ne, ne_eq, bne_eq_false_iff_eq] at *
    try first | omega | exact ⟨fun hh => ⟨by assumption, by assumption, by assumption, hh⟩, fun hh => hh.2.2.2⟩
theorem eqz_ell (x y : Operand) : BinIs Tryz.prog .eql 38 x y (.agg ⟨[.int .i64 0, .int .i64 0, .int .i64 0, .int .i64 0, .int .i64 0]⟩) (.agg ⟨[.int .i64 0, .int .i64 0, .int .i64 0, .int .i64 0, .int .i64 0]⟩) (.bool true) := ⟨rfl, rfl, rfl, fun w => by go_simp⟩
theorem cRestY1 (s b q st : Int)  (h : List (Option Chunk)) : CallOK Tryz.prog 134 [frF 1 s b q st 0 0 0 0 0 0 0 0 0 0] h (.tuple #[frF 1 s b q st 0 0 0 0 0 0 0 0 0 0, .bool true]) [] [] := call_pure rfl rfl (Tryz.call134 _) fun w => (rest1_x s b q st 0 0 0 0 0 0 0 0 0 0 w).mono fun e w' ⟨he, hB⟩ => ⟨by rw [he, decide_eq_true (show True from trivial)], hB⟩
theorem frmay1_x (s b q st : Int)  (hs : 0 ≤ s ∧ s < 64) (hb : 0 ≤ b ∧ b ≤ 65535) (hq : 0 ≤ q ∧ q ≤ 65535) (hst : 0 ≤ st ∧ st ≤ 1000000) (w : World) : Calls Tryz.prog 108 #[frF 1 s b q st 0 0 0 0 0 0 0 0 0 0] w fun e w' => e = .returned (.bool true) ∧ Below w.heap.size w w' := by
  refine calls_pure (G := tys) w tysOK mixed Tryz.func108 (by rfl) (by first | rfl | (simp only [List.all_cons, List.all_nil, plain_wz, plain_lim, plain_wi]; rfl)) (by first | exact plain3_wz _ | exact plain3_wi _ _ _ | rfl | (simp only [plain3, List.all_cons, List.all_nil, plain_wz, plain_lim, plain_wi]; rfl)) ?_
  repeat' (refine N.go ?_; first | with_reducible (first | refine N.obl (by decide) ?_ | refine N.eq ?_ | refine N.obl rfl ?_ | refine N.forkT ?_) | refine N.forkYes (by decide) ?_ | refine N.call (cRestY1 s b q st _) ?_ | refine N.call (cFrNode _ _) ?_ | refine N.call (cFrIn _ _ _) ?_ | refine N.forkYes (decide_eq_true hs) ?_ | refine N.forkYes (decide_eq_true hb) ?_ | refine N.forkYes (decide_eq_true hq) ?_ | refine N.forkYes (decide_eq_true hst) ?_ | refine N.bin _ (eqz_ell _ _) ?_ | fail)
  all_goals rfl
theorem cFrMay1 (s b q st : Int) (hs : 0 ≤ s ∧ s < 64) (hb : 0 ≤ b ∧ b ≤ 65535) (hq : 0 ≤ q ∧ q ≤ 65535) (hst : 0 ≤ st ∧ st ≤ 1000000)  (h : List (Option Chunk)) : CallOK Tryz.prog 108 [frF 1 s b q st 0 0 0 0 0 0 0 0 0 0] h (.bool true) [] [] := call_pure rfl rfl (Tryz.call108 _) (frmay1_x s b q st hs hb hq hst)
theorem cRestY5 (s b q st : Int) (x y a c d : Int) (hm : mayP x y a c d) (h : List (Option Chunk)) : CallOK Tryz.prog 134 [frF 5 s b q st 0 0 0 0 0 x y a c d] h (.tuple #[frF 5 s b q st 0 0 0 0 0 0 0 0 0 0, .bool true]) [] [] := call_pure rfl rfl (Tryz.call134 _) fun w => (rest5_x s b q st 0 0 0 0 0 x y a c d w).mono fun e w' ⟨he, hB⟩ => ⟨by rw [he, decide_eq_true (show mayP x y a c d from hm)], hB⟩
theorem frmay5_x (s b q st : Int) (x y a c d : Int)  (hs : 0 ≤ s ∧ s < 64) (hb : 0 ≤ b ∧ b ≤ 65535) (hq : 0 ≤ q ∧ q ≤ 65535) (hst : 0 ≤ st ∧ st ≤ 1000000)(hm : mayP x y a c d) (w : World) : Calls Tryz.prog 108 #[frF 5 s b q st 0 0 0 0 0 x y a c d] w fun e w' => e = .returned (.bool true) ∧ Below w.heap.size w w' := by
  refine calls_pure (G := tys) w tysOK mixed Tryz.func108 (by rfl) (by first | rfl | (simp only [List.all_cons, List.all_nil, plain_wz, plain_lim, plain_wi]; rfl)) (by first | exact plain3_wz _ | exact plain3_wi _ _ _ | rfl | (simp only [plain3, List.all_cons, List.all_nil, plain_wz, plain_lim, plain_wi]; rfl)) ?_
  repeat' (refine N.go ?_; first | with_reducible (first | refine N.obl (by decide) ?_ | refine N.eq ?_ | refine N.obl rfl ?_ | refine N.forkT ?_) | refine N.forkYes (by decide) ?_ | refine N.call (cRestY5 s b q st x y a c d hm _) ?_ | refine N.call (cFrNode _ _) ?_ | refine N.call (cFrIn _ _ _) ?_ | refine N.forkYes (decide_eq_true hs) ?_ | refine N.forkYes (decide_eq_true hb) ?_ | refine N.forkYes (decide_eq_true hq) ?_ | refine N.forkYes (decide_eq_true hst) ?_ | refine N.bin _ (eqz_ell _ _) ?_ | fail)
  all_goals rfl
theorem cFrMay5 (s b q st : Int) (x y a c d : Int) (hs : 0 ≤ s ∧ s < 64) (hb : 0 ≤ b ∧ b ≤ 65535) (hq : 0 ≤ q ∧ q ≤ 65535) (hst : 0 ≤ st ∧ st ≤ 1000000) (hm : mayP x y a c d) (h : List (Option Chunk)) : CallOK Tryz.prog 108 [frF 5 s b q st 0 0 0 0 0 x y a c d] h (.bool true) [] [] := call_pure rfl rfl (Tryz.call108 _) (frmay5_x s b q st x y a c d hs hb hq hst hm)
theorem u8_info2 : ∃ ei, Tryz.prog.info? 5 = some ei ∧ ei.size = 1 ∧ ei.zero = some (.int .u8 0) := by
  obtain ⟨ei, d, h1, h2, h3⟩ := lookT_out tysOK (t := 5) (K := fun ei _ => ei.size = 1 ∧ ei.zero = some (.int .u8 0)) ⟨rfl, rfl⟩
  exact ⟨ei, h1, h3⟩
def encH (k s b q st ds t1 t2 wh wn x y a c d : Int) : List Int := [97, 108, 105, 49] ++ be k 1 ++ be s 1 ++ be ds 1 ++ be wh 1 ++ be b 2 ++ be q 2 ++ be st 8 ++ be t1 8 ++ be t2 8 ++ be wn 8 ++ be x 4 ++ be y 4 ++ be a 8 ++ be c 8 ++ be d 8
def encB (k s b q st ds t1 t2 wh wn x y a c d : Int) : List Int := encH k s b q st ds t1 t2 wh wn x y a c d ++ be (IntKind.i64.wrap (sumN (encH k s b q st ds t1 t2 wh wn x y a c d))) 4
theorem be_len (n : Int) (w : Nat) : (be n w).length = w := beK_len n w w
def Fi (n : Int) : Prop := -9223372036854775808 ≤ n ∧ n ≤ 9223372036854775807
theorem encode_x (k s b q st ds t1 t2 wh wn x y a c d : Int) (hk : Fi k) (hs : Fi s) (hb : Fi b) (hq : Fi q) (hst : Fi st) (hds : Fi ds) (ht1 : Fi t1) (ht2 : Fi t2) (hwh : Fi wh) (hwn : Fi wn) (hx : Fi x) (hy : Fi y) (ha : Fi a) (hc : Fi c) (hd : Fi d) (hM : ∀ h, CallOK Tryz.prog 108 [frF k s b q st ds t1 t2 wh wn x y a c d] h (.bool true) [] []) (W : World) (hW : 0 < W.heap.size) :
    Calls Tryz.prog 82 #[frF k s b q st ds t1 t2 wh wn x y a c d] W fun e w' => ∃ r : Rw, BufOK r (encB k s b q st ds t1 t2 wh wn x y a c d) ∧ e = .returned (den (fun _ => (0, 0)) (.tuple #[uV (some r.sl), .int .i64 0])) ∧ Below W.heap.size W w' ∧ ∀ q ∈ [r], RwAt w' q ∧ W.heap.size ≤ q.b := by
  letI : ZW := ⟨some W⟩
  refine calls_rvX (vs := [frF k s b q st ds t1 t2 wh wn x y a c d]) W rfl (fun (r : Rw) => .tuple #[uV (some r.sl), .int .i64 0]) (fun r => [r]) (fun r => BufOK r (encB k s b q st ds t1 t2 wh wn x y a c d)) tysOK mixed Tryz.func82 (by rfl) hW rfl (fun (κ : Rw) r r' => by
    have e : ∀ r, den2 r (uV (some κ.sl)) = uR (some κ.sl) := fun r => uV_den0 (some κ.sl) r
    have e2 : ∀ r, den r (.tuple #[uV (some κ.sl), .int .i64 0]) = .tuple #[uR (some κ.sl), .int .i64 0] := fun r => by
      show Value.tuple (#[uV (some κ.sl), .int .i64 0].map (den2 r)) = _
      simp only [List.map_toArray, List.map_cons, List.map_nil, e]; rfl
    rw [e2, e2]) ?_
  repeat' (refine N.go ?_; first | with_reducible refine N.obl rfl ?_ | refine N.call (hM _) ?_ | refine N.forkNo (by decide) ?_ | fail)
  refine N.go ?_
  refine N.altP ?_
  obtain ⟨ei, h1, h2, h3⟩ := u8_info2
  refine eff_buildR (ei := ei) (z := .int .u8 0) (out := [.int .u8 97, .int .u8 108, .int .u8 105, .int .u8 49]) (R := []) (i := 0) rfl (by exact ⟨_, _, rfl, ⟨rfl, rfl⟩, _, _, rfl, ⟨rfl, rfl⟩, _, _, rfl, ⟨rfl, rfl⟩, _, _, rfl, ⟨rfl, rfl⟩, rfl⟩) Tryz.underlying39 h1 h3 rfl (by rw [h2]; rfl) (by rw [h2]; decide) (by rw [h2]; decide) (by rw [h2]; rfl) (by rw [h2]; rfl) rfl (by rw [h2]; decide) (by rfl) fun bb => ?_
  have hr0 : BufOK ⟨true, 5, ei.size, bb, 0, 4, 4, [.int .u8 97, .int .u8 108, .int .u8 105, .int .u8 49]⟩ [97, 108, 105, 49] := ⟨rfl, rfl, h2, rfl, rfl⟩
  generalize hg0 : (⟨true, 5, ei.size, bb, 0, 4, 4, [.int .u8 97, .int .u8 108, .int .u8 105, .int .u8 49]⟩ : Rw) = r0 at hr0
  have hg1 : (some ⟨bb, 0, 4, 4, none⟩ : Option Sl) = some r0.sl := by rw [← hg0]
  rw [hg1]
  repeat' (refine N.go ?_; first | refine N.op (ok_mark (i := 0) r0 rfl rfl Tryz.underlying39 Tryz.underlying5 hr0.w (List.mem_singleton.2 rfl) (by rfl)) ?_ | refine N.roll 5 ?_ | refine N.idx 0 0 (by decide) (by decide) ?_ | refine N.forkYes (by decide) ?_ | fail)
  refine N.go ?_
  refine N.callAll (cPut r0 [] _ hr0 k hk 1 (by decide) (by simp only [List.length_append, be_len, List.length_cons, List.length_nil]; omega) 0 _ (by rfl)) fun v ms hR => ?_
  obtain ⟨r1, hr1, rfl, rfl⟩ := hR
  repeat' (refine N.go ?_; first | refine N.idx 1 0 (by decide) (by decide) ?_ | refine N.forkYes (by decide) ?_ | fail)
  refine N.go ?_
  refine N.callAll (cPut r1 [] _ hr1 s hs 1 (by decide) (by simp only [List.length_append, be_len, List.length_cons, List.length_nil]; omega) 0 _ (by rfl)) fun v ms hR => ?_
  obtain ⟨r2, hr2, rfl, rfl⟩ := hR
  repeat' (refine N.go ?_; first | refine N.idx 2 0 (by decide) (by decide) ?_ | refine N.forkYes (by decide) ?_ | fail)
  refine N.go ?_
  refine N.callAll (cPut r2 [] _ hr2 ds hds 1 (by decide) (by simp only [List.length_append, be_len, List.length_cons, List.length_nil]; omega) 0 _ (by rfl)) fun v ms hR => ?_
  obtain ⟨r3, hr3, rfl, rfl⟩ := hR
  repeat' (refine N.go ?_; first | refine N.idx 3 0 (by decide) (by decide) ?_ | refine N.forkYes (by decide) ?_ | fail)
  refine N.go ?_
  refine N.callAll (cPut r3 [] _ hr3 wh hwh 1 (by decide) (by simp only [List.length_append, be_len, List.length_cons, List.length_nil]; omega) 0 _ (by rfl)) fun v ms hR => ?_
  obtain ⟨r4, hr4, rfl, rfl⟩ := hR
  repeat' (refine N.go ?_; first | refine N.forkNo (by decide) ?_ | fail)
  refine N.go ?_
  refine N.altP ?_
  refine N.plan [0, 1, 2, 4, 5] [(3, []), (6, [7])] (by kernel_rfl) ?_
  repeat' (refine N.go ?_; first | fail)
  refine N.go ?_
  refine N_callQ [0] _ (by show midB _ _ _ _ = Bool.true; kernel_rfl) (fun h₂ hh => cPut r4 [] _ hr4 b hb 2 (by decide) (by simp only [List.length_append, be_len, List.length_cons, List.length_nil]; omega) 0 h₂ ((hh 0 (by simp)).trans rfl)) fun v ms hM_ => ?_
  obtain ⟨r5, hr5, rfl, rfl⟩ := hM_
  refine ⟨by simp, ?_⟩
  repeat' (refine N.go ?_; first | fail)
  refine N.go ?_
  refine N_callQ [0] _ (by show midB _ _ _ _ = Bool.true; kernel_rfl) (fun h₂ hh => cPut r5 [] _ hr5 q hq 2 (by decide) (by simp only [List.length_append, be_len, List.length_cons, List.length_nil]; omega) 0 h₂ ((hh 0 (by simp)).trans rfl)) fun v ms hM_ => ?_
  obtain ⟨r6, hr6, rfl, rfl⟩ := hM_
  refine ⟨by simp, ?_⟩
  repeat' (refine N.go ?_; first | with_reducible refine N.obl (by decide) ?_ | refine N.roll 5 ?_ | refine N.idx 0 0 (by decide) (by decide) ?_ | refine N.forkYes (by decide) ?_ | fail)
  repeat' (refine N.go ?_; first | fail)
  refine N.go ?_
  refine N.callAll (cPut r6 [] _ hr6 st hst 8 (by decide) (by simp only [List.length_append, be_len, List.length_cons, List.length_nil]; omega) 0 _ (by rfl)) fun v ms hR => ?_
  obtain ⟨r7, hr7, rfl, rfl⟩ := hR
  repeat' (refine N.go ?_; first | refine N.idx 1 0 (by decide) (by decide) ?_ | refine N.forkYes (by decide) ?_ | fail)
  refine N.go ?_
  refine N.callAll (cPut r7 [] _ hr7 t1 ht1 8 (by decide) (by simp only [List.length_append, be_len, List.length_cons, List.length_nil]; omega) 0 _ (by rfl)) fun v ms hR => ?_
  obtain ⟨r8, hr8, rfl, rfl⟩ := hR
  repeat' (refine N.go ?_; first | refine N.idx 2 0 (by decide) (by decide) ?_ | refine N.forkYes (by decide) ?_ | fail)
  refine N.go ?_
  refine N.callAll (cPut r8 [] _ hr8 t2 ht2 8 (by decide) (by simp only [List.length_append, be_len, List.length_cons, List.length_nil]; omega) 0 _ (by rfl)) fun v ms hR => ?_
  obtain ⟨r9, hr9, rfl, rfl⟩ := hR
  repeat' (refine N.go ?_; first | refine N.idx 3 0 (by decide) (by decide) ?_ | refine N.forkYes (by decide) ?_ | fail)
  refine N.go ?_
  refine N.callAll (cPut r9 [] _ hr9 wn hwn 8 (by decide) (by simp only [List.length_append, be_len, List.length_cons, List.length_nil]; omega) 0 _ (by rfl)) fun v ms hR => ?_
  obtain ⟨r10, hr10, rfl, rfl⟩ := hR
  repeat' (refine N.go ?_; first | refine N.forkNo (by decide) ?_ | fail)
  refine N.go ?_
  refine N.altP ?_
  refine N.plan [0, 1, 2, 3, 4, 6, 7, 8, 9] [(5, []), (10, [11])] (by kernel_rfl) ?_
  repeat' (refine N.go ?_; first | fail)
  refine N.go ?_
  refine N_callQ [0] _ (by show midB _ _ _ _ = Bool.true; kernel_rfl) (fun h₂ hh => cPut r10 [] _ hr10 x hx 4 (by decide) (by simp only [List.length_append, be_len, List.length_cons, List.length_nil]; omega) 0 h₂ ((hh 0 (by simp)).trans rfl)) fun v ms hM_ => ?_
  obtain ⟨r11, hr11, rfl, rfl⟩ := hM_
  refine ⟨by simp, ?_⟩
  repeat' (refine N.go ?_; first | fail)
  refine N.go ?_
  refine N_callQ [0] _ (by show midB _ _ _ _ = Bool.true; kernel_rfl) (fun h₂ hh => cPut r11 [] _ hr11 y hy 4 (by decide) (by simp only [List.length_append, be_len, List.length_cons, List.length_nil]; omega) 0 h₂ ((hh 0 (by simp)).trans rfl)) fun v ms hM_ => ?_
  obtain ⟨r12, hr12, rfl, rfl⟩ := hM_
  refine ⟨by simp, ?_⟩
  repeat' (refine N.go ?_; first | with_reducible refine N.obl (by decide) ?_ | refine N.roll 5 ?_ | refine N.idx 0 0 (by decide) (by decide) ?_ | refine N.forkYes (by decide) ?_ | fail)
  repeat' (refine N.go ?_; first | fail)
  refine N.go ?_
  refine N.callAll (cPut r12 [] _ hr12 a ha 8 (by decide) (by simp only [List.length_append, be_len, List.length_cons, List.length_nil]; omega) 0 _ (by rfl)) fun v ms hR => ?_
  obtain ⟨r13, hr13, rfl, rfl⟩ := hR
  repeat' (refine N.go ?_; first | refine N.idx 1 0 (by decide) (by decide) ?_ | refine N.forkYes (by decide) ?_ | fail)
  refine N.go ?_
  refine N.callAll (cPut r13 [] _ hr13 c hc 8 (by decide) (by simp only [List.length_append, be_len, List.length_cons, List.length_nil]; omega) 0 _ (by rfl)) fun v ms hR => ?_
  obtain ⟨r14, hr14, rfl, rfl⟩ := hR
  repeat' (refine N.go ?_; first | refine N.idx 2 0 (by decide) (by decide) ?_ | refine N.forkYes (by decide) ?_ | fail)
  refine N.go ?_
  refine N.callAll (cPut r14 [] _ hr14 d hd 8 (by decide) (by simp only [List.length_append, be_len, List.length_cons, List.length_nil]; omega) 0 _ (by rfl)) fun v ms hR => ?_
  obtain ⟨r15, hr15, rfl, rfl⟩ := hR
  repeat' (refine N.go ?_; first | refine N.forkNo (by decide) ?_ | fail)
  refine N.go ?_
  refine N.callAll (cSum r15 [r15] _ hr15 (by simp only [List.length_append, be_len, List.length_cons, List.length_nil]; omega) (List.mem_singleton.2 rfl) 0 _ (by rfl)) fun v ms hR => ?_
  obtain ⟨rfl, rfl⟩ := hR
  repeat' (refine N.go ?_; first | fail)
  have hsum : Fi (IntKind.i64.wrap (sumN (encH k s b q st ds t1 t2 wh wn x y a c d))) := by
    unfold Fi
    rw [IntKind.wrap_i64]
    omega
  refine N.go ?_
  refine N.callAll (cPut r15 [] _ hr15 (IntKind.i64.wrap (sumN (encH k s b q st ds t1 t2 wh wn x y a c d))) hsum 4 (by decide) (by simp only [List.length_append, be_len, List.length_cons, List.length_nil]; omega) 0 _ (by rfl)) fun v ms hR => ?_
  obtain ⟨r16, hr16, rfl, rfl⟩ := hR
  repeat' (refine N.go ?_; first | fail)
  refine N.go ?_
  exact N.mk ⟨r16, hr16, rfl, rfl⟩
end Go.Proofs.YtdljelmbjdjpjaaGreat


namespace Go.Proofs.YtdljelmbjdjpjaaGreat
open Go Go.RowKit Sx
theorem set_here {h : List (Option Chunk)} {i : Nat} {c : Chunk} (hi : h[i]? = some (some c)) : h.set i (some c) = h := by
  refine List.ext_getElem? fun j => ?_
  by_cases e : i = j
  · subst e; rw [List.getElem?_set_self (List.getElem?_eq_some_iff.1 hi).1, hi]
  · rw [List.getElem?_set_ne e]
theorem row_by {w : World} {B g c : Nat} {bs : List Int} (h : w.ownsRow B 5 1 (.slice (some ⟨g, 0, none⟩) bs.length c) bs.length (bs.map (Value.int .u8))) : ByAt w ⟨g, c, bs⟩ := by
  refine ⟨(World.ownsRow.lt h g rfl).2, fun j hj => ?_, fun j hj => World.ownsRow.frozenAt h j⟩
  have hj : j < bs.length := hj
  rw [World.ownsRow.cellAt h j (by omega)]
  simp [List.getD_eq_getElem?_getD, hj]
abbrev mailV (to_ : Int) (u : Option Sl) (at_ tr : Int) (be : Bool) : Value := .agg ⟨[.int .i64 to_, uV u, .int .i64 at_, .int .i64 tr, .bool be]⟩
abbrev mailR (to_ : Int) (u : Option Sl) (at_ tr : Int) (be : Bool) : Value := .agg ⟨[.int .i64 to_, uR u, .int .i64 at_, .int .i64 tr, .bool be]⟩
theorem mailV_den (to_ : Int) (u : Option Sl) (at_ tr : Int) (be : Bool) (ρ : Nat → Nat × Nat) : den ρ (mailV to_ u at_ tr be) = mailR to_ u at_ tr be := by
  show Value.agg (#[.int .i64 to_, uV u, .int .i64 at_, .int .i64 tr, .bool be].map (den1 ρ)) = _
  have e := uV_den1 u ρ
  simp only [List.map_toArray, List.map_cons, List.map_nil]
  rw [e]
  rfl
theorem mailV_re (to_ : Int) (u : Option Sl) (at_ tr : Int) (be : Bool) {ix : List (Nat × Nat)} : Re2 ix (mailV to_ u at_ tr be) (mailV to_ u at_ tr be) := .agg ⟨.plain rfl, uV_re1 u, .plain rfl, .plain rfl, .plain rfl, trivial⟩
theorem cOwnM (W : World) (F : List By) (u : Option Sl) (bs : List Int) (hs : Src W F u bs) (hm : bs.length ≤ 1048576) (to_ at_ tr : Int) (be : Bool) (i : Nat) (h : List (Option Chunk)) (hi : h[i]? = some (some (memC W F))) :
    CallAll Tryz.prog 93 [mailV to_ u at_ tr be] h fun v ms => ∃ u' F', Made F bs u' F' ∧ v = mailV to_ u' at_ tr be ∧ ms = [(i, memC W F')] := fun X ρ w xs H hx => by
  obtain ⟨S, E⟩ := H.ext
  have M : MemOK W F (ρ i) (S i) w := E.inv i _ hi
  have hb := M.src hs
  match xs, hx with
  | [x], hx =>
    obtain rfl : mailR to_ u at_ tr be = x := by have := hx.1.self; rwa [mailV_den] at this
    refine .inr ⟨Tryz.call93 _ w, ?_⟩
    cases u with
    | none =>
      obtain rfl : bs = [] := List.length_eq_zero_iff.1 hb.1
      refine (own_nil to_ at_ tr be w).mono ?_
      rintro e w' ⟨rfl, hB⟩
      refine ⟨_, rfl, mailV to_ none at_ tr be, _, ρ, ⟨none, F, .nil rfl, rfl, rfl⟩, AgreeOn.refl _ _, ?_, fun r _ => mailV_den _ _ _ _ _ r⟩
      show HOK X ρ (h.set i (some (memC W F))) w'
      rw [set_here hi]; exact H.frame hB
    | some s =>
      have hn : bs.length = s.n := hb.1
      have hc : ∀ j, j < bs.length → w.cell? ((⟨s.b, s.o, s.sp⟩ : Addr).add j) = some (.int .u8 (bs.getD j 0)) := fun j hj => by
        obtain ⟨h1, h2⟩ := hb.2 s rfl
        have hsp : s.sp = none := by rcases h1 with h1 | h1; exact h1; omega
        rw [hsp, add_at]; exact h2 j hj
      have := own_some to_ at_ tr be ⟨s.b, s.o, s.sp⟩ s.c bs w hm hc
      rw [hn] at this
      refine this.mono ?_
      rintro e w' ⟨g, c, rfl, ho, hg, hB⟩
      rw [← hn] at ho
      have hat := row_by ho
      obtain ⟨hno, H'⟩ := mem_more (e := ⟨g, c, bs⟩) H hi hB hat hg
      refine ⟨_, rfl, mailV to_ (By.mk g c bs).s at_ tr be, _, ρ, ⟨_, _, .new hno, rfl, rfl⟩, AgreeOn.refl _ _, H', fun r _ => ?_⟩
      rw [mailV_den]
      show mailR to_ (some ⟨g, 0, bs.length, c, none⟩) at_ tr be = _
      rw [hn]; rfl
end Go.Proofs.YtdljelmbjdjpjaaGreat


namespace Go.Proofs.YtdljelmbjdjpjaaGreat
open Go Go.RowKit Sx
theorem buf_by {w : World} {r : Rw} {bs : List Int} (hr : BufOK r bs) (hA : RwAt w r) : r.o = 0 ∧ ByAt w ⟨r.b, r.c, bs⟩ := by
  obtain ⟨q4, cur, z, hh, hz, hs⟩ := hA.own hr.w
  have hl : r.xs.length = bs.length := by rw [hr.xs, List.length_map]
  refine ⟨q4, hA.lt, fun j hj => ?_, fun j hj => ?_⟩
  · have hj : j < bs.length := hj
    have h1 := hA.cell j (by omega)
    rw [q4, Nat.zero_add, hr.xs, List.getElem?_map, List.getElem?_eq_getElem hj] at h1
    show w.cell? ⟨r.b, j, none⟩ = some (.int .u8 (bs.getD j 0))
    rw [h1, List.getD_eq_getElem?_getD, List.getElem?_eq_getElem hj]; rfl
  · have hj : j < bs.length := hj
    have hc := hA.cap
    have hn := hr.n
    have hk := hr.k
    rw [hk, Nat.mul_one] at hs
    exact (row_room hh hz j (by omega)).2
theorem buf_sl {r : Rw} {bs : List Int} (hr : BufOK r bs) (h0 : r.o = 0) : (some r.sl : Option Sl) = (By.mk r.b r.c bs).s := by
  show (some ⟨r.b, r.o, r.n, r.c, none⟩ : Option Sl) = some ⟨r.b, 0, bs.length, r.c, none⟩
  rw [h0, hr.n]
theorem cEncodeM (W : World) (F : List By) (k s b q st ds t1 t2 wh wn x y a c d : Int) (hk : Fi k) (hs : Fi s) (hb : Fi b) (hq : Fi q) (hst : Fi st) (hds : Fi ds) (ht1 : Fi t1) (ht2 : Fi t2) (hwh : Fi wh) (hwn : Fi wn) (hx : Fi x) (hy : Fi y) (ha : Fi a) (hc : Fi c) (hd : Fi d) (hM : ∀ h, CallOK Tryz.prog 108 [frF k s b q st ds t1 t2 wh wn x y a c d] h (.bool true) [] []) (i : Nat) (h : List (Option Chunk)) (hi : h[i]? = some (some (memC W F))) :
    CallAll Tryz.prog 82 [frF k s b q st ds t1 t2 wh wn x y a c d] h fun v ms => ∃ e : By, e.bs = encB k s b q st ds t1 t2 wh wn x y a c d ∧ e.b ∉ F.map By.b ∧ v = .tuple #[uV e.s, .int .i64 0] ∧ ms = [(i, memC W (e :: F))] := fun X ρ w xs H hxs => by
  obtain rfl := den_all_eq (vs := [frF k s b q st ds t1 t2 wh wn x y a c d]) rfl hxs
  obtain ⟨S, E⟩ := H.ext
  have M : MemOK W F (ρ i) (S i) w := E.inv i _ hi
  refine .inr ⟨Tryz.call82 _ w, (encode_x k s b q st ds t1 t2 wh wn x y a c d hk hs hb hq hst hds ht1 ht2 hwh hwn hx hy ha hc hd hM w (by have := H.lt _ _ hi; omega)).mono ?_⟩
  rintro e w' ⟨r, hr, rfl, hB, hA⟩
  obtain ⟨hA, hge⟩ := hA r (List.mem_singleton.2 rfl)
  obtain ⟨h0, hby⟩ := buf_by hr hA
  obtain ⟨hno, H'⟩ := mem_more (e := ⟨r.b, r.c, encB k s b q st ds t1 t2 wh wn x y a c d⟩) H hi hB hby hge
  have e : ∀ r2, den2 r2 (uV (some r.sl)) = uR (some r.sl) := fun r2 => uV_den0 (some r.sl) r2
  have e2 : ∀ r2, den r2 (.tuple #[uV (some r.sl), .int .i64 0]) = .tuple #[uR (some r.sl), .int .i64 0] := fun r2 => by
    show Value.tuple (#[uV (some r.sl), .int .i64 0].map (den2 r2)) = _
    simp only [List.map_toArray, List.map_cons, List.map_nil, e]; rfl
  refine ⟨_, rfl, .tuple #[uV (some r.sl), .int .i64 0], _, ρ, ⟨⟨r.b, r.c, encB k s b q st ds t1 t2 wh wn x y a c d⟩, rfl, hno, by rw [buf_sl hr h0], rfl⟩, AgreeOn.refl _ _, H', fun r2 _ => ?_⟩
  rw [e2, e2]
end Go.Proofs.YtdljelmbjdjpjaaGreat


namespace Go.Proofs.YtdljelmbjdjpjaaGreat
open Go Go.RowKit Sx
end Go.Proofs.YtdljelmbjdjpjaaGreat


namespace Go.Proofs.YtdljelmbjdjpjaaGreat
open Go Go.RowKit Sx
theorem post_mk {ix : List (Nat × Nat)} {h : List (Option Chunk)} {k n : Nat} (hh : h[k]? = some (some ⟨true, n, [(0, n, .agg ⟨segL n (repZ 1 (.bool false))⟩)]⟩)) : PostC ix h k (mvP true n (fun _ => false)) :=
  ⟨_, hh, id, Nat.le_refl _, fun j hj => by
    have hj : j < n := hj
    rw [seg_at hj, seg_at hj]
    rw [show repZ 1 (.bool false) j = .bool false from (repZ_bool j).symm]
    exact .plain rfl⟩
theorem cWTickY (c : Nat → Int) (n cap i j k m : Nat) (P : Nat → Int) (M : Nat → Bool) (tm st : Int) (o2 o3 : Bool) (h : List (Option Chunk)) (hi : h[i]? = some (some (wcc true c n cap j k tm st))) (hj : h[j]? = some (some (ptP o2 n P))) (hk : h[k]? = some (some (mvP o3 n M))) (hm : h[m]? = some none) (hij : i ≠ j) (hik : i ≠ k) (hn : 1 ≤ n ∧ n ≤ 64) (ht : 0 ≤ tm ∧ tm < 750000) :
    CallOK Tryz.prog 54 [.pointer (some ⟨i, 0, some 0⟩)] h (.bool true) [(i, wcc true c n cap j m (tm + 1) 0), (m, mvP true n (fun _ => false))] [j, k] := by
  have e1 : IntKind.i64.wrap (tm + 1) = tm + 1 := i64s _ (by omega) (by omega)
  refine call_sub (G := tys) [⟨i, _, wcc true c n cap 1 2 tm st, wcc true c n cap j m (tm + 1) 0⟩, ⟨j, _, ptP false n P, ⟨false, 0, []⟩⟩, ⟨k, _, mvP false n M, ⟨false, 0, []⟩⟩] [⟨m, 7, mvP true n (fun _ => false)⟩] [.pointer (some ⟨0, 0, some 0⟩)] tysOK mixed Tryz.func54 (by rfl) (Tryz.call54) ⟨hi, hj, hk, trivial⟩ ⟨⟨fun h => ⟨rfl, Nat.le_refl _⟩, Nat.le_refl _, wcc_re rfl rfl⟩, ⟨fun h => (by cases h), Nat.le_refl _, ptP_re⟩, ⟨fun h => (by cases h), Nat.le_refl _, mvP_re⟩, trivial⟩ (by simp [Apart, hij, hik]) ⟨⟨hm, rfl, by show 0 < n; omega, by simp⟩, trivial⟩ ⟨.ptr rfl, trivial⟩ ?_
  repeat' (refine N.go ?_; first | with_reducible refine N.forkF ?_ | refine MakeN.mk n n rfl rfl (by show 1 * n ≤ _; omega) (by omega) (Nat.mul_one n).symm ?_ | refine N.forkNo (by rw [decide_eq_false_iff_not]; omega) ?_ | refine N.obl (.plain rfl) ?_ | refine N.obl ⟨⟨_, rfl, id, Nat.le_refl _, lt15 (by first | exact Re1.plain rfl | exact Re1.slice rfl | exact re1_int (by rw [e1])) (by first | exact Re1.plain rfl | exact Re1.slice rfl | exact re1_int (by rw [e1])) (by first | exact Re1.plain rfl | exact Re1.slice rfl | exact re1_int (by rw [e1])) (by first | exact Re1.plain rfl | exact Re1.slice rfl | exact re1_int (by rw [e1])) (by first | exact Re1.plain rfl | exact Re1.slice rfl | exact re1_int (by rw [e1])) (by first | exact Re1.plain rfl | exact Re1.slice rfl | exact re1_int (by rw [e1])) (by first | exact Re1.plain rfl | exact Re1.slice rfl | exact re1_int (by rw [e1])) (by first | exact Re1.plain rfl | exact Re1.slice rfl | exact re1_int (by rw [e1])) (by first | exact Re1.plain rfl | exact Re1.slice rfl | exact re1_int (by rw [e1])) (by first | exact Re1.plain rfl | exact Re1.slice rfl | exact re1_int (by rw [e1])) (by first | exact Re1.plain rfl | exact Re1.slice rfl | exact re1_int (by rw [e1])) (by first | exact Re1.plain rfl | exact Re1.slice rfl | exact re1_int (by rw [e1])) (by first | exact Re1.plain rfl | exact Re1.slice rfl | exact re1_int (by rw [e1])) (by first | exact Re1.plain rfl | exact Re1.slice rfl | exact re1_int (by rw [e1])) (by first | exact Re1.plain rfl | exact Re1.slice rfl | exact re1_int (by rw [e1]))⟩, trivial⟩ ?_ | refine N.obl ⟨⟨by show 3 ≤ 7; decide, post_mk (by rfl)⟩, trivial⟩ ?_ | exact N.true | fail)
end Go.Proofs.YtdljelmbjdjpjaaGreat


namespace Go.Proofs.YtdljelmbjdjpjaaGreat
open Go Go.RowKit Sx
theorem App0N.mk1 {cj : Chunk} {g m size bytes : Nat} {z : Value} {slot : Nat} {K : Value → List (Nat × Chunk) → Prop} (v : Value) (hr : Reads cj g true (m * size) v) (h0 : 0 < m) (h1 : m ≤ 9223372036854775807) (h2 : m * bytes ≤ 140737488355328)
    (k : ∀ cap, m ≤ cap → K (.slice (some ⟨slot, 0, some 0⟩) m cap) [(slot, grown ⟨true, 0, []⟩ 0 m size v z cap)]) : N (App0N cj g m size bytes z slot K) := N.mk (.inl ⟨v, hr, h0, h1, h2, k⟩)
theorem AppN.mk1 {ci : Chunk} {k s l c : Nat} {cj : Chunk} {g m size bytes : Nat} {z : Value} {slot : Nat} {K : Value → List (Nat × Chunk) → Prop} (v : Value) (hr : Reads cj g true (m * size) v) (hf : flatB v (m * size) = true) (hl : l * size ≤ ci.n) (h1 : l + m ≤ 9223372036854775807) (h2 : (l + m) * bytes ≤ 140737488355328)
    (d : Chunk) (hw : l + m ≤ c → Writes ci (l * size) (m * size) v d) (k1 : l + m ≤ c → K (.slice (some ⟨k, 0, some s⟩) (l + m) c) [(k, d)]) (k2 : c < l + m → ∀ cap, l + m ≤ cap → K (.slice (some ⟨slot, 0, some 0⟩) (l + m) cap) [(slot, grown ci l m size v z cap)]) : N (AppN ci k s l c cj g m size bytes z slot K) :=
  N.mk ⟨v, hr, hf, hl, h1, h2, fun h => ⟨d, hw h, k1 h⟩, k2⟩
theorem N.callM {P : Program} {g : FuncId} {vs : List Value} {h : List (Option Chunk)} {slot : Nat} {C : List Nat → Prop} {K : List Nat → Value → List (Nat × Chunk) → Prop} (hs : List Nat) (R : Value → List (Nat × Chunk) → Prop) (hC : C hs) (hc : ∀ h₂ : List (Option Chunk), (∀ q ∈ hs, h₂[q]? = h[q]?) → CallAll P g vs h₂ R) (k : ∀ v ms, R v ms → (∀ q ∈ ms.map (·.1), q ∈ hs) ∧ K hs v ms) : N (CallM P g vs h slot C K) := N.mk ⟨hs, R, hC, hc, k⟩
abbrev airC (o : Bool) (v : Value) : Chunk := ⟨o, 1, [(0, 1, .agg #[v])]⟩
end Go.Proofs.YtdljelmbjdjpjaaGreat


namespace Go.Proofs.YtdljelmbjdjpjaaGreat.Sx
open Go Go.RowKit
def sh2 (l : Nat) : Nat := match l with
  | 0 => 0
  | l + 1 => l + 2
theorem sh2_ne (l : Nat) : sh2 l ≠ 1 := by cases l <;> simp [sh2]
theorem pack_opens2 {B : Type} {ok : B → Prop} {h : B → List (Option Chunk)} {i j : Nat} {c d c2 e2 d2 : Chunk} (o : B → List (Option Chunk)) (ix : List (Nat × Nat)) (hix : ∀ l i, (l, i) ∈ ix → i = sh2 l) (hn2 : e2.n = 0) (h1 : ∀ β, (o β)[1]? = some (some e2))
    (hre : ∀ β, ok β → ∀ (l : Nat) (dl : Chunk), (h β)[l]? = some (some dl) → ∃ d' : Chunk, (o β)[sh2 l]? = some (some d') ∧ d'.n = dl.n ∧ d'.x = dl.x ∧ ∀ k, k < d'.n → Re1 ix (d'.f k) (dl.f k))
    (hre' : ∀ β, ok β → ∀ (k : Nat) (d' : Chunk), (o β)[k]? = some (some d') → k = 1 ∨ ∃ l, k = sh2 l ∧ Fil (h β) l) : Opens [⟨i, c, packC ok h, d⟩, ⟨j, c2, e2, d2⟩] ok o := fun X ρ w T H => by
  obtain ⟨S, E⟩ := H.ext
  have g0 : (partH [⟨i, c, packC ok h, d⟩, ⟨j, c2, e2, d2⟩])[0]? = some (some (packC ok h)) := rfl
  have g1 : (partH [⟨i, c, packC ok h, d⟩, ⟨j, c2, e2, d2⟩])[1]? = some (some e2) := rfl
  have two : ∀ (k : Nat) (e : Chunk), (partH [⟨i, c, packC ok h, d⟩, ⟨j, c2, e2, d2⟩])[k]? = some (some e) → k = 0 ∨ k = 1 := fun k e hk => by
    match k, hk with
    | 0, _ => exact .inl rfl
    | 1, _ => exact .inr rfl
    | k + 2, hk => simp [partH] at hk
  obtain ⟨_, β, hβ, ρp, Tp, e0, hf, K⟩ := E.inv 0 _ g0
  have n0 : X.n0 = 2 := T.n0
  let un : Nat → Nat := fun k => match k with
    | 0 => 0
    | k + 1 => k
  have un_sh : ∀ l, un (sh2 l) = l := fun l => by cases l <;> rfl
  let ρ' : Nat → Nat × Nat := fun k => if k = 1 then ρ 1 else ρp (un k)
  have ρ1 : ρ' 1 = ρ 1 := if_pos rfl
  have ρs : ∀ l, ρ' (sh2 l) = ρp l := fun l => by
    show (if sh2 l = 1 then ρ 1 else ρp (un (sh2 l))) = _
    rw [if_neg (sh2_ne l), un_sh]
  have ρ0 : ρ' 0 = ρ 0 := (ρs 0).trans e0
  have fil0 : Fil (o β) 0 := by
    obtain ⟨dl, hdl⟩ := hf
    obtain ⟨d', hd', _⟩ := hre β hβ 0 dl hdl
    exact ⟨d', hd'⟩
  have filS : ∀ l, Fil (h β) l → Fil (o β) (sh2 l) := fun l ⟨dl, hdl⟩ => by
    obtain ⟨d', hd', _⟩ := hre β hβ l dl hdl
    exact ⟨d', hd'⟩
  have old : ∀ (k : Nat) (d' : Chunk), (o β)[k]? = some (some d') → k ≠ 1 → ∃ (l : Nat) (dl : Chunk), k = sh2 l ∧ (h β)[l]? = some (some dl) ∧ d'.n = dl.n ∧ d'.x = dl.x ∧ ∀ q, q < d'.n → Re1 ix (d'.f q) (dl.f q) := fun k d' hk hne => by
    rcases hre' β hβ k d' hk with rfl | ⟨l, rfl, dl, hdl⟩
    · exact absurd rfl hne
    · obtain ⟨d2, hd2, r1, r2, r3⟩ := hre β hβ l dl hdl
      rw [hk] at hd2
      obtain rfl : d' = d2 := by simpa using hd2
      exact ⟨l, dl, rfl, hdl, r1, r2, r3⟩
  refine ⟨β, hβ, ρ', fun k hk => ?_, fun k hk => ?_, ?_⟩
  · obtain ⟨e, he⟩ := hk
    rcases two k e he with rfl | rfl
    · exact ρ0
    · exact ρ1
  · obtain ⟨e, he⟩ := hk
    rcases two k e he with rfl | rfl
    · exact fil0
    · exact ⟨_, h1 β⟩
  · refine H.redo (T := fun k b => Tp (un k) b) E (fun k => k = 0) (fun k => k ≠ 1) (S 0) (fun b hb => ⟨0, _, rfl, g0, .inr hb⟩) (fun b hb => (E.mine 0 _ b g0 hb).2.2) (fun k hk => ?_) (fun k e hk hA => ?_) (fun k e hk hA => ?_) (fun k e l f hk hA hl hB hne => ?_)
    · rw [n0] at hk
      have : k = 0 ∨ k = 1 := by omega
      rcases this with rfl | rfl
      · exact ⟨fil0, ρ0⟩
      · exact ⟨⟨_, h1 β⟩, ρ1⟩
    · obtain rfl : k = 1 := Decidable.not_not.1 hA
      rw [h1 β] at hk
      obtain rfl : e2 = e := by simpa using hk
      exact ⟨by decide, ρ1, g1, fun q hq => by rw [hn2] at hq; exact absurd hq (Nat.not_lt_zero q)⟩
    · obtain ⟨l, dl, rfl, hdl, r1, r2, r3⟩ := old k e hk hA
      have hu := un_sh l
      refine ⟨by rw [ρs]; exact K.blk l dl hdl, fun q hq => ?_, fun _ q hq => by rw [ρs]; exact K.own l dl hdl q (by omega), ?_, fun b hb => ?_⟩
      · obtain ⟨x, hx, hxd⟩ := K.cell l dl hdl q (by omega)
        rw [ρs]
        refine ⟨x, hx, fun r hr => ?_⟩
        rw [(r3 q hq).den (r := r) (r' := fun k => r (sh2 k)) (fun a b hab => by rw [hix a b hab])]
        exact hxd (fun k => r (sh2 k)) fun k hk => (hr _ (filS k hk)).trans (ρs k)
      · rw [r2, ρs]
        have : (fun b => Tp (un (sh2 l)) b) = Tp l := by rw [hu]
        rw [this]; exact K.inv l dl hdl
      · rw [hu] at hb
        obtain ⟨q1, q2⟩ := K.foot l dl b hdl hb
        exact ⟨q1, by rw [r1, ρs]; exact q2⟩
    · obtain ⟨a, da, rfl, hda, _⟩ := old k e hk hA
      obtain ⟨b, db, rfl, hdb, _⟩ := old l f hl hB
      have hab : a ≠ b := fun e => hne (by rw [e])
      obtain ⟨q1, q2⟩ := K.sep a da b db hda hdb hab
      exact ⟨fun _ => by rw [ρs, ρs]; exact q1, fun x hx => by rw [un_sh] at hx ⊢; rw [ρs]; exact q2 x hx⟩
end Go.Proofs.YtdljelmbjdjpjaaGreat.Sx


namespace Go.Proofs.YtdljelmbjdjpjaaGreat
open Go Go.RowKit Sx
structure Ml where
  to_ : Int
  u : Option Sl
  at_ : Int
  tr : Int
  be : Bool
abbrev Ml.v (m : Ml) : Value := mailV m.to_ m.u m.at_ m.tr m.be
abbrev Ml.z : Ml := ⟨0, none, 0, 0, false⟩
def mlc (m : Ml) : Nat → Value
  | 0 => .int .i64 m.to_
  | 1 => uV m.u
  | 2 => .int .i64 m.at_
  | 3 => .int .i64 m.tr
  | 4 => .bool m.be
  | _ => .int .i64 0
theorem mlc_re (m : Ml) (k : Nat) {ix : List (Nat × Nat)} : Re1 ix (mlc m k) (mlc m k) := by unfold mlc; split <;> first | exact .plain rfl | exact uV_re1 _
theorem mlc_in (m : Ml) {k : Nat} (h : k < 5) : cellIn m.v k = mlc m k := by
  match k, h with
  | 0, _ => rfl
  | 1, _ => rfl
  | 2, _ => rfl
  | 3, _ => rfl
  | 4, _ => rfl
def Eqv (v v' : Value) : Prop := ∀ r r', den1 r v = den1 r' v'
theorem mlc_eqv (m : Ml) (k : Nat) : Eqv (mlc m k) (mlc m k) := fun r r' => by
  have := (mlc_re m k (ix := [])).den (r := r) (r' := r') (fun a b h => by cases h)
  exact this
theorem eqv_of {v : Value} {m : Ml} {k : Nat} (h : v = mlc m k) : Eqv v (mlc m k) := by subst h; exact mlc_eqv m k
theorem mlc_zero (j : Nat) : Eqv (repZ 5 (.agg #[.int .i64 0, .slice none 0 0, .int .i64 0, .int .i64 0, .bool false]) j) (mlc Ml.z (j % 5)) := by
  unfold repZ
  have h : j % 5 < 5 := Nat.mod_lt _ (by decide)
  generalize j % 5 = k at h
  match k, h with
  | 0, _ => exact mlc_eqv Ml.z 0
  | 1, _ => exact fun r r' => rfl
  | 2, _ => exact mlc_eqv Ml.z 2
  | 3, _ => exact mlc_eqv Ml.z 3
  | 4, _ => exact mlc_eqv Ml.z 4
abbrev mlA (o : Bool) (c : Nat) (T : Nat → Ml) : Chunk := ⟨o, c * 5, [(0, c * 5, .agg ⟨segL (c * 5) (fun j => mlc (T (j / 5)) (j % 5))⟩)]⟩
theorem mlA_re {ix : List (Nat × Nat)} {o o' : Bool} {c : Nat} {T : Nat → Ml} : ∀ j, j < c * 5 → Re1 ix ((mlA o c T).f j) ((mlA o' c T).f j) := fun j hj => by
  rw [seg_cell hj, seg_cell hj]; exact mlc_re _ _
theorem rd_mlA {o : Bool} {c p n : Nat} {T : Nat → Ml} (i : Nat) (hn : n = 5) (h : i < c) (e : p = i * 5) : Reads (mlA o c T) p true n (T i).v := by
  subst e hn
  refine ⟨by show i * 5 + 5 ≤ c * 5; omega, _, rfl, rfl, fun j hj => ?_⟩
  rw [seg_cell (by omega), show (i * 5 + j) / 5 = i from by omega, show (i * 5 + j) % 5 = j from by omega]
  exact (mlc_in _ hj).symm
def setM1 (T : Nat → Ml) (l : Nat) (x : Ml) (i : Nat) : Ml := if i = l then x else T i
theorem wr_mlA {c l p n : Nat} {T : Nat → Ml} {x : Ml} (hn : n = 5) (h : l < c) (e : p = l * 5) : Writes (mlA true c T) p n x.v (mlA true c (setM1 T l x)) := by
  subst e hn
  refine ⟨rfl, by show l * 5 + 5 ≤ c * 5; omega, rfl, fun j hj => ?_⟩
  have hj : j < c * 5 := hj
  rw [seg_cell hj, seg_cell hj]
  unfold setM1
  by_cases e : l * 5 ≤ j ∧ j < l * 5 + 5
  · rw [if_pos e, if_pos (by omega), mlc_in _ (by omega)]
    congr 1; omega
  · rw [if_neg e, if_neg (by omega)]
abbrev Ml.bent (m : Ml) : Ml := ⟨m.to_, m.u, m.at_, m.tr, true⟩
def growM (T : Nat → Ml) (l : Nat) (x : Ml) (i : Nat) : Ml := if i < l then T i else if i = l then x else Ml.z
theorem grown_mlA {ci : Chunk} {l cap : Nat} {T : Nat → Ml} {x : Ml} {z : Value} (hz : z = .agg #[.int .i64 0, .slice none 0 0, .int .i64 0, .int .i64 0, .bool false]) (h : l < cap) (hc : ∀ j, j < l * 5 → ci.f j = mlc (T (j / 5)) (j % 5)) {j : Nat} (hj : j < cap * 5) : Eqv ((grown ci l 1 5 x.v z cap).f j) (mlc (growM T l x (j / 5)) (j % 5)) := by
  subst hz
  unfold growM
  by_cases h1 : j < l * 5
  · rw [grown_old h1, if_pos (by omega)]; exact eqv_of (hc j h1)
  · rw [if_neg (by omega)]
    by_cases h2 : j < (l + 1) * 5
    · have := grown_new (ci := ci) (l := l) (m := 1) (size := 5) (cap := cap) (v := x.v) (z := .agg #[.int .i64 0, .slice none 0 0, .int .i64 0, .int .i64 0, .bool false]) (j := j - l * 5) (by omega)
      rw [show l * 5 + (j - l * 5) = j from by omega] at this
      rw [this, if_pos (by omega), mlc_in _ (by omega)]
      refine eqv_of ?_
      congr 1; omega
    · rw [grown_zero (by omega) hj, if_neg (by omega)]; exact mlc_zero j
def airOK (L : List Ml) : Option (Nat × (Nat → Ml)) → Prop
  | none => L = []
  | some (c, T) => 1 ≤ c ∧ L.length ≤ c ∧ ∀ i m, L[i]? = some m → T i = m
abbrev airH (L : List Ml) (β : Option (Nat × (Nat → Ml))) : List (Option Chunk) := match β with
  | none => [some (airC true (.slice none 0 0)), none]
  | some (c, T) => [some (airC true (.slice (some ⟨1, 0, some 0⟩) L.length c)), some (mlA true c T)]
abbrev airP (L : List Ml) : Chunk := packC (airOK L) (airH L)
theorem airP_ne (L : List Ml) : (airP L).x ≠ Ext.none := fun e => by
  have h1 : ∀ p S w, (airP L).x.inv p S w → S p.1 := packX_selfish
  rw [e] at h1
  exact (h1 (0, 0) (fun _ => False) default fun _ h => h).elim
abbrev airO (W : World) (F : List By) (L : List Ml) (β : Option (Nat × (Nat → Ml))) : List (Option Chunk) := match β with
  | none => [some (airC true (.slice none 0 0)), some (memC W F), none]
  | some (c, T) => [some (airC true (.slice (some ⟨2, 0, some 0⟩) L.length c)), some (memC W F), some (mlA true c T)]
theorem air_opens2 {i j : Nat} {c d c2 d2 : Chunk} {W : World} {F : List By} {L : List Ml} : Opens [⟨i, c, airP L, d⟩, ⟨j, c2, memC W F, d2⟩] (airOK L) (airO W F L) := by
  refine pack_opens2 (airO W F L) [(0, 0), (1, 2)] (fun l i hm => ?_) rfl (fun β => ?_) (fun β hβ l dl hl => ?_) (fun β hβ k d' hk => ?_)
  · simp only [List.mem_cons, Prod.mk.injEq, List.not_mem_nil, or_false] at hm
    rcases hm with ⟨rfl, rfl⟩ | ⟨rfl, rfl⟩ <;> rfl
  · cases β <;> rfl
  · cases β with
    | none =>
      match l, hl with
      | 0, hl =>
        obtain rfl : _ = dl := by simpa using hl
        exact ⟨_, rfl, rfl, rfl, fun k hk => by
          match k, hk with
          | 0, _ => exact .plain rfl⟩
      | 1, hl => simp at hl
      | l + 2, hl => simp at hl
    | some q =>
      obtain ⟨cc, T⟩ := q
      match l, hl with
      | 0, hl =>
        obtain rfl : _ = dl := by simpa using hl
        exact ⟨_, rfl, rfl, rfl, fun k hk => by
          match k, hk with
          | 0, _ => exact .slice rfl⟩
      | 1, hl =>
        obtain rfl : _ = dl := by simpa using hl
        exact ⟨_, rfl, rfl, rfl, mlA_re⟩
      | l + 2, hl => simp at hl
  · cases β with
    | none =>
      match k, hk with
      | 0, _ => exact .inr ⟨0, rfl, _, rfl⟩
      | 1, _ => exact .inl rfl
      | 2, hk => simp at hk
      | k + 3, hk => simp at hk
    | some q =>
      match k, hk with
      | 0, _ => exact .inr ⟨0, rfl, _, rfl⟩
      | 1, _ => exact .inl rfl
      | 2, _ => exact .inr ⟨1, rfl, _, rfl⟩
      | k + 3, hk => simp at hk
theorem safeM {h : List (Option Chunk)} {W : World} {F : List By} {h' : List (Option Chunk)} (h1 : h[1]? = some (some (memC W F))) : ∀ k ∈ [1], ∀ (d : Chunk), h[k]? = some (some d) → ∀ j, j < d.n → Safe1 h' (d.f j) := fun k hk d hd j hj => by
  obtain rfl := List.mem_singleton.1 hk
  rw [h1] at hd
  obtain rfl : memC W F = d := by simpa using hd
  exact absurd hj (Nat.not_lt_zero j)
theorem airCloseG {ss : List Piece} {h : List (Option Chunk)} {v : Value} {K : Value → List (Option Chunk) → Prop} (m : Nat) (keep : List Nat) (L : List Ml) (k c : Nat) (T : Nat → Ml) {a b : Chunk} (hbs : ∀ i, i < ss.length → i = m ∨ i ∈ keep) (hpc : ∀ l, (l = m ∨ l = k) → l < ss.length → ∃ s, ss[l]? = some s ∧ s.e.x ≠ Ext.none ∧ Selfish s.e.x)
    (hc : 1 ≤ c) (hl : L.length ≤ c) (hT : ∀ i m, L[i]? = some m → T i = m) (h0 : h[m]? = some (some a)) (ha : a.own = true) (hn : 1 ≤ a.n) (haf : a.f 0 = .slice (some ⟨k, 0, some 0⟩) L.length c) (hk : h[k]? = some (some b)) (hkm : m ≠ k) (hb : b.own = true) (hbn : c * 5 ≤ b.n) (hbf : ∀ j, j < c * 5 → Eqv (b.f j) (mlc (T (j / 5)) (j % 5)))
    (hkk : ∀ x ∈ keep, x ≠ m ∧ x ≠ k) (hkd : ∀ x ∈ keep, ∀ (d : Chunk), h[x]? = some (some d) → ∀ j, j < d.n → Safe1 (closeH (airP L) m keep h 0) (d.f j))
    (hv : ∀ ρ ρ', AgreeOn (Fil (closeH (airP L) m keep h 0)) ρ ρ' → den ρ' v = den ρ v) (kk : K v (closeH (airP L) m keep h 0)) : N (EndN ss h v K) := by
  refine closeN (ok := airOK L) (hB := airH L) (some (c, T)) m [(0, m), (1, k)] keep (fun l i hm hi => hpc i ?_ hi) hbs ⟨hc, hl, hT⟩ rfl ⟨_, rfl⟩ ?_ rfl ?_ (fun x hx l i hm => ?_) hkd hv (List.getElem?_eq_some_iff.1 h0).1 kk
  · simp only [List.mem_cons, Prod.mk.injEq, List.not_mem_nil, or_false] at hm
    omega
  · have e2 : Nat.beq k m = false := by
      cases e : Nat.beq k m with
      | false => rfl
      | true => exact absurd (Nat.eq_of_beq_eq_true e).symm hkm
    have e1 : Nat.beq 1 0 = false := rfl
    simp [ixOne, e1, e2]
  · intro l d hd
    match l, hd with
    | 0, hd =>
      obtain rfl : _ = d := by simpa using hd
      refine ⟨m, a, rfl, h0, ha, hn, fun j hj => ?_, .inl rfl, .inl (by omega)⟩
      match j, hj with
      | 0, _ => rw [haf]; exact .slice rfl
    | 1, hd =>
      obtain rfl : _ = d := by simpa using hd
      refine ⟨k, b, rfl, hk, hb, hbn, fun j hj => ?_, .inl rfl, .inl (by omega)⟩
      have hj : j < c * 5 := hj
      rw [seg_cell hj]; exact .any (hbf j hj)
    | l + 2, hd => simp at hd
  · have := hkk x hx
    simp only [List.mem_cons, Prod.mk.injEq, List.not_mem_nil, or_false] at hm
    omega
theorem airClose0G {ss : List Piece} {h : List (Option Chunk)} {v : Value} {K : Value → List (Option Chunk) → Prop} (m : Nat) (keep : List Nat) {a : Chunk} (hbs : ∀ i, i < ss.length → i = m ∨ i ∈ keep) (hpc : m < ss.length → ∃ s, ss[m]? = some s ∧ s.e.x ≠ Ext.none ∧ Selfish s.e.x)
    (h0 : h[m]? = some (some a)) (ha : a.own = true) (hn : 1 ≤ a.n) (haf : a.f 0 = .slice none 0 0)
    (hkk : ∀ x ∈ keep, x ≠ m) (hkd : ∀ x ∈ keep, ∀ (d : Chunk), h[x]? = some (some d) → ∀ j, j < d.n → Safe1 (closeH (airP []) m keep h 0) (d.f j))
    (hv : ∀ ρ ρ', AgreeOn (Fil (closeH (airP []) m keep h 0)) ρ ρ' → den ρ' v = den ρ v) (kk : K v (closeH (airP []) m keep h 0)) : N (EndN ss h v K) := by
  refine closeN (ok := airOK []) (hB := airH []) none m [(0, m)] keep (fun l i hm hi => ?_) hbs rfl rfl ⟨_, rfl⟩ rfl rfl ?_ (fun x hx l i hm => ?_) hkd hv (List.getElem?_eq_some_iff.1 h0).1 kk
  · simp only [List.mem_cons, Prod.mk.injEq, List.not_mem_nil, or_false] at hm
    obtain ⟨_, rfl⟩ := hm
    exact hpc hi
  · intro l d hd
    match l, hd with
    | 0, hd =>
      obtain rfl : _ = d := by simpa using hd
      refine ⟨m, a, rfl, h0, ha, hn, fun j hj => ?_, .inl rfl, .inl (by omega)⟩
      match j, hj with
      | 0, _ => rw [haf]; exact .plain rfl
    | 1, hd => simp at hd
    | l + 2, hd => simp at hd
  · have := hkk x hx
    simp only [List.mem_cons, Prod.mk.injEq, List.not_mem_nil, or_false] at hm
    omega
theorem two_bs {ss : List Piece} (hss : ss.length = 2) : ∀ i, i < ss.length → i = 0 ∨ i ∈ [1] := fun i hi => by
  rw [hss] at hi
  have : i = 0 ∨ i = 1 := by omega
  rcases this with rfl | rfl
  · exact .inl rfl
  · exact .inr (List.mem_singleton.2 rfl)
theorem airClose {ss : List Piece} {h : List (Option Chunk)} {v : Value} {K : Value → List (Option Chunk) → Prop} {W : World} {F : List By} (L : List Ml) (k c : Nat) (T : Nat → Ml) {a b : Chunk} (hss : ss.length = 2) (hpc : ∀ l, l < 1 → ∃ s, ss[l]? = some s ∧ s.e.x ≠ Ext.none ∧ Selfish s.e.x)
    (hc : 1 ≤ c) (hl : L.length ≤ c) (hT : ∀ i m, L[i]? = some m → T i = m) (h0 : h[0]? = some (some a)) (ha : a.own = true) (hn : 1 ≤ a.n) (haf : a.f 0 = .slice (some ⟨k, 0, some 0⟩) L.length c) (h1 : h[1]? = some (some (memC W F))) (hk : h[k]? = some (some b)) (hk2 : 2 ≤ k) (hb : b.own = true) (hbn : c * 5 ≤ b.n) (hbf : ∀ j, j < c * 5 → Eqv (b.f j) (mlc (T (j / 5)) (j % 5)))
    (hv : ∀ ρ ρ', AgreeOn (Fil (closeH (airP L) 0 [1] h 0)) ρ ρ' → den ρ' v = den ρ v) (kk : K v (closeH (airP L) 0 [1] h 0)) : N (EndN ss h v K) :=
  airCloseG 0 [1] L k c T (two_bs hss) (fun l _ hl => hpc l (by omega)) hc hl hT h0 ha hn haf hk (by omega) hb hbn hbf (fun x hx => by obtain rfl := List.mem_singleton.1 hx; omega) (safeM h1) hv kk
end Go.Proofs.YtdljelmbjdjpjaaGreat


namespace Go.Proofs.YtdljelmbjdjpjaaGreat
open Go Go.RowKit Sx
theorem CallAll.to {P : Program} {g : FuncId} {vs : List Value} {h : List (Option Chunk)} {R R' : Value → List (Nat × Chunk) → Prop} (k : CallAll P g vs h R) (hR : ∀ v ms, R v ms → R' v ms) : CallAll P g vs h R' := by
  intro X ρ w xs H hx
  rcases k X ρ w xs H hx with ⟨v, w', hr, u, ms, ρ', hq, ha⟩ | ⟨hr, hcl⟩
  · exact .inl ⟨v, w', hr, _, _, ρ', hR _ _ hq, ha⟩
  · refine .inr ⟨hr, hcl.mono ?_⟩
    rintro e w' ⟨y, he, u, ms, ρ', hq, ha⟩
    exact ⟨y, he, _, _, ρ', hR _ _ hq, ha⟩
theorem setM1_at (T : Nat → Ml) (l : Nat) (x : Ml) : setM1 T l x l = x := if_pos rfl
theorem setM1_ne {T : Nat → Ml} {l i : Nat} {x : Ml} (h : i ≠ l) : setM1 T l x i = T i := if_neg h
theorem growM_lt {T : Nat → Ml} {l i : Nat} {x : Ml} (h : i < l) : growM T l x i = T i := if_pos h
theorem Sx.Src.len {W : World} {F : List By} {u : Option Sl} {bs : List Int} (h : Src W F u bs) : bs.length = uN u := by
  cases h with
  | nil => rfl
  | own he => rfl
  | old hn hc => exact hn
theorem air_pc {i j : Nat} {c d c2 d2 : Chunk} {W : World} {F : List By} {L : List Ml} : ∀ l, l < 1 → ∃ s, [(⟨i, c, airP L, d⟩ : Piece), ⟨j, c2, memC W F, d2⟩][l]? = some s ∧ s.e.x ≠ Ext.none ∧ Selfish s.e.x := fun l hl => by
  match l, hl with
  | 0, _ => exact ⟨_, rfl, airP_ne L, packX_selfish⟩
theorem get_app {L : List Ml} {x : Ml} {T : Nat → Ml} (hT : ∀ i m, L[i]? = some m → T i = m) (hx : T L.length = x) : ∀ i m, (L ++ [x])[i]? = some m → T i = m := fun i m hm => by
  by_cases h : i < L.length
  · rw [List.getElem?_append_left h] at hm; exact hT i m hm
  · rw [List.getElem?_append_right (by omega)] at hm
    have : i - L.length = 0 := by
      have := (List.getElem?_eq_some_iff.1 hm).1
      simp at this; omega
    rw [this] at hm
    have e : i = L.length := by omega
    subst e
    rw [hx]; simpa using hm
theorem cPutM (W : World) (F : List By) (L : List Ml) (to_ at_ tr : Int) (be : Bool) (u : Option Sl) (bs : List Int) (i j : Nat) (hij : i ≠ j) (h : List (Option Chunk)) (hi : h[i]? = some (some (airP L))) (hj : h[j]? = some (some (memC W F))) (hs : Src W F u bs) (hb : bs.length ≤ 1000) (hl : L.length < 512) :
    CallAll Tryz.prog 84 [.pointer (some ⟨i, 0, some 0⟩), mailV to_ u at_ tr be] h (fun v ms => ∃ u' F', Made F bs u' F' ∧ v = .bool true ∧ ms = [(i, airP (L ++ [⟨to_, u', at_, tr, be⟩])), (j, memC W F')]) := by
  refine CallAll.to (call_resall (G := tys) (h := h) (vs := [.pointer (some ⟨i, 0, some 0⟩), mailV to_ u at_ tr be]) (airOK L) (airO W F L) (α := Option Sl × List By) (fun κ => Made F bs κ.1 κ.2) (fun κ => .bool true) [⟨i, airP L, airP L, airP L⟩, ⟨j, memC W F, memC W F, memC W F⟩] (fun κ => [airP (L ++ [⟨to_, κ.1, at_, tr, be⟩]), memC W (κ.2)]) (fun κ => []) [.pointer (some ⟨0, 0, some 0⟩), mailV to_ u at_ tr be] tysOK mixed Tryz.func84 (by rfl) (Tryz.call84) ⟨hi, hj, trivial⟩ ⟨⟨fun h => ⟨rfl, Nat.le_refl _⟩, Nat.le_refl _, fun j hj => absurd hj (Nat.not_lt_zero j)⟩, ⟨fun h => ⟨rfl, Nat.le_refl _⟩, Nat.le_refl _, fun j hj => absurd hj (Nat.not_lt_zero j)⟩, trivial⟩ (fun κ _ => ⟨⟨fun h => ⟨rfl, Nat.le_refl _⟩, Nat.le_refl _, fun j hj => absurd hj (Nat.not_lt_zero j)⟩, ⟨fun h => ⟨rfl, Nat.le_refl _⟩, Nat.le_refl _, fun j hj => absurd hj (Nat.not_lt_zero j)⟩, trivial⟩) (by simp [Apart, hij]) ⟨.inr ⟨rfl, rfl⟩, .inr ⟨rfl, rfl⟩, trivial⟩ (fun κ _ => trivial) ⟨.ptr rfl, mailV_re _ _ _ _ _, trivial⟩ air_opens2 ?_) ?_
  rotate_left
  · rintro v ms ⟨κ, hκ, rfl, rfl⟩
    exact ⟨κ.1, κ.2, hκ, rfl, rfl⟩
  intro β hβ
  have hlen := hs.len
  cases β with
  | none =>
    obtain rfl : L = [] := hβ
    repeat' (refine N.go ?_; first | with_reducible (first | refine N.obl rfl ?_ | refine N.forkF ?_) | refine N.forkNo (by decide) ?_ | refine N.forkNo (by rw [decide_eq_false_iff_not]; omega) ?_ | refine N.op (ok_lenU rfl rfl ⟨_, rfl, _, Tryz.underlying39⟩) ?_ | fail)
    refine N.go ?_
    refine N.plan [0, 1, 2, 3, 4, 5, 9, 10] [(6, [7]), (8, [11])] (by kernel_rfl) ?_
    repeat' (refine N.go ?_; first | with_reducible refine N.obl rfl ?_ | fail)
    refine N.go ?_
    refine N.callM [1] _ (by kernel_rfl) (fun h₂ hh => cOwnM W F _ bs hs (by omega) to_ at_ tr be 1 h₂ ((hh 1 (by simp)).trans rfl)) fun v ms hR => ?_
    obtain ⟨u', F', hM, rfl, rfl⟩ := hR
    refine ⟨by simp, ?_⟩
    repeat' (refine N.go ?_; first | fail)
    refine N.go ?_
    refine N.obl (by show midB _ _ _ _ = Bool.true; kernel_rfl) ?_
    refine N.go ?_
    refine App0N.mk1 (Ml.v (Ml.mk to_ (u') at_ tr be)) ⟨Nat.le_refl _, _, rfl, rfl, fun j hj => by
      match j, hj with
      | 0, _ => rfl
      | 1, _ => rfl
      | 2, _ => rfl
      | 3, _ => rfl
      | 4, _ => rfl⟩ (by decide) (by decide) (by decide) fun c hc => ?_
    repeat' (refine N.go ?_; first | refine N.obl (by show endB _ _ = Bool.true; kernel_rfl) ?_ | fail)
    refine N.go ?_
    refine airClose ([] ++ [(Ml.mk to_ (u') at_ tr be)]) 9 c (growM (fun _ => Ml.z) 0 (Ml.mk to_ (u') at_ tr be)) rfl air_pc hc (by simpa using hc) (get_app (fun i m hm => by simp at hm) rfl) (by rfl) rfl (Nat.le_refl _) rfl (by rfl) (by rfl) (by decide) rfl (Nat.le_refl _) (fun j hj => grown_mlA rfl hc (fun j hj => absurd hj (by omega)) hj) (fun ρ ρ' _ => rfl) ?_
    refine N.some (u', F') ⟨hM, ?_⟩
    refine N.obl (.plain rfl) ?_
    refine N.obl ⟨⟨_, rfl, fun h => h, Nat.le_refl _, fun j hj => absurd hj (Nat.not_lt_zero j)⟩, ⟨_, rfl, fun h => h, Nat.le_refl _, fun j hj => absurd hj (Nat.not_lt_zero j)⟩, trivial⟩ ?_
    refine N.obl trivial ?_
    refine N.obl ⟨⟨.inr ⟨_, rfl, rfl⟩, .inr ⟨_, rfl, rfl⟩, trivial⟩, trivial⟩ ?_
    exact N.true
  | some q =>
    obtain ⟨c, T⟩ := q
    obtain ⟨hc1, hlc, hT⟩ := hβ
    repeat' (refine N.go ?_; first | with_reducible (first | refine N.obl rfl ?_ | refine N.forkF ?_) | refine N.forkNo (by rw [decide_eq_false_iff_not]; omega) ?_ | refine N.op (ok_lenU rfl rfl ⟨_, rfl, _, Tryz.underlying39⟩) ?_ | fail)
    refine N.go ?_
    refine N.plan [0, 1, 2, 3, 4, 5, 9, 10] [(6, [7]), (8, [11])] (by kernel_rfl) ?_
    repeat' (refine N.go ?_; first | with_reducible refine N.obl rfl ?_ | fail)
    refine N.go ?_
    refine N.callM [1] _ (by kernel_rfl) (fun h₂ hh => cOwnM W F _ bs hs (by omega) to_ at_ tr be 1 h₂ ((hh 1 (by simp)).trans rfl)) fun v ms hR => ?_
    obtain ⟨u', F', hM, rfl, rfl⟩ := hR
    refine ⟨by simp, ?_⟩
    repeat' (refine N.go ?_; first | fail)
    refine N.go ?_
    refine N.obl (by show midB _ _ _ _ = Bool.true; kernel_rfl) ?_
    refine N.go ?_
    refine AppN.mk1 (Ml.v (Ml.mk to_ (u') at_ tr be)) ⟨Nat.le_refl _, _, rfl, rfl, fun j hj => by
      match j, hj with
      | 0, _ => rfl
      | 1, _ => rfl
      | 2, _ => rfl
      | 3, _ => rfl
      | 4, _ => rfl⟩ (by rfl) (by show L.length * 5 ≤ c * 5; omega) (by omega) (by show (L.length + 1) * 56 ≤ _; omega) (mlA true c (setM1 T L.length (Ml.mk to_ (u') at_ tr be))) (fun h => wr_mlA rfl (by omega) rfl) (fun hr => ?_) (fun hg cap hcap => ?_)
    · repeat' (refine N.go ?_; first | refine N.obl (by show endB _ _ = Bool.true; kernel_rfl) ?_ | fail)
      refine N.go ?_
      refine airClose (L ++ [(Ml.mk to_ (u') at_ tr be)]) 2 c (setM1 T L.length (Ml.mk to_ (u') at_ tr be)) rfl air_pc hc1 (by rw [List.length_append]; exact hr) (get_app (fun i m hm => by have := (List.getElem?_eq_some_iff.1 hm).1; rw [← hT i m hm]; exact setM1_ne (by omega)) (setM1_at _ _ _)) (by rfl) rfl (Nat.le_refl _) (by rw [List.length_append]; rfl) (by rfl) (by rfl) (by decide) rfl (Nat.le_refl _) (fun j hj => eqv_of (seg_cell hj)) (fun ρ ρ' _ => rfl) ?_
      refine N.some (u', F') ⟨hM, ?_⟩
      refine N.obl (.plain rfl) ?_
      refine N.obl ⟨⟨_, rfl, fun h => h, Nat.le_refl _, fun j hj => absurd hj (Nat.not_lt_zero j)⟩, ⟨_, rfl, fun h => h, Nat.le_refl _, fun j hj => absurd hj (Nat.not_lt_zero j)⟩, trivial⟩ ?_
      refine N.obl trivial ?_
      refine N.obl ⟨⟨.inr ⟨_, rfl, rfl⟩, .inr ⟨_, rfl, rfl⟩, trivial⟩, trivial⟩ ?_
      exact N.true
    · repeat' (refine N.go ?_; first | refine N.obl (by show endB _ _ = Bool.true; kernel_rfl) ?_ | fail)
      refine N.go ?_
      refine airClose (L ++ [(Ml.mk to_ (u') at_ tr be)]) 9 cap (growM T L.length (Ml.mk to_ (u') at_ tr be)) rfl air_pc (by omega) (by rw [List.length_append]; exact hcap) (get_app (fun i m hm => by have := (List.getElem?_eq_some_iff.1 hm).1; rw [← hT i m hm]; exact growM_lt (by omega)) (by unfold growM; rw [if_neg (Nat.lt_irrefl _), if_pos rfl])) (by rfl) rfl (Nat.le_refl _) (by rw [List.length_append]; rfl) (by rfl) (by rfl) (by decide) rfl (Nat.le_refl _) (fun j hj => grown_mlA rfl hcap (fun j hj => seg_cell (by omega)) hj) (fun ρ ρ' _ => rfl) ?_
      refine N.some (u', F') ⟨hM, ?_⟩
      refine N.obl (.plain rfl) ?_
      refine N.obl ⟨⟨_, rfl, fun h => h, Nat.le_refl _, fun j hj => absurd hj (Nat.not_lt_zero j)⟩, ⟨_, rfl, fun h => h, Nat.le_refl _, fun j hj => absurd hj (Nat.not_lt_zero j)⟩, trivial⟩ ?_
      refine N.obl trivial ?_
      refine N.obl ⟨⟨.inr ⟨_, rfl, rfl⟩, .inr ⟨_, rfl, rfl⟩, trivial⟩, trivial⟩ ?_
      exact N.true
end Go.Proofs.YtdljelmbjdjpjaaGreat


namespace Go.Proofs.YtdljelmbjdjpjaaGreat
open Go Go.RowKit Sx
theorem one_bs {s : Piece} : ∀ i, i < [s].length → i = 0 ∨ i ∈ ([] : List Nat) := fun i hi => .inl (by simpa using hi)
theorem one_pc {i k : Nat} {c d : Chunk} {L : List Ml} : ∀ l, (l = 0 ∨ l = k) → l < [(⟨i, c, airP L, d⟩ : Piece)].length → ∃ s, [(⟨i, c, airP L, d⟩ : Piece)][l]? = some s ∧ s.e.x ≠ Ext.none ∧ Selfish s.e.x := fun l _ hl => by
  obtain rfl : l = 0 := by simpa using hl
  exact ⟨_, rfl, airP_ne L, packX_selfish⟩
abbrev nC : Chunk := ⟨false, 0, []⟩
theorem cLenS (o : Bool) (k n c i : Nat) (h : List (Option Chunk)) {b : Chunk} (hi : h[i]? = some (some (airC o (.slice (some ⟨k, 0, some 0⟩) n c)))) (hk : h[k]? = some (some b)) (hik : i ≠ k) : CallOK Tryz.prog 35 [.pointer (some ⟨i, 0, some 0⟩)] h (.int .i64 (n : Nat)) [] [i, k] := by
  refine call_sub (G := tys) [⟨i, _, airC false (.slice (some ⟨1, 0, some 0⟩) n c), nC⟩, ⟨k, b, nC, nC⟩] [] [.pointer (some ⟨0, 0, some 0⟩)] tysOK mixed Tryz.func35 (by rfl) (Tryz.call35) ⟨hi, hk, trivial⟩ ⟨⟨fun h => (by cases h), Nat.le_refl _, fun j hj => by
    match j, hj with
    | 0, _ => exact .slice rfl⟩, ⟨fun h => (by cases h), Nat.zero_le _, fun j hj => absurd hj (Nat.not_lt_zero j)⟩, trivial⟩ (by simp [Apart, hik]) trivial ⟨.ptr rfl, trivial⟩ ?_
  repeat' (refine N.go ?_; first | with_reducible refine N.forkF ?_ | refine N.obl (.plain rfl) ?_ | refine N.obl trivial ?_ | exact N.true | fail)
theorem cLenM (L : List Ml) (i : Nat) (h : List (Option Chunk)) (hi : h[i]? = some (some (airP L))) : CallOK Tryz.prog 35 [.pointer (some ⟨i, 0, some 0⟩)] h (.int .i64 (L.length : Nat)) [(i, airP L)] [] := by
  refine call_res (G := tys) (airOK L) (airH L) [⟨i, airP L, airP L, airP L⟩] [] [.pointer (some ⟨0, 0, some 0⟩)] tysOK mixed Tryz.func35 (by rfl) (Tryz.call35) ⟨hi, trivial⟩ ⟨⟨fun h => ⟨rfl, Nat.le_refl _⟩, Nat.le_refl _, fun j hj => absurd hj (Nat.not_lt_zero j)⟩, trivial⟩ (by simp [Apart]) ⟨.inr ⟨rfl, rfl⟩, trivial⟩ trivial ⟨.ptr rfl, trivial⟩ pack_opens ?_
  intro β hβ
  cases β with
  | none =>
    obtain rfl : L = [] := hβ
    repeat' (refine N.go ?_; first | with_reducible refine N.forkF ?_ | fail)
    refine N.go ?_
    refine airClose0G 0 [] one_bs (fun _ => ⟨_, rfl, airP_ne [], packX_selfish⟩) (by rfl) rfl (Nat.le_refl _) rfl (fun x hx => by cases hx) (fun x hx => by cases hx) (fun ρ ρ' _ => rfl) ?_
    refine N.obl (.plain rfl) ?_
    refine N.obl ⟨⟨_, rfl, fun h => h, Nat.le_refl _, fun j hj => absurd hj (Nat.not_lt_zero j)⟩, trivial⟩ ?_
    refine N.obl trivial ?_
    refine N.obl ⟨⟨.inr ⟨_, rfl, rfl⟩, trivial⟩, trivial⟩ ?_
    exact N.true
  | some q =>
    obtain ⟨c, T⟩ := q
    obtain ⟨hc1, hlc, hT⟩ := hβ
    repeat' (refine N.go ?_; first | with_reducible refine N.forkF ?_ | fail)
    refine N.go ?_
    refine airCloseG 0 [] L 1 c T one_bs one_pc hc1 hlc hT (by rfl) rfl (Nat.le_refl _) rfl (by rfl) (by decide) rfl (Nat.le_refl _) (fun j hj => eqv_of (seg_cell hj)) (fun x hx => by cases hx) (fun x hx => by cases hx) (fun ρ ρ' _ => rfl) ?_
    refine N.obl (.plain rfl) ?_
    refine N.obl ⟨⟨_, rfl, fun h => h, Nat.le_refl _, fun j hj => absurd hj (Nat.not_lt_zero j)⟩, trivial⟩ ?_
    refine N.obl trivial ?_
    refine N.obl ⟨⟨.inr ⟨_, rfl, rfl⟩, trivial⟩, trivial⟩ ?_
    exact N.true
theorem cNewM (K : Nat) (h : List (Option Chunk)) (hK : h[K]? = some none) : CallOK Tryz.prog 21 [] h (.pointer (some ⟨K, 0, some 0⟩)) [(K, airP [])] [] := by
  refine call_res (G := tys) (fun _ : Unit => True) (fun _ => []) [] [⟨K, 0, airP []⟩] [] tysOK mixed Tryz.func21 (by rfl) (Tryz.call21) trivial trivial trivial trivial ⟨⟨hK, rfl, .inr packX_selfish, by simp⟩, trivial⟩ trivial Opens.same ?_
  rintro ⟨⟩ -
  repeat' (refine N.go ?_; first | with_reducible refine N.obl (by decide) ?_ | fail)
  refine N.go ?_
  refine airClose0G 0 [] (fun i hi => absurd hi (by simp)) (fun hi => absurd hi (by simp)) (by rfl) rfl (Nat.le_refl _) rfl (fun x hx => by cases hx) (fun x hx => by cases hx) (fun ρ ρ' ha => by have := ha 0 ⟨_, rfl⟩; simp [den, den2, den1, den0, denA, this]) ?_
  refine N.obl (.one (.ptr rfl)) ?_
  refine N.obl trivial ?_
  refine N.obl ⟨⟨Nat.zero_le _, _, rfl, fun h => h, Nat.le_refl _, fun j hj => absurd hj (Nat.not_lt_zero j)⟩, trivial⟩ ?_
  refine N.obl ⟨trivial, .inr ⟨_, rfl, rfl⟩, trivial⟩ ?_
  exact N.true
end Go.Proofs.YtdljelmbjdjpjaaGreat


namespace Go.Proofs.YtdljelmbjdjpjaaGreat
open Go Go.RowKit Sx
abbrev flC (C : Nat → Int) (n : Nat) (iw ia io : Nat) (u : Value) (lost : Int) : Chunk := ⟨true, 16, [(0, 16, .agg ⟨[.pointer (some ⟨iw, 0, some 0⟩), .pointer (some ⟨ia, 0, some 0⟩), .int .i64 (C 0), .int .i64 (C 1), .int .i64 (C 2), .int .i64 (C 3), .int .i64 (C 4), .int .i64 (C 5), .int .i64 (C 6), .int .i64 (C 7), .int .i64 (C 8), .int .i64 (C 9), .int .i64 (C 10), u, .slice (some ⟨io, 0, some 0⟩) n n, .int .i64 lost]⟩)]⟩
abbrev onC (x : Ext) (n : Nat) (on : Nat → Bool) : Chunk := @Chunk.mk x true n [(0, n, .agg ⟨segL n (fun j => .bool (on j))⟩)]
abbrev garC (C : Nat → Int) : Chunk := ⟨true, 11, [(0, 11, cfgV C)]⟩
theorem lt11 {p : Nat → Prop} (h0 : p 0) (h1 : p 1) (h2 : p 2) (h3 : p 3) (h4 : p 4) (h5 : p 5) (h6 : p 6) (h7 : p 7) (h8 : p 8) (h9 : p 9) (h10 : p 10) : ∀ j, j < 11 → p j := fun j hj => by
  match j, hj with
  | 0, _ => exact h0
  | 1, _ => exact h1
  | 2, _ => exact h2
  | 3, _ => exact h3
  | 4, _ => exact h4
  | 5, _ => exact h5
  | 6, _ => exact h6
  | 7, _ => exact h7
  | 8, _ => exact h8
  | 9, _ => exact h9
  | 10, _ => exact h10
structure FS where
  C : Nat → Int
  n : Nat
  P : Nat → Int
  M : Nat → Bool
  tm : Int
  st : Int
  L : List Ml
  g : Nat → Nat × Nat
  s : Nat → NSt
  on : Nat → Bool
  lost : Int
abbrev flH (F : FS) (β : Nat × Nat) : List (Option Chunk) := [some (flC F.C F.n 1 6 4 (.slice (some ⟨5, 0, some 0⟩) F.n β.2) F.lost), some (wcc true F.C F.n β.1 2 3 F.tm F.st), some (ptP true F.n F.P), some (mvP true F.n F.M), some (onC (manyX ndX F.n F.g F.s) F.n F.on), some (prC β.2 (prF F.g F.n)), some (airP F.L)]
def flOK (F : FS) (β : Nat × Nat) : Prop := F.n ≤ β.1 ∧ F.n ≤ β.2
abbrev flP (F : FS) : Chunk := packC (flOK F) (flH F)
theorem on_cell {x : Ext} {n : Nat} {on : Nat → Bool} {j : Nat} (h : j < n) : (onC x n on).f j = .bool (on j) := by
  show cellOf _ _ = _
  rw [cellOf_cons, if_pos (by omega)]
  exact segL_get h
theorem wr_on {x : Ext} {n p : Nat} {on : Nat → Bool} {b : Bool} (h : p < n) : Writes (onC x n on) p 1 (.bool b) (onC x n (upd on p b)) := by
  refine ⟨rfl, h, rfl, fun j hj => ?_⟩
  have hj : j < n := hj
  rw [on_cell hj, on_cell hj]
  by_cases e : j = p
  · subst e
    rw [upd_at, if_pos (by omega), Nat.sub_self]; rfl
  · rw [upd_ne _ _ e, if_neg (by omega)]
abbrev onK (k j : Nat) : Bool := decide (j < k)
theorem onK_upd (k : Nat) : upd (onK k) k true = onK (k + 1) := funext fun j => by
  by_cases e : j = k
  · subst e; rw [upd_at]; exact (decide_eq_true (Nat.lt_succ_self _)).symm
  · rw [upd_ne _ _ e]
    by_cases h : j < k
    · exact (decide_eq_true h).trans (decide_eq_true (by omega : j < k + 1)).symm
    · exact (decide_eq_false h).trans (decide_eq_false (by omega : ¬ j < k + 1)).symm
theorem pos_in (k : Nat) (h : k < 64) : withinP 4194304 (pos0 (k * 2)) (pos0 (k * 2 + 1)) := by
  unfold withinP pos0
  rw [if_pos (by omega), if_neg (by omega)]
  omega
theorem on_ren {ix : List (Nat × Nat)} {x : Ext} {n : Nat} {a b : Nat → Bool} (h : ∀ j, j < n → a j = b j) : ChunkReLe ix (onC x n a) (onC x n b) := by
  refine @ChunkReLe.mk _ _ _ ⟨.inr rfl⟩ id (Nat.le_refl _) fun j hj => ?_
  have hj : j < n := hj
  rw [on_cell hj, on_cell hj, h j hj]
  exact .plain rfl
theorem cFlNodeY (C : Nat → Int) (hC : CfOK C) (hcap : 200 ≤ C 10) (i b k : Nat) (hi : i < 3) (g : Nat → Nat × Nat) {o : Bool} {c : Nat} {ps : List (Nat × Nat × Value)} {Y0 : Ext} (hY : Y0 = manyX ndX i g (nodeS C)) (h : List (Option Chunk)) (hb : h[b]? = some (some (@Chunk.mk Y0 o c ps))) (hk : h[k]? = some none) :
    CallAll Tryz.prog 24 [cfV C, .int .i64 (i : Int), .int .i64 0, elV (pos0 (i * 2)) (pos0 (i * 2 + 1)) 100 0 100] h fun v ms => ∃ q : Nat × Nat, v = realP q ∧ ms = [(b, @Chunk.mk (manyX ndX (i + 1) (upd g i q) (nodeS C)) o c ps)] := by
  have e : nodeS C i = nsNew C (i : Int) 0 true (pos0 (i * 2)) (pos0 (i * 2 + 1)) 100 0 100 := if_pos hi
  have hp := pos_in i (by omega)
  have key := cFlJoin b k i i (i + 1) g (nodeS C) (nodeS C i) hY (by omega) (fun j h1 h2 => by omega) hb hk (by rw [e]; exact cNdNewY C hC (i : Int) 0 (by omega) (by decide) _ _ 100 0 100 ⟨hp, by decide, by decide, by decide, by decide⟩ (by omega) k h hk)
  rw [upd_self] at key
  exact key
theorem cFlNodeZ (C : Nat → Int) (hC : CfOK C) (i b k : Nat) (hi : ¬ i < 3) (h64 : i < 64) (g : Nat → Nat × Nat) {o : Bool} {c : Nat} {ps : List (Nat × Nat × Value)} {Y0 : Ext} (hY : Y0 = manyX ndX i g (nodeS C)) (h : List (Option Chunk)) (hb : h[b]? = some (some (@Chunk.mk Y0 o c ps))) (hk : h[k]? = some none) :
    CallAll Tryz.prog 24 [cfV C, .int .i64 (i : Int), .int .i64 0, elV 0 0 0 0 0] h fun v ms => ∃ q : Nat × Nat, v = realP q ∧ ms = [(b, @Chunk.mk (manyX ndX (i + 1) (upd g i q) (nodeS C)) o c ps)] := by
  have e : nodeS C i = nsNew C (i : Int) 0 false 0 0 0 0 0 := if_neg hi
  have key := cFlJoin b k i i (i + 1) g (nodeS C) (nodeS C i) hY (by omega) (fun j h1 h2 => by omega) hb hk (by rw [e]; exact cNdNewZ C hC (i : Int) 0 (by omega) (by decide) k h hk)
  rw [upd_self] at key
  exact key
theorem cFlNew (C : Nat → Int) (hC : CfOK C) (hm : mayC C) (n : Nat) (hn : C 0 = (n : Int)) (h8 : n ≤ 8) (hcap : 200 ≤ C 10) (K K2 : Nat) (hKK : K ≠ K2) (h : List (Option Chunk)) (hK : h[K]? = some none) (hK2 : h[K2]? = some none) :
    CallAll Tryz.prog 9 [cfgV C] h fun v ms => ∃ g : Nat → Nat × Nat, v = .tuple #[.pointer (some ⟨K, 0, some 0⟩), .int .i64 0] ∧ ms = [(K, flP ⟨C, n, pos0, fun _ => false, 0, 0, [], g, nodeS C, fun _ => true, 0⟩), (K2, garC C)] := by
  have hn0 : 1 ≤ n ∧ n ≤ 64 := by have := hm.1; omega
  have key := call_resall (G := tys) (h := h) (vs := [cfgV C]) (fun _ : Unit => True) (fun _ => []) (α := Nat → Nat × Nat) (fun κ => True) (fun κ => .tuple #[.pointer (some ⟨K, 0, some 0⟩), .int .i64 0]) [] (fun κ => []) (fun κ => [⟨K, 9, flP ⟨C, n, pos0, fun _ => false, 0, 0, [], κ, nodeS C, fun _ => true, 0⟩⟩, ⟨K2, 0, garC C⟩]) [cfgV C] tysOK mixed Tryz.func9 (by rfl) (Tryz.call9) trivial trivial (fun κ _ => trivial) trivial trivial (fun κ _ => ⟨⟨hK, rfl, .inr packX_selfish, by simp [hKK]⟩, ⟨hK2, rfl, .inl (by show 0 < 11; decide), by simp⟩, trivial⟩) ⟨.plain rfl, trivial⟩ Opens.same ?_
  · refine callAll_mono key fun v ms hR => ?_
    obtain ⟨κ, _, rfl, rfl⟩ := hR
    exact ⟨κ, rfl, rfl⟩
  rintro ⟨⟩ -
  repeat' (refine N.go ?_; first | with_reducible refine N.obl rfl ?_ | fail)
  refine N.go ?_
  refine N.callAll (cNewW C 1 n _ hm hn (by rfl) (by rfl) (by rfl)) fun v ms hR => ?_
  obtain ⟨ps, hps, rfl, rfl⟩ := hR
  repeat' (refine N.go ?_; first | with_reducible (first | refine N.obl rfl ?_ | refine N.obl ⟨by kernel_rfl, by kernel_rfl⟩ ?_ | refine N.alt ?_ | refine N.forkF ?_) | refine N.call (cNewM 4 _ (by rfl)) ?_ | refine MakeN.mk n n hn hn (by show 1 * n ≤ _; omega) (by omega) (Nat.mul_one n).symm ?_ | fail)
  refine N.go ?_
  refine N.loopR (α := Option (Nat × Nat × (Nat → Nat × Nat))) (fun x => match x with
    | none => True
    | some s => 1 ≤ s.1 ∧ s.1 ≤ n ∧ s.1 ≤ s.2.1) (fun x => match x with
    | none => n
    | some s => n - s.1) (fun x => match x with
    | none => [(24, .int .i64 0)]
    | some s => [(24, .int .i64 (s.1 : Int))]) (fun x => match x with
    | none => [(8, onC Ext.none n (onK 0))]
    | some s => [(8, onC (manyX ndX s.1 s.2.2 (nodeS C)) n (onK s.1)), (9, flC C n 1 4 8 (.slice (some ⟨10, 0, some 0⟩) s.1 s.2.1) 0), (10, prC s.2.1 (prF s.2.2 s.1))]) none [(0, 0), (1, 1), (2, 2), (3, 3), (4, 4), (8, 8), (9, 9)] trivial ?_ ?_
  · repeat' (refine N.go ?_; first | exact N.true | refine N.obl (seg_ren (fun _ _ => rfl) (fun j _ => repZ_bool j)) ?_ | refine N.obl ⟨id, Nat.le_refl _, lt16 (by first | exact Re1.plain rfl | exact Re1.ptr rfl | exact Re1.slice rfl) (by first | exact Re1.plain rfl | exact Re1.ptr rfl | exact Re1.slice rfl) (by first | exact Re1.plain rfl | exact Re1.ptr rfl | exact Re1.slice rfl) (by first | exact Re1.plain rfl | exact Re1.ptr rfl | exact Re1.slice rfl) (by first | exact Re1.plain rfl | exact Re1.ptr rfl | exact Re1.slice rfl) (by first | exact Re1.plain rfl | exact Re1.ptr rfl | exact Re1.slice rfl) (by first | exact Re1.plain rfl | exact Re1.ptr rfl | exact Re1.slice rfl) (by first | exact Re1.plain rfl | exact Re1.ptr rfl | exact Re1.slice rfl) (by first | exact Re1.plain rfl | exact Re1.ptr rfl | exact Re1.slice rfl) (by first | exact Re1.plain rfl | exact Re1.ptr rfl | exact Re1.slice rfl) (by first | exact Re1.plain rfl | exact Re1.ptr rfl | exact Re1.slice rfl) (by first | exact Re1.plain rfl | exact Re1.ptr rfl | exact Re1.slice rfl) (by first | exact Re1.plain rfl | exact Re1.ptr rfl | exact Re1.slice rfl) (by first | exact Re1.plain rfl | exact Re1.ptr rfl | exact Re1.slice rfl) (by first | exact Re1.plain rfl | exact Re1.ptr rfl | exact Re1.slice rfl) (by first | exact Re1.plain rfl | exact Re1.ptr rfl | exact Re1.slice rfl)⟩ ?_ | refine N.obl (ChunkReLe.same (agg_plain (by rfl) (by rfl))) ?_ | refine N.obl (seg_ren (fun _ _ => rfl) (fun _ _ => rfl)) ?_ | refine N.obl ⟨id, Nat.le_refl _, lt15 (by first | exact Re1.plain rfl | exact Re1.ptr rfl | exact Re1.slice rfl) (by first | exact Re1.plain rfl | exact Re1.ptr rfl | exact Re1.slice rfl) (by first | exact Re1.plain rfl | exact Re1.ptr rfl | exact Re1.slice rfl) (by first | exact Re1.plain rfl | exact Re1.ptr rfl | exact Re1.slice rfl) (by first | exact Re1.plain rfl | exact Re1.ptr rfl | exact Re1.slice rfl) (by first | exact Re1.plain rfl | exact Re1.ptr rfl | exact Re1.slice rfl) (by first | exact Re1.plain rfl | exact Re1.ptr rfl | exact Re1.slice rfl) (by first | exact Re1.plain rfl | exact Re1.ptr rfl | exact Re1.slice rfl) (by first | exact Re1.plain rfl | exact Re1.ptr rfl | exact Re1.slice rfl) (by first | exact Re1.plain rfl | exact Re1.ptr rfl | exact Re1.slice rfl) (by first | exact Re1.plain rfl | exact Re1.ptr rfl | exact Re1.slice rfl) (by first | exact Re1.plain rfl | exact Re1.ptr rfl | exact Re1.slice rfl) (by first | exact Re1.plain rfl | exact Re1.ptr rfl | exact Re1.slice rfl) (by first | exact Re1.plain rfl | exact Re1.ptr rfl | exact Re1.slice rfl) (by first | exact Re1.plain rfl | exact Re1.ptr rfl | exact Re1.slice rfl)⟩ ?_ | refine N.obl (@ChunkReLe.mk _ _ _ ⟨.inr rfl⟩ id (Nat.le_refl _) (fun j hj => absurd hj (Nat.not_lt_zero j))) ?_ | refine N.obl (.plain (by rfl)) ?_ | refine N.obl (.one (.ptr rfl)) ?_ | refine N.obl (.one (.slice rfl)) ?_ | refine N.obl (.one (.agg (by repeat' (first | exact trivial | refine ⟨.plain rfl, ?_⟩ | refine ⟨.slice rfl, ?_⟩ | refine ⟨.ptr rfl, ?_⟩)))) ?_ | fail)
  intro x hx
  cases x with
  | none =>
    obtain ⟨z, hz⟩ : ∃ z : Nat, z = 0 := ⟨0, rfl⟩
    repeat' (refine N.go ?_; first | with_reducible refine N.obl (by decide) ?_ | refine N.forkYes (by decide) ?_ | refine N.forkYes (by rw [decide_eq_true_eq, hn]; omega) ?_ | refine N.call (cPlaceY C n ps.cap 1 2 3 pos0 (fun _ => false) 0 0 true true true 0 _ (by rfl) (by rfl) (by rfl) (by omega)) ?_ | refine N.call (cBallY _ _ 10 _ (pos_in 0 (by omega)) (by decide)) ?_ | fail)
    refine N.go ?_
    refine N.plan [0, 1, 2, 3, 4, 5, 6, 7, 8, 9, 10, 11, 12, 16, 17, 19] [(13, [14]), (15, [18, 20])] (by kernel_rfl) ?_
    repeat' (refine N.go ?_; first | with_reducible (first | refine N.obl (by decide) ?_ | refine N.obl rfl ?_) | refine N.idx z 1 (by rw [hz]; rfl) (by omega) ?_ | fail)
    refine N.go ?_
    refine N_callQ [8, 5] _ (by show midB _ _ _ _ = Bool.true; kernel_rfl) (fun h₂ hh => cFlNodeY C hC hcap 0 8 5 (by decide) (fun _ => (0, 0)) (manyX_zero ndX (fun _ => (0, 0)) (nodeS C)).symm h₂ ((hh 8 (by simp)).trans rfl) ((hh 5 (by simp)).trans rfl)) fun v ms hR => ?_
    obtain ⟨q, rfl, rfl⟩ := hR
    refine ⟨by simp, ?_⟩
    repeat' (refine N.go ?_; first | refine N.obl (by show midB _ _ _ _ = Bool.true; kernel_rfl) ?_ | fail)
    refine N.go ?_
    refine App0N.mk1 (.agg ⟨[realP q]⟩) (rdF_all rfl rfl) (by decide) (by decide) (by decide) fun cap hcap => ?_
    repeat' (refine N.go ?_; first | refine N.obl (by show endB _ _ = Bool.true; kernel_rfl) ?_ | refine N.store _ (wr_on (by omega)) ?_ | fail)
    refine N.go ?_
    refine N.nextR (α := Option (Nat × Nat × (Nat → Nat × Nat))) (some (0 + 1, cap, upd (fun _ => (0, 0)) 0 q)) [(0, 0), (1, 1), (2, 2), (3, 3), (4, 4), (8, 8), (9, 9), (21, 10)] ⟨⟨by show 1 ≤ _; omega, by show _ ≤ n; omega, by show _ ≤ _; omega⟩, by show n - 1 < n; omega⟩ ?_
    have hon : onK (0 + 1) = upd (onK 0) 0 true := (onK_upd _).symm
    have hon : onK (0 + 1) = upd (onK 0) z true := by rw [hz]; exact hon
    repeat' (refine N.go ?_; first | exact N.true | refine N.obl (gr_pr rfl (fun j hj => absurd hj (Nat.not_lt_zero j)) (by omega)) ?_ | refine N.obl (on_ren (fun j _ => congrFun hon j)) ?_ | refine N.obl ⟨id, Nat.le_refl _, lt16 (by first | exact Re1.plain rfl | exact Re1.ptr rfl | exact Re1.slice rfl) (by first | exact Re1.plain rfl | exact Re1.ptr rfl | exact Re1.slice rfl) (by first | exact Re1.plain rfl | exact Re1.ptr rfl | exact Re1.slice rfl) (by first | exact Re1.plain rfl | exact Re1.ptr rfl | exact Re1.slice rfl) (by first | exact Re1.plain rfl | exact Re1.ptr rfl | exact Re1.slice rfl) (by first | exact Re1.plain rfl | exact Re1.ptr rfl | exact Re1.slice rfl) (by first | exact Re1.plain rfl | exact Re1.ptr rfl | exact Re1.slice rfl) (by first | exact Re1.plain rfl | exact Re1.ptr rfl | exact Re1.slice rfl) (by first | exact Re1.plain rfl | exact Re1.ptr rfl | exact Re1.slice rfl) (by first | exact Re1.plain rfl | exact Re1.ptr rfl | exact Re1.slice rfl) (by first | exact Re1.plain rfl | exact Re1.ptr rfl | exact Re1.slice rfl) (by first | exact Re1.plain rfl | exact Re1.ptr rfl | exact Re1.slice rfl) (by first | exact Re1.plain rfl | exact Re1.ptr rfl | exact Re1.slice rfl) (by first | exact Re1.plain rfl | exact Re1.ptr rfl | exact Re1.slice rfl) (by first | exact Re1.plain rfl | exact Re1.ptr rfl | exact Re1.slice rfl) (by first | exact Re1.plain rfl | exact Re1.ptr rfl | exact Re1.slice rfl)⟩ ?_ | refine N.obl (ChunkReLe.same (agg_plain (by rfl) (by rfl))) ?_ | refine N.obl (seg_ren (fun _ _ => rfl) (fun _ _ => rfl)) ?_ | refine N.obl ⟨id, Nat.le_refl _, lt15 (by first | exact Re1.plain rfl | exact Re1.ptr rfl | exact Re1.slice rfl) (by first | exact Re1.plain rfl | exact Re1.ptr rfl | exact Re1.slice rfl) (by first | exact Re1.plain rfl | exact Re1.ptr rfl | exact Re1.slice rfl) (by first | exact Re1.plain rfl | exact Re1.ptr rfl | exact Re1.slice rfl) (by first | exact Re1.plain rfl | exact Re1.ptr rfl | exact Re1.slice rfl) (by first | exact Re1.plain rfl | exact Re1.ptr rfl | exact Re1.slice rfl) (by first | exact Re1.plain rfl | exact Re1.ptr rfl | exact Re1.slice rfl) (by first | exact Re1.plain rfl | exact Re1.ptr rfl | exact Re1.slice rfl) (by first | exact Re1.plain rfl | exact Re1.ptr rfl | exact Re1.slice rfl) (by first | exact Re1.plain rfl | exact Re1.ptr rfl | exact Re1.slice rfl) (by first | exact Re1.plain rfl | exact Re1.ptr rfl | exact Re1.slice rfl) (by first | exact Re1.plain rfl | exact Re1.ptr rfl | exact Re1.slice rfl) (by first | exact Re1.plain rfl | exact Re1.ptr rfl | exact Re1.slice rfl) (by first | exact Re1.plain rfl | exact Re1.ptr rfl | exact Re1.slice rfl) (by first | exact Re1.plain rfl | exact Re1.ptr rfl | exact Re1.slice rfl)⟩ ?_ | refine N.obl (@ChunkReLe.mk _ _ _ ⟨.inr rfl⟩ id (Nat.le_refl _) (fun j hj => absurd hj (Nat.not_lt_zero j))) ?_ | refine N.obl (.plain (by rfl)) ?_ | refine N.obl (.one (.ptr rfl)) ?_ | refine N.obl (.one (.slice rfl)) ?_ | refine N.obl (.one (.agg (by repeat' (first | exact trivial | refine ⟨.plain rfl, ?_⟩ | refine ⟨.slice rfl, ?_⟩ | refine ⟨.ptr rfl, ?_⟩)))) ?_ | fail)
  | some s =>
    obtain ⟨k, cap, g⟩ := s
    obtain ⟨i1, i2, i3⟩ := hx
    have i1 : 1 ≤ k := i1
    have i2 : k ≤ n := i2
    have i3 : k ≤ cap := i3
    by_cases hk : k < n
    · have ek : ((k + 1 : Nat) : Int) = IntKind.i64.wrap ((k : Int) + 1) := by rw [i64s _ (by omega) (by omega)]; omega
      by_cases h3 : k < 3
      · repeat' (refine N.go ?_; first | with_reducible (first | refine N.obl (by decide) ?_ | refine N.obl rfl ?_) | refine N.forkYes (by rw [decide_eq_true_eq, hn]; omega) ?_ | refine N.forkYes (decide_eq_true (by omega)) ?_ | refine N.call (cPlaceY C n ps.cap 1 2 3 pos0 (fun _ => false) 0 0 true true true k _ (by rfl) (by rfl) (by rfl) (by omega)) ?_ | refine N.call (cBallY _ _ 10 _ (pos_in k (by omega)) (by decide)) ?_ | fail)
        refine N.go ?_
        refine N.plan [0, 1, 2, 3, 4, 5, 6, 7, 8, 9, 10, 11, 12, 16, 17, 19] [(13, [14]), (15, [18, 20])] (by kernel_rfl) ?_
        repeat' (refine N.go ?_; first | with_reducible refine N.obl rfl ?_ | refine N.idx k 1 rfl (by omega) ?_ | fail)
        refine N.go ?_
        refine N_callQ [8, 5] _ (by show midB _ _ _ _ = Bool.true; kernel_rfl) (fun h₂ hh => cFlNodeY C hC hcap k 8 5 h3 g rfl h₂ ((hh 8 (by simp)).trans rfl) ((hh 5 (by simp)).trans rfl)) fun v ms hR => ?_
        obtain ⟨q, rfl, rfl⟩ := hR
        refine ⟨by simp, ?_⟩
        repeat' (refine N.go ?_; first | refine N.obl (by show midB _ _ _ _ = Bool.true; kernel_rfl) ?_ | fail)
        refine N.go ?_
        refine AppN.mk1 (.agg ⟨[realP q]⟩) (rdF_all rfl rfl) rfl (by show k * 1 ≤ cap; omega) (by omega) (by show (k + 1) * 8 ≤ _; omega) (prC cap (prF (upd g k q) (k + 1))) (fun h => wr_pr rfl (show k + 1 ≤ cap from h) (Nat.mul_one k)) (fun hr => ?_) (fun hg cap2 hcap2 => ?_)
        · repeat' (refine N.go ?_; first | refine N.obl (by show endB _ _ = Bool.true; kernel_rfl) ?_ | refine N.store _ (wr_on (by omega)) ?_ | fail)
          refine N.go ?_
          refine N.nextR (α := Option (Nat × Nat × (Nat → Nat × Nat))) (some (k + 1, cap, upd g k q)) [(0, 0), (1, 1), (2, 2), (3, 3), (4, 4), (8, 8), (9, 9), (10, 10)] ⟨⟨by show 1 ≤ _; omega, by show _ ≤ n; omega, by show _ ≤ _; omega⟩, by show n - (k + 1) < n - k; omega⟩ ?_
          have hon : onK (k + 1) = upd (onK k) k true := (onK_upd _).symm
          skip
          repeat' (refine N.go ?_; first | exact N.true | refine N.obl pr_ren ?_ | refine N.obl (on_ren (fun j _ => congrFun hon j)) ?_ | refine N.obl ⟨id, Nat.le_refl _, lt16 (by first | exact Re1.plain rfl | exact Re1.ptr rfl | exact Re1.slice rfl) (by first | exact Re1.plain rfl | exact Re1.ptr rfl | exact Re1.slice rfl) (by first | exact Re1.plain rfl | exact Re1.ptr rfl | exact Re1.slice rfl) (by first | exact Re1.plain rfl | exact Re1.ptr rfl | exact Re1.slice rfl) (by first | exact Re1.plain rfl | exact Re1.ptr rfl | exact Re1.slice rfl) (by first | exact Re1.plain rfl | exact Re1.ptr rfl | exact Re1.slice rfl) (by first | exact Re1.plain rfl | exact Re1.ptr rfl | exact Re1.slice rfl) (by first | exact Re1.plain rfl | exact Re1.ptr rfl | exact Re1.slice rfl) (by first | exact Re1.plain rfl | exact Re1.ptr rfl | exact Re1.slice rfl) (by first | exact Re1.plain rfl | exact Re1.ptr rfl | exact Re1.slice rfl) (by first | exact Re1.plain rfl | exact Re1.ptr rfl | exact Re1.slice rfl) (by first | exact Re1.plain rfl | exact Re1.ptr rfl | exact Re1.slice rfl) (by first | exact Re1.plain rfl | exact Re1.ptr rfl | exact Re1.slice rfl) (by first | exact Re1.plain rfl | exact Re1.ptr rfl | exact Re1.slice rfl) (by first | exact Re1.plain rfl | exact Re1.ptr rfl | exact Re1.slice rfl) (by first | exact Re1.plain rfl | exact Re1.ptr rfl | exact Re1.slice rfl)⟩ ?_ | refine N.obl (ChunkReLe.same (agg_plain (by rfl) (by rfl))) ?_ | refine N.obl (seg_ren (fun _ _ => rfl) (fun _ _ => rfl)) ?_ | refine N.obl ⟨id, Nat.le_refl _, lt15 (by first | exact Re1.plain rfl | exact Re1.ptr rfl | exact Re1.slice rfl) (by first | exact Re1.plain rfl | exact Re1.ptr rfl | exact Re1.slice rfl) (by first | exact Re1.plain rfl | exact Re1.ptr rfl | exact Re1.slice rfl) (by first | exact Re1.plain rfl | exact Re1.ptr rfl | exact Re1.slice rfl) (by first | exact Re1.plain rfl | exact Re1.ptr rfl | exact Re1.slice rfl) (by first | exact Re1.plain rfl | exact Re1.ptr rfl | exact Re1.slice rfl) (by first | exact Re1.plain rfl | exact Re1.ptr rfl | exact Re1.slice rfl) (by first | exact Re1.plain rfl | exact Re1.ptr rfl | exact Re1.slice rfl) (by first | exact Re1.plain rfl | exact Re1.ptr rfl | exact Re1.slice rfl) (by first | exact Re1.plain rfl | exact Re1.ptr rfl | exact Re1.slice rfl) (by first | exact Re1.plain rfl | exact Re1.ptr rfl | exact Re1.slice rfl) (by first | exact Re1.plain rfl | exact Re1.ptr rfl | exact Re1.slice rfl) (by first | exact Re1.plain rfl | exact Re1.ptr rfl | exact Re1.slice rfl) (by first | exact Re1.plain rfl | exact Re1.ptr rfl | exact Re1.slice rfl) (by first | exact Re1.plain rfl | exact Re1.ptr rfl | exact Re1.slice rfl)⟩ ?_ | refine N.obl (@ChunkReLe.mk _ _ _ ⟨.inr rfl⟩ id (Nat.le_refl _) (fun j hj => absurd hj (Nat.not_lt_zero j))) ?_ | refine N.obl (.plain (by rfl)) ?_ | refine N.obl (.one (.ptr rfl)) ?_ | refine N.obl (.one (.slice rfl)) ?_ | refine N.obl (.one (.agg (by repeat' (first | exact trivial | refine ⟨.plain rfl, ?_⟩ | refine ⟨.slice rfl, ?_⟩ | refine ⟨.ptr rfl, ?_⟩)))) ?_ | refine N.obl (reF_eqn (intF_eqn ek) rfl) ?_ | fail)
        · repeat' (refine N.go ?_; first | refine N.obl (by show endB _ _ = Bool.true; kernel_rfl) ?_ | refine N.store _ (wr_on (by omega)) ?_ | fail)
          refine N.go ?_
          refine N.nextR (α := Option (Nat × Nat × (Nat → Nat × Nat))) (some (k + 1, cap2, upd g k q)) [(0, 0), (1, 1), (2, 2), (3, 3), (4, 4), (8, 8), (9, 9), (22, 10)] ⟨⟨by show 1 ≤ _; omega, by show _ ≤ n; omega, by show _ ≤ _; omega⟩, by show n - (k + 1) < n - k; omega⟩ ?_
          have hon : onK (k + 1) = upd (onK k) k true := (onK_upd _).symm
          skip
          repeat' (refine N.go ?_; first | exact N.true | refine N.obl (gr_pr rfl (fun j hj => seg_cell (by omega)) (by omega)) ?_ | refine N.obl (on_ren (fun j _ => congrFun hon j)) ?_ | refine N.obl ⟨id, Nat.le_refl _, lt16 (by first | exact Re1.plain rfl | exact Re1.ptr rfl | exact Re1.slice rfl) (by first | exact Re1.plain rfl | exact Re1.ptr rfl | exact Re1.slice rfl) (by first | exact Re1.plain rfl | exact Re1.ptr rfl | exact Re1.slice rfl) (by first | exact Re1.plain rfl | exact Re1.ptr rfl | exact Re1.slice rfl) (by first | exact Re1.plain rfl | exact Re1.ptr rfl | exact Re1.slice rfl) (by first | exact Re1.plain rfl | exact Re1.ptr rfl | exact Re1.slice rfl) (by first | exact Re1.plain rfl | exact Re1.ptr rfl | exact Re1.slice rfl) (by first | exact Re1.plain rfl | exact Re1.ptr rfl | exact Re1.slice rfl) (by first | exact Re1.plain rfl | exact Re1.ptr rfl | exact Re1.slice rfl) (by first | exact Re1.plain rfl | exact Re1.ptr rfl | exact Re1.slice rfl) (by first | exact Re1.plain rfl | exact Re1.ptr rfl | exact Re1.slice rfl) (by first | exact Re1.plain rfl | exact Re1.ptr rfl | exact Re1.slice rfl) (by first | exact Re1.plain rfl | exact Re1.ptr rfl | exact Re1.slice rfl) (by first | exact Re1.plain rfl | exact Re1.ptr rfl | exact Re1.slice rfl) (by first | exact Re1.plain rfl | exact Re1.ptr rfl | exact Re1.slice rfl) (by first | exact Re1.plain rfl | exact Re1.ptr rfl | exact Re1.slice rfl)⟩ ?_ | refine N.obl (ChunkReLe.same (agg_plain (by rfl) (by rfl))) ?_ | refine N.obl (seg_ren (fun _ _ => rfl) (fun _ _ => rfl)) ?_ | refine N.obl ⟨id, Nat.le_refl _, lt15 (by first | exact Re1.plain rfl | exact Re1.ptr rfl | exact Re1.slice rfl) (by first | exact Re1.plain rfl | exact Re1.ptr rfl | exact Re1.slice rfl) (by first | exact Re1.plain rfl | exact Re1.ptr rfl | exact Re1.slice rfl) (by first | exact Re1.plain rfl | exact Re1.ptr rfl | exact Re1.slice rfl) (by first | exact Re1.plain rfl | exact Re1.ptr rfl | exact Re1.slice rfl) (by first | exact Re1.plain rfl | exact Re1.ptr rfl | exact Re1.slice rfl) (by first | exact Re1.plain rfl | exact Re1.ptr rfl | exact Re1.slice rfl) (by first | exact Re1.plain rfl | exact Re1.ptr rfl | exact Re1.slice rfl) (by first | exact Re1.plain rfl | exact Re1.ptr rfl | exact Re1.slice rfl) (by first | exact Re1.plain rfl | exact Re1.ptr rfl | exact Re1.slice rfl) (by first | exact Re1.plain rfl | exact Re1.ptr rfl | exact Re1.slice rfl) (by first | exact Re1.plain rfl | exact Re1.ptr rfl | exact Re1.slice rfl) (by first | exact Re1.plain rfl | exact Re1.ptr rfl | exact Re1.slice rfl) (by first | exact Re1.plain rfl | exact Re1.ptr rfl | exact Re1.slice rfl) (by first | exact Re1.plain rfl | exact Re1.ptr rfl | exact Re1.slice rfl)⟩ ?_ | refine N.obl (@ChunkReLe.mk _ _ _ ⟨.inr rfl⟩ id (Nat.le_refl _) (fun j hj => absurd hj (Nat.not_lt_zero j))) ?_ | refine N.obl (.plain (by rfl)) ?_ | refine N.obl (.one (.ptr rfl)) ?_ | refine N.obl (.one (.slice rfl)) ?_ | refine N.obl (.one (.agg (by repeat' (first | exact trivial | refine ⟨.plain rfl, ?_⟩ | refine ⟨.slice rfl, ?_⟩ | refine ⟨.ptr rfl, ?_⟩)))) ?_ | refine N.obl (reF_eqn (intF_eqn ek) rfl) ?_ | fail)
      · repeat' (refine N.go ?_; first | with_reducible (first | refine N.obl (by decide) ?_ | refine N.obl rfl ?_) | refine N.forkYes (by rw [decide_eq_true_eq, hn]; omega) ?_ | refine N.forkNo (decide_eq_false (by omega)) ?_ | refine N.call (cPlaceY C n ps.cap 1 2 3 pos0 (fun _ => false) 0 0 true true true k _ (by rfl) (by rfl) (by rfl) (by omega)) ?_ | fail)
        refine N.go ?_
        refine N.plan [0, 1, 2, 3, 4, 5, 6, 7, 8, 9, 10, 11, 12, 16, 17, 19] [(13, [14]), (15, [18, 20])] (by kernel_rfl) ?_
        repeat' (refine N.go ?_; first | with_reducible (first | refine N.obl (by decide) ?_ | refine N.obl rfl ?_) | refine N.idx k 1 rfl (by omega) ?_ | fail)
        refine N.go ?_
        refine N_callQ [8, 5] _ (by show midB _ _ _ _ = Bool.true; kernel_rfl) (fun h₂ hh => cFlNodeZ C hC k 8 5 h3 (by omega) g rfl h₂ ((hh 8 (by simp)).trans rfl) ((hh 5 (by simp)).trans rfl)) fun v ms hR => ?_
        obtain ⟨q, rfl, rfl⟩ := hR
        refine ⟨by simp, ?_⟩
        repeat' (refine N.go ?_; first | refine N.obl (by show midB _ _ _ _ = Bool.true; kernel_rfl) ?_ | fail)
        refine N.go ?_
        refine AppN.mk1 (.agg ⟨[realP q]⟩) (rdF_all rfl rfl) rfl (by show k * 1 ≤ cap; omega) (by omega) (by show (k + 1) * 8 ≤ _; omega) (prC cap (prF (upd g k q) (k + 1))) (fun h => wr_pr rfl (show k + 1 ≤ cap from h) (Nat.mul_one k)) (fun hr => ?_) (fun hg cap2 hcap2 => ?_)
        · repeat' (refine N.go ?_; first | refine N.obl (by show endB _ _ = Bool.true; kernel_rfl) ?_ | refine N.store _ (wr_on (by omega)) ?_ | fail)
          refine N.go ?_
          refine N.nextR (α := Option (Nat × Nat × (Nat → Nat × Nat))) (some (k + 1, cap, upd g k q)) [(0, 0), (1, 1), (2, 2), (3, 3), (4, 4), (8, 8), (9, 9), (10, 10)] ⟨⟨by show 1 ≤ _; omega, by show _ ≤ n; omega, by show _ ≤ _; omega⟩, by show n - (k + 1) < n - k; omega⟩ ?_
          have hon : onK (k + 1) = upd (onK k) k true := (onK_upd _).symm
          skip
          repeat' (refine N.go ?_; first | exact N.true | refine N.obl pr_ren ?_ | refine N.obl (on_ren (fun j _ => congrFun hon j)) ?_ | refine N.obl ⟨id, Nat.le_refl _, lt16 (by first | exact Re1.plain rfl | exact Re1.ptr rfl | exact Re1.slice rfl) (by first | exact Re1.plain rfl | exact Re1.ptr rfl | exact Re1.slice rfl) (by first | exact Re1.plain rfl | exact Re1.ptr rfl | exact Re1.slice rfl) (by first | exact Re1.plain rfl | exact Re1.ptr rfl | exact Re1.slice rfl) (by first | exact Re1.plain rfl | exact Re1.ptr rfl | exact Re1.slice rfl) (by first | exact Re1.plain rfl | exact Re1.ptr rfl | exact Re1.slice rfl) (by first | exact Re1.plain rfl | exact Re1.ptr rfl | exact Re1.slice rfl) (by first | exact Re1.plain rfl | exact Re1.ptr rfl | exact Re1.slice rfl) (by first | exact Re1.plain rfl | exact Re1.ptr rfl | exact Re1.slice rfl) (by first | exact Re1.plain rfl | exact Re1.ptr rfl | exact Re1.slice rfl) (by first | exact Re1.plain rfl | exact Re1.ptr rfl | exact Re1.slice rfl) (by first | exact Re1.plain rfl | exact Re1.ptr rfl | exact Re1.slice rfl) (by first | exact Re1.plain rfl | exact Re1.ptr rfl | exact Re1.slice rfl) (by first | exact Re1.plain rfl | exact Re1.ptr rfl | exact Re1.slice rfl) (by first | exact Re1.plain rfl | exact Re1.ptr rfl | exact Re1.slice rfl) (by first | exact Re1.plain rfl | exact Re1.ptr rfl | exact Re1.slice rfl)⟩ ?_ | refine N.obl (ChunkReLe.same (agg_plain (by rfl) (by rfl))) ?_ | refine N.obl (seg_ren (fun _ _ => rfl) (fun _ _ => rfl)) ?_ | refine N.obl ⟨id, Nat.le_refl _, lt15 (by first | exact Re1.plain rfl | exact Re1.ptr rfl | exact Re1.slice rfl) (by first | exact Re1.plain rfl | exact Re1.ptr rfl | exact Re1.slice rfl) (by first | exact Re1.plain rfl | exact Re1.ptr rfl | exact Re1.slice rfl) (by first | exact Re1.plain rfl | exact Re1.ptr rfl | exact Re1.slice rfl) (by first | exact Re1.plain rfl | exact Re1.ptr rfl | exact Re1.slice rfl) (by first | exact Re1.plain rfl | exact Re1.ptr rfl | exact Re1.slice rfl) (by first | exact Re1.plain rfl | exact Re1.ptr rfl | exact Re1.slice rfl) (by first | exact Re1.plain rfl | exact Re1.ptr rfl | exact Re1.slice rfl) (by first | exact Re1.plain rfl | exact Re1.ptr rfl | exact Re1.slice rfl) (by first | exact Re1.plain rfl | exact Re1.ptr rfl | exact Re1.slice rfl) (by first | exact Re1.plain rfl | exact Re1.ptr rfl | exact Re1.slice rfl) (by first | exact Re1.plain rfl | exact Re1.ptr rfl | exact Re1.slice rfl) (by first | exact Re1.plain rfl | exact Re1.ptr rfl | exact Re1.slice rfl) (by first | exact Re1.plain rfl | exact Re1.ptr rfl | exact Re1.slice rfl) (by first | exact Re1.plain rfl | exact Re1.ptr rfl | exact Re1.slice rfl)⟩ ?_ | refine N.obl (@ChunkReLe.mk _ _ _ ⟨.inr rfl⟩ id (Nat.le_refl _) (fun j hj => absurd hj (Nat.not_lt_zero j))) ?_ | refine N.obl (.plain (by rfl)) ?_ | refine N.obl (.one (.ptr rfl)) ?_ | refine N.obl (.one (.slice rfl)) ?_ | refine N.obl (.one (.agg (by repeat' (first | exact trivial | refine ⟨.plain rfl, ?_⟩ | refine ⟨.slice rfl, ?_⟩ | refine ⟨.ptr rfl, ?_⟩)))) ?_ | refine N.obl (reF_eqn (intF_eqn ek) rfl) ?_ | fail)
        · repeat' (refine N.go ?_; first | refine N.obl (by show endB _ _ = Bool.true; kernel_rfl) ?_ | refine N.store _ (wr_on (by omega)) ?_ | fail)
          refine N.go ?_
          refine N.nextR (α := Option (Nat × Nat × (Nat → Nat × Nat))) (some (k + 1, cap2, upd g k q)) [(0, 0), (1, 1), (2, 2), (3, 3), (4, 4), (8, 8), (9, 9), (22, 10)] ⟨⟨by show 1 ≤ _; omega, by show _ ≤ n; omega, by show _ ≤ _; omega⟩, by show n - (k + 1) < n - k; omega⟩ ?_
          have hon : onK (k + 1) = upd (onK k) k true := (onK_upd _).symm
          skip
          repeat' (refine N.go ?_; first | exact N.true | refine N.obl (gr_pr rfl (fun j hj => seg_cell (by omega)) (by omega)) ?_ | refine N.obl (on_ren (fun j _ => congrFun hon j)) ?_ | refine N.obl ⟨id, Nat.le_refl _, lt16 (by first | exact Re1.plain rfl | exact Re1.ptr rfl | exact Re1.slice rfl) (by first | exact Re1.plain rfl | exact Re1.ptr rfl | exact Re1.slice rfl) (by first | exact Re1.plain rfl | exact Re1.ptr rfl | exact Re1.slice rfl) (by first | exact Re1.plain rfl | exact Re1.ptr rfl | exact Re1.slice rfl) (by first | exact Re1.plain rfl | exact Re1.ptr rfl | exact Re1.slice rfl) (by first | exact Re1.plain rfl | exact Re1.ptr rfl | exact Re1.slice rfl) (by first | exact Re1.plain rfl | exact Re1.ptr rfl | exact Re1.slice rfl) (by first | exact Re1.plain rfl | exact Re1.ptr rfl | exact Re1.slice rfl) (by first | exact Re1.plain rfl | exact Re1.ptr rfl | exact Re1.slice rfl) (by first | exact Re1.plain rfl | exact Re1.ptr rfl | exact Re1.slice rfl) (by first | exact Re1.plain rfl | exact Re1.ptr rfl | exact Re1.slice rfl) (by first | exact Re1.plain rfl | exact Re1.ptr rfl | exact Re1.slice rfl) (by first | exact Re1.plain rfl | exact Re1.ptr rfl | exact Re1.slice rfl) (by first | exact Re1.plain rfl | exact Re1.ptr rfl | exact Re1.slice rfl) (by first | exact Re1.plain rfl | exact Re1.ptr rfl | exact Re1.slice rfl) (by first | exact Re1.plain rfl | exact Re1.ptr rfl | exact Re1.slice rfl)⟩ ?_ | refine N.obl (ChunkReLe.same (agg_plain (by rfl) (by rfl))) ?_ | refine N.obl (seg_ren (fun _ _ => rfl) (fun _ _ => rfl)) ?_ | refine N.obl ⟨id, Nat.le_refl _, lt15 (by first | exact Re1.plain rfl | exact Re1.ptr rfl | exact Re1.slice rfl) (by first | exact Re1.plain rfl | exact Re1.ptr rfl | exact Re1.slice rfl) (by first | exact Re1.plain rfl | exact Re1.ptr rfl | exact Re1.slice rfl) (by first | exact Re1.plain rfl | exact Re1.ptr rfl | exact Re1.slice rfl) (by first | exact Re1.plain rfl | exact Re1.ptr rfl | exact Re1.slice rfl) (by first | exact Re1.plain rfl | exact Re1.ptr rfl | exact Re1.slice rfl) (by first | exact Re1.plain rfl | exact Re1.ptr rfl | exact Re1.slice rfl) (by first | exact Re1.plain rfl | exact Re1.ptr rfl | exact Re1.slice rfl) (by first | exact Re1.plain rfl | exact Re1.ptr rfl | exact Re1.slice rfl) (by first | exact Re1.plain rfl | exact Re1.ptr rfl | exact Re1.slice rfl) (by first | exact Re1.plain rfl | exact Re1.ptr rfl | exact Re1.slice rfl) (by first | exact Re1.plain rfl | exact Re1.ptr rfl | exact Re1.slice rfl) (by first | exact Re1.plain rfl | exact Re1.ptr rfl | exact Re1.slice rfl) (by first | exact Re1.plain rfl | exact Re1.ptr rfl | exact Re1.slice rfl) (by first | exact Re1.plain rfl | exact Re1.ptr rfl | exact Re1.slice rfl)⟩ ?_ | refine N.obl (@ChunkReLe.mk _ _ _ ⟨.inr rfl⟩ id (Nat.le_refl _) (fun j hj => absurd hj (Nat.not_lt_zero j))) ?_ | refine N.obl (.plain (by rfl)) ?_ | refine N.obl (.one (.ptr rfl)) ?_ | refine N.obl (.one (.slice rfl)) ?_ | refine N.obl (.one (.agg (by repeat' (first | exact trivial | refine ⟨.plain rfl, ?_⟩ | refine ⟨.slice rfl, ?_⟩ | refine ⟨.ptr rfl, ?_⟩)))) ?_ | refine N.obl (reF_eqn (intF_eqn ek) rfl) ?_ | fail)
    · obtain rfl : k = n := by omega
      repeat' (refine N.go ?_; first | refine N.forkNo (by rw [decide_eq_false_iff_not, hn]; omega) ?_ | fail)
      refine N.go ?_
      refine closeN (ok := flOK ⟨C, k, pos0, fun _ => false, 0, 0, [], g, nodeS C, fun _ => true, 0⟩) (hB := flH ⟨C, k, pos0, fun _ => false, 0, 0, [], g, nodeS C, fun _ => true, 0⟩) (ps.cap, cap) 9 [(0, 9), (1, 1), (2, 2), (3, 3), (4, 8), (5, 10), (6, 4)] [0] (fun l i _ hl => absurd hl (Nat.not_lt_zero i)) (fun i hi => absurd hi (Nat.not_lt_zero i)) ⟨by have := hps.1.2.2.1; have := hps.2; show k ≤ ps.cap; omega, i3⟩ rfl ⟨_, rfl⟩ rfl rfl ?_ (fun k hk l i hm' => ?_) (fun k hk d hd l hl => ?_) (fun ρ ρ' ha => by have := ha 9 ⟨_, rfl⟩; simp [den, den2, den1, den0, denA, this]) (by first | (show 9 < 11; decide) | (show 9 < 12; decide) | (show 9 < 14; decide) | (show 9 < 15; decide) | (show 9 < 16; decide) | (show 9 < 17; decide) | simp) ?_
      · intro l d hl
        match l, hl with
        | 0, hl =>
          obtain rfl : _ = d := by simpa using hl
          exact ⟨9, _, rfl, rfl, rfl, Nat.le_refl _, lt16 (by first | exact Re1.plain rfl | exact Re1.ptr rfl | exact Re1.slice rfl) (by first | exact Re1.plain rfl | exact Re1.ptr rfl | exact Re1.slice rfl) (by first | exact Re1.plain rfl | exact Re1.ptr rfl | exact Re1.slice rfl) (by first | exact Re1.plain rfl | exact Re1.ptr rfl | exact Re1.slice rfl) (by first | exact Re1.plain rfl | exact Re1.ptr rfl | exact Re1.slice rfl) (by first | exact Re1.plain rfl | exact Re1.ptr rfl | exact Re1.slice rfl) (by first | exact Re1.plain rfl | exact Re1.ptr rfl | exact Re1.slice rfl) (by first | exact Re1.plain rfl | exact Re1.ptr rfl | exact Re1.slice rfl) (by first | exact Re1.plain rfl | exact Re1.ptr rfl | exact Re1.slice rfl) (by first | exact Re1.plain rfl | exact Re1.ptr rfl | exact Re1.slice rfl) (by first | exact Re1.plain rfl | exact Re1.ptr rfl | exact Re1.slice rfl) (by first | exact Re1.plain rfl | exact Re1.ptr rfl | exact Re1.slice rfl) (by first | exact Re1.plain rfl | exact Re1.ptr rfl | exact Re1.slice rfl) (by first | exact Re1.plain rfl | exact Re1.ptr rfl | exact Re1.slice rfl) (by first | exact Re1.plain rfl | exact Re1.ptr rfl | exact Re1.slice rfl) (by first | exact Re1.plain rfl | exact Re1.ptr rfl | exact Re1.slice rfl), .inl rfl, .inl (by show 0 < 16; decide)⟩
        | 1, hl =>
          obtain rfl : _ = d := by simpa using hl
          exact ⟨1, _, rfl, rfl, rfl, Nat.le_refl _, lt15 (by first | exact Re1.plain rfl | exact Re1.ptr rfl | exact Re1.slice rfl) (by first | exact Re1.plain rfl | exact Re1.ptr rfl | exact Re1.slice rfl) (by first | exact Re1.plain rfl | exact Re1.ptr rfl | exact Re1.slice rfl) (by first | exact Re1.plain rfl | exact Re1.ptr rfl | exact Re1.slice rfl) (by first | exact Re1.plain rfl | exact Re1.ptr rfl | exact Re1.slice rfl) (by first | exact Re1.plain rfl | exact Re1.ptr rfl | exact Re1.slice rfl) (by first | exact Re1.plain rfl | exact Re1.ptr rfl | exact Re1.slice rfl) (by first | exact Re1.plain rfl | exact Re1.ptr rfl | exact Re1.slice rfl) (by first | exact Re1.plain rfl | exact Re1.ptr rfl | exact Re1.slice rfl) (by first | exact Re1.plain rfl | exact Re1.ptr rfl | exact Re1.slice rfl) (by first | exact Re1.plain rfl | exact Re1.ptr rfl | exact Re1.slice rfl) (by first | exact Re1.plain rfl | exact Re1.ptr rfl | exact Re1.slice rfl) (by first | exact Re1.plain rfl | exact Re1.ptr rfl | exact Re1.slice rfl) (by first | exact Re1.plain rfl | exact Re1.ptr rfl | exact Re1.slice rfl) (by first | exact Re1.plain rfl | exact Re1.ptr rfl | exact Re1.slice rfl), .inl rfl, .inl (by show 0 < 15; decide)⟩
        | 2, hl =>
          obtain rfl : _ = d := by simpa using hl
          exact ⟨2, _, rfl, rfl, rfl, Nat.le_refl _, (seg_ren (fun _ _ => rfl) (fun _ _ => rfl)).re, .inl rfl, .inl (by show 0 < k * 2; omega)⟩
        | 3, hl =>
          obtain rfl : _ = d := by simpa using hl
          exact ⟨3, _, rfl, rfl, rfl, Nat.le_refl _, (seg_ren (fun _ _ => rfl) (fun _ _ => rfl)).re, .inl rfl, .inl (by show 0 < k; omega)⟩
        | 4, hl =>
          obtain rfl : _ = d := by simpa using hl
          exact ⟨8, _, rfl, rfl, rfl, Nat.le_refl _, (on_ren fun j hj => decide_eq_true hj).re, .inr rfl, .inl (by show 0 < k; omega)⟩
        | 5, hl =>
          obtain rfl : _ = d := by simpa using hl
          exact ⟨10, _, rfl, rfl, rfl, Nat.le_refl _, pr_ren.re, .inl rfl, .inl (by show 0 < cap; omega)⟩
        | 6, hl =>
          obtain rfl : _ = d := by simpa using hl
          exact ⟨4, _, rfl, rfl, rfl, Nat.le_refl _, fun j hj => absurd hj (Nat.not_lt_zero j), .inr rfl, .inr packX_selfish⟩
      · obtain rfl := List.mem_singleton.1 hk
        simp only [List.mem_cons, Prod.mk.injEq, List.not_mem_nil, or_false] at hm'
        omega
      · obtain rfl := List.mem_singleton.1 hk
        obtain rfl : garC C = d := by simpa using hd
        generalize closeH _ _ _ _ _ = HH
        exact lt11 (p := fun j => Safe1 HH (Chunk.f (garC C) j)) trivial trivial trivial trivial trivial trivial trivial trivial trivial trivial trivial l hl
      repeat' (refine N.go ?_; first | exact N.true | refine N.obl trivial ?_ | refine N.some g ⟨trivial, ?_⟩ | refine N.obl (.tuple ⟨.ptr rfl, .plain rfl, trivial⟩) ?_ | refine N.obl ⟨⟨Nat.zero_le _, _, rfl, fun h => h, Nat.le_refl _, fun j hj => absurd hj (Nat.not_lt_zero j)⟩, ⟨Nat.zero_le _, _, rfl, fun h => h, Nat.le_refl _, lt11 (.plain rfl) (.plain rfl) (.plain rfl) (.plain rfl) (.plain rfl) (.plain rfl) (.plain rfl) (.plain rfl) (.plain rfl) (.plain rfl) (.plain rfl)⟩, trivial⟩ ?_ | refine N.obl ⟨trivial, .inr ⟨_, rfl, rfl⟩, .inl rfl, trivial⟩ ?_ | fail)
      done
end Go.Proofs.YtdljelmbjdjpjaaGreat


namespace Go.Proofs.YtdljelmbjdjpjaaGreat
open Go Go.RowKit Sx
theorem mail_sc (to_ : Int) (u : Option Sl) (at_ tr : Int) (be b : Bool) {F : Nat → Prop} : ∀ ρ ρ', AgreeOn F ρ ρ' → den ρ' (.tuple ⟨[mailV to_ u at_ tr be, .bool b]⟩) = den ρ (.tuple ⟨[mailV to_ u at_ tr be, .bool b]⟩) := fun ρ ρ' _ => by
  have e : ∀ ρ, den ρ (.tuple ⟨[mailV to_ u at_ tr be, .bool b]⟩) = .tuple ⟨[mailR to_ u at_ tr be, .bool b]⟩ := fun ρ => by
    show Value.tuple (#[mailV to_ u at_ tr be, .bool b].map (den2 ρ)) = _
    have e1 : den2 ρ (mailV to_ u at_ tr be) = mailR to_ u at_ tr be := mailV_den to_ u at_ tr be ρ
    simp only [List.map_toArray, List.map_cons, List.map_nil, e1]
    rfl
  rw [e, e]
theorem plain_sc' {v : Value} (h : plain3 v = true) {F : Nat → Prop} : ∀ ρ ρ', AgreeOn F ρ ρ' → den ρ' v = den ρ v := fun ρ ρ' _ => by rw [den_plain3 h, den_plain3 h]
theorem cGetM (W : World) (F : List By) (L : List Ml) (x : Nat) (m : Ml) (bs : List Int) (i j : Nat) (hij : i ≠ j) (h : List (Option Chunk)) (hi : h[i]? = some (some (airP L))) (hj : h[j]? = some (some (memC W F))) (hm : L[x]? = some m) (hs : Src W F m.u bs) (hb : bs.length ≤ 1048576) :
    CallAll Tryz.prog 59 [.pointer (some ⟨i, 0, some 0⟩), .int .i64 (x : Nat)] h (fun v ms => ∃ u' F', Made F bs u' F' ∧ v = .tuple ⟨[mailV m.to_ u' m.at_ m.tr m.be, .bool true]⟩ ∧ ms = [(i, airP L), (j, memC W F')]) := by
  refine CallAll.to (call_resall (G := tys) (h := h) (vs := [.pointer (some ⟨i, 0, some 0⟩), .int .i64 (x : Nat)]) (airOK L) (airO W F L) (α := Option Sl × List By) (fun κ => Made F bs κ.1 κ.2) (fun κ => .tuple ⟨[mailV m.to_ κ.1 m.at_ m.tr m.be, .bool true]⟩) [⟨i, airP L, airP L, airP L⟩, ⟨j, memC W F, memC W F, memC W F⟩] (fun κ => [airP (L), memC W (κ.2)]) (fun κ => []) [.pointer (some ⟨0, 0, some 0⟩), .int .i64 (x : Nat)] tysOK mixed Tryz.func59 (by rfl) (Tryz.call59) ⟨hi, hj, trivial⟩ ⟨⟨fun h => ⟨rfl, Nat.le_refl _⟩, Nat.le_refl _, fun j hj => absurd hj (Nat.not_lt_zero j)⟩, ⟨fun h => ⟨rfl, Nat.le_refl _⟩, Nat.le_refl _, fun j hj => absurd hj (Nat.not_lt_zero j)⟩, trivial⟩ (fun κ _ => ⟨⟨fun h => ⟨rfl, Nat.le_refl _⟩, Nat.le_refl _, fun j hj => absurd hj (Nat.not_lt_zero j)⟩, ⟨fun h => ⟨rfl, Nat.le_refl _⟩, Nat.le_refl _, fun j hj => absurd hj (Nat.not_lt_zero j)⟩, trivial⟩) (by simp [Apart, hij]) ⟨.inr ⟨rfl, rfl⟩, .inr ⟨rfl, rfl⟩, trivial⟩ (fun κ _ => trivial) ⟨.ptr rfl, .plain rfl, trivial⟩ air_opens2 ?_) ?_
  rotate_left
  · rintro v ms ⟨κ, hκ, rfl, rfl⟩
    exact ⟨κ.1, κ.2, hκ, rfl, rfl⟩
  intro β hβ
  have hx : x < L.length := (List.getElem?_eq_some_iff.1 hm).1
  cases β with
  | none =>
    obtain rfl : L = [] := hβ
    simp at hx
  | some q =>
    obtain ⟨c, T⟩ := q
    obtain ⟨hc1, hlc, hT⟩ := hβ
    obtain rfl : T x = m := hT x m hm
    repeat' (refine N.go ?_; first | with_reducible refine N.forkF ?_ | refine N.forkNo (by rw [decide_eq_false_iff_not]; omega) ?_ | refine N.call (cLenS _ 2 L.length c 0 _ (by rfl) (by rfl) (by decide)) ?_ | refine N.idx x 1 rfl (by omega) ?_ | refine N.load _ (rd_mlA x rfl (by omega) rfl) ?_ | fail)
    refine N.go ?_
    refine N.callAll (cOwnM W F _ bs hs hb _ _ _ _ 1 _ (by rfl)) fun v ms hR => ?_
    obtain ⟨u', F', hM, rfl, rfl⟩ := hR
    repeat' (refine N.go ?_; first | with_reducible refine N.obl rfl ?_ | fail)
    refine N.go ?_
    refine airClose (W := W) (F := F') L 2 c T rfl air_pc hc1 hlc hT (by rfl) rfl (Nat.le_refl _) rfl (by rfl) (by rfl) (by decide) rfl (Nat.le_refl _) (fun j hj => eqv_of (seg_cell hj)) (mail_sc _ _ _ _ _ _) ?_
    refine N.some (u', F') ⟨hM, ?_⟩
    refine N.obl (.tuple ⟨mailV_re _ _ _ _ _, .plain rfl, trivial⟩) ?_
    refine N.obl ⟨⟨_, rfl, fun h => h, Nat.le_refl _, fun j hj => absurd hj (Nat.not_lt_zero j)⟩, ⟨_, rfl, fun h => h, Nat.le_refl _, fun j hj => absurd hj (Nat.not_lt_zero j)⟩, trivial⟩ ?_
    refine N.obl trivial ?_
    refine N.obl ⟨⟨.inr ⟨_, rfl, rfl⟩, .inr ⟨_, rfl, rfl⟩, trivial⟩, trivial⟩ ?_
    exact N.true
end Go.Proofs.YtdljelmbjdjpjaaGreat


namespace Go.Proofs.YtdljelmbjdjpjaaGreat
open Go Go.RowKit Sx
theorem Made.len {F F' : List By} {bs : List Int} {u : Option Sl} (h : Made F bs u F') : bs.length = uN u := by
  cases h with
  | nil h => subst h; rfl
  | new hb => rfl
theorem get_set {L : List Ml} {x : Nat} {y : Ml} {T : Nat → Ml} (hT : ∀ i m, L[i]? = some m → T i = m) {z : Ml} (hz : z = y) : ∀ i m, (L.set x y)[i]? = some m → setM1 T x z i = m := fun i m hm => by
  subst hz
  by_cases e : x = i
  · subst e
    have hl := (List.getElem?_eq_some_iff.1 hm).1
    rw [List.length_set] at hl
    rw [List.getElem?_set_self hl] at hm
    rw [setM1_at]; simpa using hm
  · rw [List.getElem?_set_ne e] at hm
    rw [setM1_ne (fun h => e h.symm)]; exact hT i m hm
end Go.Proofs.YtdljelmbjdjpjaaGreat


namespace Go.Proofs.YtdljelmbjdjpjaaGreat
open Go Go.RowKit Sx
end Go.Proofs.YtdljelmbjdjpjaaGreat


namespace Go.Proofs.YtdljelmbjdjpjaaGreat
open Go Go.RowKit Sx
theorem cPutFull (L : List Ml) (to_ at_ tr : Int) (be : Bool) (u : Option Sl) (hl : 512 ≤ L.length) (i : Nat) (h : List (Option Chunk)) (hi : h[i]? = some (some (airP L))) : CallOK Tryz.prog 84 [.pointer (some ⟨i, 0, some 0⟩), mailV to_ u at_ tr be] h (.bool false) [(i, airP (L))] [] := by
  refine call_res (G := tys) (airOK L) (airH L) [⟨i, airP L, airP L, airP (L)⟩] [] [.pointer (some ⟨0, 0, some 0⟩), mailV to_ u at_ tr be] tysOK mixed Tryz.func84 (by rfl) (Tryz.call84) ⟨hi, trivial⟩ ⟨⟨fun h => ⟨rfl, Nat.le_refl _⟩, Nat.le_refl _, fun j hj => absurd hj (Nat.not_lt_zero j)⟩, trivial⟩ (by simp [Apart]) ⟨.inr ⟨rfl, rfl⟩, trivial⟩ trivial ⟨.ptr rfl, mailV_re _ _ _ _ _, trivial⟩ pack_opens ?_
  intro β hβ
  cases β with
  | none =>
    obtain rfl : L = [] := hβ
    exact absurd hl (by decide)
  | some r =>
    obtain ⟨c, T⟩ := r
    obtain ⟨hc1, hlc, hT⟩ := hβ
    repeat' (refine N.go ?_; first | with_reducible (first | refine N.obl rfl ?_ | refine N.forkT ?_ | refine N.forkF ?_) | refine N.forkYes (by rw [decide_eq_true_eq]; omega) ?_ | fail)
    refine N.go ?_
    refine airCloseG 0 [] (L) 1 c (T) one_bs one_pc hc1 hlc hT (by rfl) rfl (Nat.le_refl _) rfl (by rfl) (by decide) rfl (Nat.le_refl _) (fun j hj => eqv_of (seg_cell hj)) (fun x hx => by cases hx) (fun x hx => by cases hx) (plain_sc' rfl) ?_
    refine N.obl (.plain rfl) ?_
    refine N.obl ⟨⟨_, rfl, fun h => h, Nat.le_refl _, fun j hj => absurd hj (Nat.not_lt_zero j)⟩, trivial⟩ ?_
    refine N.obl trivial ?_
    refine N.obl ⟨⟨.inr ⟨_, rfl, rfl⟩, trivial⟩, trivial⟩ ?_
    exact N.true
end Go.Proofs.YtdljelmbjdjpjaaGreat


namespace Go.Proofs.YtdljelmbjdjpjaaGreat
open Go Go.RowKit Sx
inductive Own (F : List By) : Option Sl → List Int → Prop
  | nil : Own F none []
  | own {e : By} (he : e ∈ F) : Own F e.s e.bs
theorem Own.src {W : World} {F : List By} {u : Option Sl} {bs : List Int} (h : Own F u bs) : Src W F u bs := by
  cases h with
  | nil => exact .nil
  | own he => exact .own he
theorem Own.more {F F' : List By} (hF : ∀ e ∈ F, e ∈ F') {u : Option Sl} {bs : List Int} (h : Own F u bs) : Own F' u bs := by
  cases h with
  | nil => exact .nil
  | own he => exact .own (hF _ he)
theorem Own.or {F : List By} {u : Option Sl} {bs : List Int} (h : Own F u bs) : (u = none ∧ bs = []) ∨ ∃ e ∈ F, u = e.s ∧ bs = e.bs := by
  cases h with
  | nil => exact .inl ⟨rfl, rfl⟩
  | own he => exact .inr ⟨_, he, rfl, rfl⟩
theorem Own.blk {F : List By} {u : Option Sl} {bs : List Int} (h : Own F u bs) {s : Sl} (hs : u = some s) : s.b ∈ F.map By.b := by
  cases h with
  | nil => cases hs
  | own he => cases hs; exact List.mem_map.2 ⟨_, he, rfl⟩
theorem made_own {F F' : List By} {bs : List Int} {u : Option Sl} (h : Made F bs u F') : Own F' u bs := by
  cases h with
  | nil h => subst h; exact .nil
  | new hb => exact .own (List.mem_cons_self ..)
structure Am where
  to_ : Int
  bs : List Int
  at_ : Int
  tr : Int
  be : Bool
structure MlA (W : World) (F : List By) (m : Ml) (a : Am) : Prop where
  to_ : m.to_ = a.to_
  at_ : m.at_ = a.at_
  tr : m.tr = a.tr
  be : m.be = a.be
  own : Own F m.u a.bs
  len : a.bs.length ≤ 1000
theorem MlA.src {W : World} {F : List By} {m : Ml} {a : Am} (h : MlA W F m a) : Src W F m.u a.bs := h.own.src
inductive AirA (W : World) (F : List By) : List Ml → List Am → Prop
  | nil : AirA W F [] []
  | cons {m : Ml} {a : Am} {L : List Ml} {A : List Am} (h : MlA W F m a) (t : AirA W F L A) : AirA W F (m :: L) (a :: A)
theorem AirA.len {W : World} {F : List By} {L : List Ml} {A : List Am} (h : AirA W F L A) : L.length = A.length := by
  induction h with
  | nil => rfl
  | cons _ _ ih => rw [List.length_cons, List.length_cons, ih]
theorem AirA.snoc {W : World} {F : List By} {L : List Ml} {A : List Am} (h : AirA W F L A) {m : Ml} {a : Am} (hm : MlA W F m a) : AirA W F (L ++ [m]) (A ++ [a]) := by
  induction h with
  | nil => exact .cons hm .nil
  | cons h _ ih => exact .cons h ih
theorem AirA.mono {W : World} {F F' : List By} {L : List Ml} {A : List Am} (h : AirA W F L A) (hs : ∀ e, e ∈ F → e ∈ F') : AirA W F' L A := by
  induction h with
  | nil => exact .nil
  | cons h _ ih => exact .cons ⟨h.to_, h.at_, h.tr, h.be, h.own.more hs, h.len⟩ ih
theorem AirA.get {W : World} {F : List By} {L : List Ml} {A : List Am} (h : AirA W F L A) : ∀ {i : Nat} {a : Am}, A[i]? = some a → ∃ m, L[i]? = some m ∧ MlA W F m a := by
  induction h with
  | nil => intro i a ha; simp at ha
  | cons h _ ih =>
    intro i a ha
    cases i with
    | zero => exact ⟨_, rfl, by simpa using (by simpa using ha : _ = a) ▸ h⟩
    | succ i => exact ih (by simpa using ha)
theorem AirA.erase {W : World} {F : List By} {L : List Ml} {A : List Am} (h : AirA W F L A) : ∀ i, AirA W F (L.eraseIdx i) (A.eraseIdx i) := by
  induction h with
  | nil => intro i; exact .nil
  | cons h t ih =>
    intro i
    cases i with
    | zero => exact t
    | succ i => exact .cons h (ih i)
def putA (s : List Am × Int) (m : Am) : List Am × Int := if s.1.length < 512 then (s.1 ++ [m], s.2) else (s.1, min (s.2 + 1) 1000000)
def sendA (i : Nat) (on : Nat → Bool) (mk : Nat → Am) (s : List Am × Int) : Nat → List Am × Int
  | 0 => s
  | j + 1 => if j = i ∨ on j = false then sendA i on mk s j else putA (sendA i on mk s j) (mk j)
theorem sendA_lost (i : Nat) (on : Nat → Bool) (mk : Nat → Am) (s : List Am × Int) (h : 0 ≤ s.2 ∧ s.2 ≤ 1000000) : ∀ j, 0 ≤ (sendA i on mk s j).2 ∧ (sendA i on mk s j).2 ≤ 1000000
  | 0 => h
  | j + 1 => by
    have ih := sendA_lost i on mk s h j
    unfold sendA
    split
    · exact ih
    · unfold putA
      split
      · exact ih
      · show 0 ≤ min ((sendA i on mk s j).2 + 1) 1000000 ∧ min ((sendA i on mk s j).2 + 1) 1000000 ≤ 1000000
        omega
def trA (P : Nat → Int) (i : Nat) (g : Int) (j : Nat) : Int := IntKind.i64.wrap (g + distN (P (i * 2)) (P (i * 2 + 1)) (P (j * 2)) (P (j * 2 + 1)))
def fiA (C : Nat → Int) (j : Nat) (t : Int) : Int := if fineOK (offN j 13 (C 5)) (IntKind.i64.wrap (12345 * (j : Int))) t then fineN (offN j 13 (C 5)) (IntKind.i64.wrap (12345 * (j : Int))) t else 0
def mkA (C P : Nat → Int) (bs : List Int) (i : Nat) (g : Int) (j : Nat) : Am := ⟨(j : Int), bs, fiA C j (trA P i g j), trA P i g j, false⟩
theorem made_mono {F F' : List By} {bs : List Int} {u : Option Sl} (h : Made F bs u F') : ∀ e, e ∈ F → e ∈ F' := fun e he => h.sub e he
theorem mem_mono {F : List By} {e0 : By} : ∀ e, e ∈ F → e ∈ e0 :: F := fun e he => List.mem_cons_of_mem _ he
theorem re1_intE {ix : List (Nat × Nat)} {k : IntKind} {a b : Int} (h : a = b) : Re1 ix (.int k a) (.int k b) := by subst h; exact .plain rfl
theorem encB_len {k s b q st ds t1 t2 wh wn x y a c d : Int} : (encB k s b q st ds t1 t2 wh wn x y a c d).length ≤ 1000 := by
  unfold encB encH
  simp only [List.length_append, be_len, List.length_cons, List.length_nil]
  decide
theorem on_re {ix : List (Nat × Nat)} {x : Ext} {o o' : Bool} {n : Nat} {on : Nat → Bool} : ChunkRe ix (@Chunk.mk x o n [(0, n, .agg ⟨segL n (fun j => .bool (on j))⟩)]) (mvP o' n on) := fun j hj => by
  have hj : j < n := hj
  have e : ∀ (x : Ext) (o : Bool), (@Chunk.mk x o n [(0, n, .agg ⟨segL n (fun j => .bool (on j))⟩)]).f j = .bool (on j) := fun x o => by
    show cellOf _ _ = _
    rw [cellOf_cons, if_pos (by omega)]
    exact segL_get hj
  rw [e, e]
  exact .plain rfl
theorem cFlSend1 (C : Nat → Int) (n cap wc : Nat) (hn : 1 ≤ n ∧ n ≤ 64) (h5 : 0 ≤ C 5 ∧ C 5 ≤ 1000) (lost : Int) (hl : 0 ≤ lost ∧ lost ≤ 1000000) (P : Nat → Int) (M : Nat → Bool) (tm st : Int) (X : Ext) (on : Nat → Bool) (f : Nat → Value) (W : World) (F : List By) (L : List Ml) (A : List Am) (hA : AirA W F L A) (i : Nat) (hi : i < n) (g : Int) (k s b q st' ds t1 t2 wh wn x y a c d e' : Int) (oc : Nat)
    (hk : Fi k) (hs : Fi s) (hb : Fi b) (hq : Fi q) (hst : Fi st') (hds : Fi ds) (ht1 : Fi t1) (ht2 : Fi t2) (hwh : Fi wh) (hwn : Fi wn) (hx : Fi x) (hy : Fi y) (ha : Fi a) (hc : Fi c) (hd : Fi d) (hM : ∀ h, CallOK Tryz.prog 108 [frF k s b q st' ds t1 t2 wh wn x y a c d] h (.bool true) [] [])
    (i0 i1 i2 i3 i4 i5 i6 i7 i8 : Nat) (h : List (Option Chunk)) (h0 : h[i0]? = some (some (flC C n i1 i6 i4 (.slice (some ⟨i5, 0, some 0⟩) n cap) lost))) (h1 : h[i1]? = some (some (wcc true C n wc i2 i3 tm st))) (h2 : h[i2]? = some (some (ptP true n P))) (h3 : h[i3]? = some (some (mvP true n M))) (h4 : h[i4]? = some (some (onC X n on))) (h5' : h[i5]? = some (some (prC cap f))) (h6 : h[i6]? = some (some (airP L))) (h7 : h[i7]? = some (some (memC W F))) (h8 : h[i8]? = some (some (outC (outV k s b q st' ds t1 t2 wh wn x y a c d e')))) (hne : [i0, i1, i2, i3, i4, i5, i6, i7, i8].Nodup) :
    CallAll Tryz.prog 56 [.pointer (some ⟨i0, 0, some 0⟩), .int .i64 (i : Int), .slice (some ⟨i8, 0, some 0⟩) 1 oc, .int .i64 g] h fun v ms => ∃ L' F', AirA W F' L' (sendA i on (mkA C P (encB k s b q st' ds t1 t2 wh wn x y a c d) i g) (A, lost) n).1 ∧ (∀ e, e ∈ F → e ∈ F') ∧ v = .tuple #[] ∧ ms = [(i0, flC C n i1 i6 i4 (.slice (some ⟨i5, 0, some 0⟩) n cap) (sendA i on (mkA C P (encB k s b q st' ds t1 t2 wh wn x y a c d) i g) (A, lost) n).2), (i6, airP L'), (i7, memC W F')] := by
  have key := call_resall (G := tys) (h := h) (vs := [.pointer (some ⟨i0, 0, some 0⟩), .int .i64 (i : Int), .slice (some ⟨i8, 0, some 0⟩) 1 oc, .int .i64 g]) (fun _ : Unit => True) (fun _ => _) (α := List Ml × List By) (fun κ => AirA W κ.2 κ.1 (sendA i on (mkA C P (encB k s b q st' ds t1 t2 wh wn x y a c d) i g) (A, lost) n).1 ∧ ∀ e, e ∈ F → e ∈ κ.2) (fun κ => .tuple #[])
    [⟨i0, flC C n i1 i6 i4 (.slice (some ⟨i5, 0, some 0⟩) n cap) lost, flC C n 1 6 4 (.slice (some ⟨5, 0, some 0⟩) n cap) lost, (@Chunk.mk Ext.none false 0 [])⟩, ⟨i1, wcc true C n wc i2 i3 tm st, wcc false C n wc 2 3 tm st, (@Chunk.mk Ext.none false 0 [])⟩, ⟨i2, ptP true n P, ptP false n P, (@Chunk.mk Ext.none false 0 [])⟩, ⟨i3, mvP true n M, mvP false n M, (@Chunk.mk Ext.none false 0 [])⟩, ⟨i4, onC X n on, mvP false n on, (@Chunk.mk Ext.none false 0 [])⟩, ⟨i5, prC cap f, (@Chunk.mk Ext.none false 0 []), (@Chunk.mk Ext.none false 0 [])⟩, ⟨i6, airP L, airP L, (@Chunk.mk Ext.none false 0 [])⟩, ⟨i7, memC W F, memC W F, (@Chunk.mk Ext.none false 0 [])⟩, ⟨i8, outC (outV k s b q st' ds t1 t2 wh wn x y a c d e'), (@Chunk.mk Ext.none false 16 [(0, 16, outV k s b q st' ds t1 t2 wh wn x y a c d e')]), (@Chunk.mk Ext.none false 0 [])⟩]
    (fun κ => [flC C n i1 i6 i4 (.slice (some ⟨i5, 0, some 0⟩) n cap) (sendA i on (mkA C P (encB k s b q st' ds t1 t2 wh wn x y a c d) i g) (A, lost) n).2, (@Chunk.mk Ext.none false 0 []), (@Chunk.mk Ext.none false 0 []), (@Chunk.mk Ext.none false 0 []), (@Chunk.mk Ext.none false 0 []), (@Chunk.mk Ext.none false 0 []), airP κ.1, memC W κ.2, (@Chunk.mk Ext.none false 0 [])]) (fun κ => []) [.pointer (some ⟨0, 0, some 0⟩), .int .i64 (i : Int), .slice (some ⟨8, 0, some 0⟩) 1 oc, .int .i64 g] tysOK mixed Tryz.func56 (by rfl) (Tryz.call56) ⟨h0, h1, h2, h3, h4, h5', h6, h7, h8, trivial⟩ ?_ ?_ ?_ ?_ ?_ ?_ Opens.same ?_
  · simp only [List.nodup_cons, List.mem_cons, List.not_mem_nil, or_false, not_or, List.nodup_nil, and_true, not_false_eq_true] at hne
    obtain ⟨⟨n01, n02, n03, n04, n05, n06, n07, n08⟩, ⟨n12, n13, n14, n15, n16, n17, n18⟩, ⟨n23, n24, n25, n26, n27, n28⟩, ⟨n34, n35, n36, n37, n38⟩, ⟨n45, n46, n47, n48⟩, ⟨n56, n57, n58⟩, ⟨n67, n68⟩, n78⟩ := hne
    refine callAll_mono key fun v ms hR => ?_
    obtain ⟨κ, hκ, rfl, rfl⟩ := hR
    exact ⟨κ.1, κ.2, hκ.1, hκ.2, rfl, rfl⟩
  · exact ⟨⟨fun h => ⟨rfl, Nat.zero_le _⟩, Nat.le_refl _, lt16 (by first | exact Re1.plain rfl | exact Re1.ptr rfl | exact Re1.slice rfl) (by first | exact Re1.plain rfl | exact Re1.ptr rfl | exact Re1.slice rfl) (by first | exact Re1.plain rfl | exact Re1.ptr rfl | exact Re1.slice rfl) (by first | exact Re1.plain rfl | exact Re1.ptr rfl | exact Re1.slice rfl) (by first | exact Re1.plain rfl | exact Re1.ptr rfl | exact Re1.slice rfl) (by first | exact Re1.plain rfl | exact Re1.ptr rfl | exact Re1.slice rfl) (by first | exact Re1.plain rfl | exact Re1.ptr rfl | exact Re1.slice rfl) (by first | exact Re1.plain rfl | exact Re1.ptr rfl | exact Re1.slice rfl) (by first | exact Re1.plain rfl | exact Re1.ptr rfl | exact Re1.slice rfl) (by first | exact Re1.plain rfl | exact Re1.ptr rfl | exact Re1.slice rfl) (by first | exact Re1.plain rfl | exact Re1.ptr rfl | exact Re1.slice rfl) (by first | exact Re1.plain rfl | exact Re1.ptr rfl | exact Re1.slice rfl) (by first | exact Re1.plain rfl | exact Re1.ptr rfl | exact Re1.slice rfl) (by first | exact Re1.plain rfl | exact Re1.ptr rfl | exact Re1.slice rfl) (by first | exact Re1.plain rfl | exact Re1.ptr rfl | exact Re1.slice rfl) (by first | exact Re1.plain rfl | exact Re1.ptr rfl | exact Re1.slice rfl)⟩, ⟨fun h => (by cases h), Nat.le_refl _, wcc_re rfl rfl⟩, ⟨fun h => (by cases h), Nat.le_refl _, ptP_re⟩, ⟨fun h => (by cases h), Nat.le_refl _, mvP_re⟩, ⟨fun h => (by cases h), Nat.le_refl _, on_re⟩, ⟨fun h => (by cases h), Nat.zero_le _, fun j hj => absurd hj (Nat.not_lt_zero j)⟩, ⟨fun h => ⟨rfl, Nat.zero_le _⟩, Nat.le_refl _, fun j hj => absurd hj (Nat.not_lt_zero j)⟩, ⟨fun h => ⟨rfl, Nat.zero_le _⟩, Nat.le_refl _, fun j hj => absurd hj (Nat.not_lt_zero j)⟩, ⟨fun h => (by cases h), Nat.le_refl _, lt16 (.plain rfl) (.plain rfl) (.plain rfl) (.plain rfl) (.plain rfl) (.plain rfl) (.plain rfl) (.plain rfl) (.plain rfl) (.plain rfl) (.plain rfl) (.plain rfl) (.plain rfl) (.plain rfl) (.plain rfl) (.plain rfl)⟩, trivial⟩
  · exact fun κ _ => ⟨⟨fun h => ⟨rfl, Nat.le_refl _⟩, Nat.le_refl _, lt16 (by first | exact Re1.plain rfl | exact Re1.ptr rfl | exact Re1.slice rfl) (by first | exact Re1.plain rfl | exact Re1.ptr rfl | exact Re1.slice rfl) (by first | exact Re1.plain rfl | exact Re1.ptr rfl | exact Re1.slice rfl) (by first | exact Re1.plain rfl | exact Re1.ptr rfl | exact Re1.slice rfl) (by first | exact Re1.plain rfl | exact Re1.ptr rfl | exact Re1.slice rfl) (by first | exact Re1.plain rfl | exact Re1.ptr rfl | exact Re1.slice rfl) (by first | exact Re1.plain rfl | exact Re1.ptr rfl | exact Re1.slice rfl) (by first | exact Re1.plain rfl | exact Re1.ptr rfl | exact Re1.slice rfl) (by first | exact Re1.plain rfl | exact Re1.ptr rfl | exact Re1.slice rfl) (by first | exact Re1.plain rfl | exact Re1.ptr rfl | exact Re1.slice rfl) (by first | exact Re1.plain rfl | exact Re1.ptr rfl | exact Re1.slice rfl) (by first | exact Re1.plain rfl | exact Re1.ptr rfl | exact Re1.slice rfl) (by first | exact Re1.plain rfl | exact Re1.ptr rfl | exact Re1.slice rfl) (by first | exact Re1.plain rfl | exact Re1.ptr rfl | exact Re1.slice rfl) (by first | exact Re1.plain rfl | exact Re1.ptr rfl | exact Re1.slice rfl) (by first | exact Re1.plain rfl | exact Re1.ptr rfl | exact Re1.slice rfl)⟩, ⟨fun h => (by cases h), Nat.le_refl _, wcc_re rfl rfl⟩, ⟨fun h => (by cases h), Nat.le_refl _, ptP_re⟩, ⟨fun h => (by cases h), Nat.le_refl _, mvP_re⟩, ⟨fun h => (by cases h), Nat.le_refl _, on_re⟩, ⟨fun h => (by cases h), Nat.zero_le _, fun j hj => absurd hj (Nat.not_lt_zero j)⟩, ⟨fun h => ⟨rfl, Nat.le_refl _⟩, Nat.le_refl _, fun j hj => absurd hj (Nat.not_lt_zero j)⟩, ⟨fun h => ⟨rfl, Nat.le_refl _⟩, Nat.le_refl _, fun j hj => absurd hj (Nat.not_lt_zero j)⟩, ⟨fun h => (by cases h), Nat.le_refl _, lt16 (.plain rfl) (.plain rfl) (.plain rfl) (.plain rfl) (.plain rfl) (.plain rfl) (.plain rfl) (.plain rfl) (.plain rfl) (.plain rfl) (.plain rfl) (.plain rfl) (.plain rfl) (.plain rfl) (.plain rfl) (.plain rfl)⟩, trivial⟩
  · simp only [List.nodup_cons, List.mem_cons, List.not_mem_nil, or_false, not_or, List.nodup_nil, and_true, not_false_eq_true] at hne
    obtain ⟨⟨n01, n02, n03, n04, n05, n06, n07, n08⟩, ⟨n12, n13, n14, n15, n16, n17, n18⟩, ⟨n23, n24, n25, n26, n27, n28⟩, ⟨n34, n35, n36, n37, n38⟩, ⟨n45, n46, n47, n48⟩, ⟨n56, n57, n58⟩, ⟨n67, n68⟩, n78⟩ := hne
    simp [Apart, *]
  · exact ⟨.inl rfl, .inl rfl, .inl rfl, .inl rfl, .inl rfl, .inl rfl, .inr ⟨rfl, rfl⟩, .inr ⟨rfl, rfl⟩, .inl rfl, trivial⟩
  · exact fun κ _ => trivial
  · exact ⟨.ptr rfl, .plain rfl, .slice rfl, .plain rfl, trivial⟩
  rintro ⟨⟩ -
  repeat' (refine N.go ?_; first | fail)
  refine N.go ?_
  refine N.loopR (α := Option (List Ml × List By)) (fun o => match o with
    | none => True
    | some κ => AirA W κ.2 κ.1 (sendA i on (mkA C P (encB k s b q st' ds t1 t2 wh wn x y a c d) i g) (A, lost) n).1 ∧ ∀ e, e ∈ F → e ∈ κ.2) (fun o => match o with
    | none => 1
    | some κ => 0) (fun o => match o with
    | none => [(16, .int .i64 0)]
    | some κ => [(16, .int .i64 1)]) (fun o => match o with
    | none => []
    | some κ => [(0, flC C n 1 6 4 (.slice (some ⟨5, 0, some 0⟩) n cap) (sendA i on (mkA C P (encB k s b q st' ds t1 t2 wh wn x y a c d) i g) (A, lost) n).2), (6, airP κ.1), (7, memC W κ.2)]) none [(0, 0), (1, 1), (2, 2), (3, 3), (4, 4), (5, 5), (6, 6), (7, 7), (8, 8)] trivial ?_ ?_
  · repeat' (refine N.go ?_; first | exact N.true | refine N.obl (.plain (by rfl)) ?_ | refine N.obl (.one (.ptr rfl)) ?_ | refine N.obl (.one (.slice rfl)) ?_ | refine N.obl (@ChunkReLe.mk _ _ _ ⟨.inr rfl⟩ id (Nat.le_refl _) (fun j hj => absurd hj (Nat.not_lt_zero j))) ?_ | refine N.obl ⟨id, Nat.le_refl _, lt16 (by first | exact Re1.plain rfl | exact Re1.ptr rfl | exact Re1.slice rfl) (by first | exact Re1.plain rfl | exact Re1.ptr rfl | exact Re1.slice rfl) (by first | exact Re1.plain rfl | exact Re1.ptr rfl | exact Re1.slice rfl) (by first | exact Re1.plain rfl | exact Re1.ptr rfl | exact Re1.slice rfl) (by first | exact Re1.plain rfl | exact Re1.ptr rfl | exact Re1.slice rfl) (by first | exact Re1.plain rfl | exact Re1.ptr rfl | exact Re1.slice rfl) (by first | exact Re1.plain rfl | exact Re1.ptr rfl | exact Re1.slice rfl) (by first | exact Re1.plain rfl | exact Re1.ptr rfl | exact Re1.slice rfl) (by first | exact Re1.plain rfl | exact Re1.ptr rfl | exact Re1.slice rfl) (by first | exact Re1.plain rfl | exact Re1.ptr rfl | exact Re1.slice rfl) (by first | exact Re1.plain rfl | exact Re1.ptr rfl | exact Re1.slice rfl) (by first | exact Re1.plain rfl | exact Re1.ptr rfl | exact Re1.slice rfl) (by first | exact Re1.plain rfl | exact Re1.ptr rfl | exact Re1.slice rfl) (by first | exact Re1.plain rfl | exact Re1.ptr rfl | exact Re1.slice rfl) (by first | exact Re1.plain rfl | exact Re1.ptr rfl | exact Re1.slice rfl) (by first | exact Re1.plain rfl | exact Re1.ptr rfl | exact Re1.slice rfl)⟩ ?_ | refine N.obl ⟨id, Nat.le_refl _, lt15 (by first | exact Re1.plain rfl | exact Re1.ptr rfl | exact Re1.slice rfl) (by first | exact Re1.plain rfl | exact Re1.ptr rfl | exact Re1.slice rfl) (by first | exact Re1.plain rfl | exact Re1.ptr rfl | exact Re1.slice rfl) (by first | exact Re1.plain rfl | exact Re1.ptr rfl | exact Re1.slice rfl) (by first | exact Re1.plain rfl | exact Re1.ptr rfl | exact Re1.slice rfl) (by first | exact Re1.plain rfl | exact Re1.ptr rfl | exact Re1.slice rfl) (by first | exact Re1.plain rfl | exact Re1.ptr rfl | exact Re1.slice rfl) (by first | exact Re1.plain rfl | exact Re1.ptr rfl | exact Re1.slice rfl) (by first | exact Re1.plain rfl | exact Re1.ptr rfl | exact Re1.slice rfl) (by first | exact Re1.plain rfl | exact Re1.ptr rfl | exact Re1.slice rfl) (by first | exact Re1.plain rfl | exact Re1.ptr rfl | exact Re1.slice rfl) (by first | exact Re1.plain rfl | exact Re1.ptr rfl | exact Re1.slice rfl) (by first | exact Re1.plain rfl | exact Re1.ptr rfl | exact Re1.slice rfl) (by first | exact Re1.plain rfl | exact Re1.ptr rfl | exact Re1.slice rfl) (by first | exact Re1.plain rfl | exact Re1.ptr rfl | exact Re1.slice rfl)⟩ ?_ | refine N.obl ⟨id, Nat.le_refl _, ptP_re⟩ ?_ | refine N.obl ⟨id, Nat.le_refl _, mvP_re⟩ ?_ | fail)
  intro o ho
  cases o with
  | some κ =>
    repeat' (refine N.go ?_; first | refine N.forkNo (by decide) ?_ | fail)
    refine N.go ?_
    refine N.endSame ?_
    refine N.some κ ⟨ho, ?_⟩
    repeat' (refine N.go ?_; first | refine N.obl (.tuple trivial) ?_ | refine N.obl ⟨⟨_, rfl, fun h => h, Nat.le_refl _, lt16 (by first | exact Re1.plain rfl | exact Re1.ptr rfl | exact Re1.slice rfl) (by first | exact Re1.plain rfl | exact Re1.ptr rfl | exact Re1.slice rfl) (by first | exact Re1.plain rfl | exact Re1.ptr rfl | exact Re1.slice rfl) (by first | exact Re1.plain rfl | exact Re1.ptr rfl | exact Re1.slice rfl) (by first | exact Re1.plain rfl | exact Re1.ptr rfl | exact Re1.slice rfl) (by first | exact Re1.plain rfl | exact Re1.ptr rfl | exact Re1.slice rfl) (by first | exact Re1.plain rfl | exact Re1.ptr rfl | exact Re1.slice rfl) (by first | exact Re1.plain rfl | exact Re1.ptr rfl | exact Re1.slice rfl) (by first | exact Re1.plain rfl | exact Re1.ptr rfl | exact Re1.slice rfl) (by first | exact Re1.plain rfl | exact Re1.ptr rfl | exact Re1.slice rfl) (by first | exact Re1.plain rfl | exact Re1.ptr rfl | exact Re1.slice rfl) (by first | exact Re1.plain rfl | exact Re1.ptr rfl | exact Re1.slice rfl) (by first | exact Re1.plain rfl | exact Re1.ptr rfl | exact Re1.slice rfl) (by first | exact Re1.plain rfl | exact Re1.ptr rfl | exact Re1.slice rfl) (by first | exact Re1.plain rfl | exact Re1.ptr rfl | exact Re1.slice rfl) (by first | exact Re1.plain rfl | exact Re1.ptr rfl | exact Re1.slice rfl)⟩, ⟨_, rfl, fun h => h, Nat.le_refl _, fun j hj => absurd hj (Nat.not_lt_zero j)⟩, ⟨_, rfl, fun h => h, Nat.le_refl _, fun j hj => absurd hj (Nat.not_lt_zero j)⟩, trivial⟩ ?_ | refine N.obl trivial ?_ | refine N.obl ⟨⟨.inl rfl, .inl rfl, .inl rfl, .inl rfl, .inl rfl, .inl rfl, .inr ⟨_, rfl, rfl⟩, .inr ⟨_, rfl, rfl⟩, .inl rfl, trivial⟩, trivial⟩ ?_ | exact N.true | fail)
  | none =>
    repeat' (refine N.go ?_; first | with_reducible refine N.obl rfl ?_ | refine N.idx 0 0 rfl (by decide) ?_ | refine N.forkYes (by decide) ?_ | fail)
    refine N.go ?_
    refine N.callAll (cEncodeM W F k s b q st' ds t1 t2 wh wn x y a c d hk hs hb hq hst hds ht1 ht2 hwh hwn hx hy ha hc hd hM 7 _ (by rfl)) fun v ms hR => ?_
    obtain ⟨ee, hee, _, rfl, rfl⟩ := hR
    repeat' (refine N.go ?_; first | fail)
    refine N.go ?_
    refine N.loopR (α := Nat × List Ml × List By) (fun zz => zz.1 ≤ n ∧ AirA W zz.2.2 zz.2.1 (sendA i on (mkA C P (encB k s b q st' ds t1 t2 wh wn x y a c d) i g) (A, lost) zz.1).1 ∧ (∀ e, e ∈ F → e ∈ zz.2.2) ∧ Src W zz.2.2 ee.s ee.bs) (fun zz => n - zz.1) (fun zz => [(31, .int .i64 (zz.1 : Int))]) (fun zz => [(0, flC C n 1 6 4 (.slice (some ⟨5, 0, some 0⟩) n cap) (sendA i on (mkA C P (encB k s b q st' ds t1 t2 wh wn x y a c d) i g) (A, lost) zz.1).2), (6, airP zz.2.1), (7, memC W zz.2.2)]) (0, L, ee :: F) [(0, 0), (1, 1), (2, 2), (3, 3), (4, 4), (5, 5), (6, 6), (7, 7), (8, 8), (9, 9)] ⟨Nat.zero_le _, hA.mono mem_mono, mem_mono, .own (List.mem_cons_self ..)⟩ ?_ ?_
    · repeat' (refine N.go ?_; first | exact N.true | refine N.obl (.plain (by rfl)) ?_ | refine N.obl (.one (.ptr rfl)) ?_ | refine N.obl (.one (.slice rfl)) ?_ | refine N.obl (@ChunkReLe.mk _ _ _ ⟨.inr rfl⟩ id (Nat.le_refl _) (fun j hj => absurd hj (Nat.not_lt_zero j))) ?_ | refine N.obl ⟨id, Nat.le_refl _, lt16 (by first | exact Re1.plain rfl | exact Re1.ptr rfl | exact Re1.slice rfl) (by first | exact Re1.plain rfl | exact Re1.ptr rfl | exact Re1.slice rfl) (by first | exact Re1.plain rfl | exact Re1.ptr rfl | exact Re1.slice rfl) (by first | exact Re1.plain rfl | exact Re1.ptr rfl | exact Re1.slice rfl) (by first | exact Re1.plain rfl | exact Re1.ptr rfl | exact Re1.slice rfl) (by first | exact Re1.plain rfl | exact Re1.ptr rfl | exact Re1.slice rfl) (by first | exact Re1.plain rfl | exact Re1.ptr rfl | exact Re1.slice rfl) (by first | exact Re1.plain rfl | exact Re1.ptr rfl | exact Re1.slice rfl) (by first | exact Re1.plain rfl | exact Re1.ptr rfl | exact Re1.slice rfl) (by first | exact Re1.plain rfl | exact Re1.ptr rfl | exact Re1.slice rfl) (by first | exact Re1.plain rfl | exact Re1.ptr rfl | exact Re1.slice rfl) (by first | exact Re1.plain rfl | exact Re1.ptr rfl | exact Re1.slice rfl) (by first | exact Re1.plain rfl | exact Re1.ptr rfl | exact Re1.slice rfl) (by first | exact Re1.plain rfl | exact Re1.ptr rfl | exact Re1.slice rfl) (by first | exact Re1.plain rfl | exact Re1.ptr rfl | exact Re1.slice rfl) (by first | exact Re1.plain rfl | exact Re1.ptr rfl | exact Re1.slice rfl)⟩ ?_ | refine N.obl (.one .quo) ?_ | refine N.obl (.tuple ⟨.quo, .plain rfl, trivial⟩) ?_ | refine N.obl ⟨id, Nat.le_refl _, lt15 (by first | exact Re1.plain rfl | exact Re1.ptr rfl | exact Re1.slice rfl) (by first | exact Re1.plain rfl | exact Re1.ptr rfl | exact Re1.slice rfl) (by first | exact Re1.plain rfl | exact Re1.ptr rfl | exact Re1.slice rfl) (by first | exact Re1.plain rfl | exact Re1.ptr rfl | exact Re1.slice rfl) (by first | exact Re1.plain rfl | exact Re1.ptr rfl | exact Re1.slice rfl) (by first | exact Re1.plain rfl | exact Re1.ptr rfl | exact Re1.slice rfl) (by first | exact Re1.plain rfl | exact Re1.ptr rfl | exact Re1.slice rfl) (by first | exact Re1.plain rfl | exact Re1.ptr rfl | exact Re1.slice rfl) (by first | exact Re1.plain rfl | exact Re1.ptr rfl | exact Re1.slice rfl) (by first | exact Re1.plain rfl | exact Re1.ptr rfl | exact Re1.slice rfl) (by first | exact Re1.plain rfl | exact Re1.ptr rfl | exact Re1.slice rfl) (by first | exact Re1.plain rfl | exact Re1.ptr rfl | exact Re1.slice rfl) (by first | exact Re1.plain rfl | exact Re1.ptr rfl | exact Re1.slice rfl) (by first | exact Re1.plain rfl | exact Re1.ptr rfl | exact Re1.slice rfl) (by first | exact Re1.plain rfl | exact Re1.ptr rfl | exact Re1.slice rfl)⟩ ?_ | refine N.obl ⟨id, Nat.le_refl _, ptP_re⟩ ?_ | refine N.obl ⟨id, Nat.le_refl _, mvP_re⟩ ?_ | fail)
    rintro ⟨j, L', F'⟩ ⟨hj, hA', hF', hsrc⟩
    by_cases hjn : j < n
    · have ej : ((j + 1 : Nat) : Int) = IntKind.i64.wrap ((j : Int) + 1) := by rw [i64s _ (by omega) (by omega)]; omega
      repeat' (refine N.go ?_; first | refine N.forkYes (decide_eq_true (by omega)) ?_ | fail)
      by_cases e : j = i
      · have hS : sendA i on (mkA C P (encB k s b q st' ds t1 t2 wh wn x y a c d) i g) (A, lost) (j + 1) = sendA i on (mkA C P (encB k s b q st' ds t1 t2 wh wn x y a c d) i g) (A, lost) j := if_pos (.inl e)
        have hS2 : (sendA i on (mkA C P (encB k s b q st' ds t1 t2 wh wn x y a c d) i g) (A, lost) (j + 1)).2 = (sendA i on (mkA C P (encB k s b q st' ds t1 t2 wh wn x y a c d) i g) (A, lost) j).2 := by rw [hS]
        repeat' (refine N.go ?_; first | with_reducible refine N.forkT ?_ | refine N.forkYes (beq_iff_eq.2 (by omega)) ?_ | fail)
        refine N.go ?_
        refine N.nextR (α := Nat × List Ml × List By) (j + 1, L', F') [(0, 0), (1, 1), (2, 2), (3, 3), (4, 4), (5, 5), (6, 6), (7, 7), (8, 8), (9, 9)] ⟨⟨hjn, by show AirA W F' L' (sendA i on (mkA C P (encB k s b q st' ds t1 t2 wh wn x y a c d) i g) (A, lost) (j + 1)).1; rw [hS]; exact hA', hF', hsrc⟩, by show n - (j + 1) < n - j; omega⟩ ?_
        repeat' (refine N.go ?_; first | exact N.true | refine N.obl (.plain (by rfl)) ?_ | refine N.obl (.one (.ptr rfl)) ?_ | refine N.obl (.one (.slice rfl)) ?_ | refine N.obl (@ChunkReLe.mk _ _ _ ⟨.inr rfl⟩ id (Nat.le_refl _) (fun j hj => absurd hj (Nat.not_lt_zero j))) ?_ | refine N.obl ⟨id, Nat.le_refl _, lt16 (by first | exact Re1.plain rfl | exact Re1.ptr rfl | exact Re1.slice rfl) (by first | exact Re1.plain rfl | exact Re1.ptr rfl | exact Re1.slice rfl) (by first | exact Re1.plain rfl | exact Re1.ptr rfl | exact Re1.slice rfl) (by first | exact Re1.plain rfl | exact Re1.ptr rfl | exact Re1.slice rfl) (by first | exact Re1.plain rfl | exact Re1.ptr rfl | exact Re1.slice rfl) (by first | exact Re1.plain rfl | exact Re1.ptr rfl | exact Re1.slice rfl) (by first | exact Re1.plain rfl | exact Re1.ptr rfl | exact Re1.slice rfl) (by first | exact Re1.plain rfl | exact Re1.ptr rfl | exact Re1.slice rfl) (by first | exact Re1.plain rfl | exact Re1.ptr rfl | exact Re1.slice rfl) (by first | exact Re1.plain rfl | exact Re1.ptr rfl | exact Re1.slice rfl) (by first | exact Re1.plain rfl | exact Re1.ptr rfl | exact Re1.slice rfl) (by first | exact Re1.plain rfl | exact Re1.ptr rfl | exact Re1.slice rfl) (by first | exact Re1.plain rfl | exact Re1.ptr rfl | exact Re1.slice rfl) (by first | exact Re1.plain rfl | exact Re1.ptr rfl | exact Re1.slice rfl) (by first | exact Re1.plain rfl | exact Re1.ptr rfl | exact Re1.slice rfl) (by first | exact Re1.plain rfl | exact Re1.ptr rfl | exact Re1.slice rfl)⟩ ?_ | refine N.obl ⟨id, Nat.le_refl _, lt16 (by first | exact Re1.plain rfl | exact Re1.ptr rfl | exact Re1.slice rfl) (by first | exact Re1.plain rfl | exact Re1.ptr rfl | exact Re1.slice rfl) (by first | exact Re1.plain rfl | exact Re1.ptr rfl | exact Re1.slice rfl) (by first | exact Re1.plain rfl | exact Re1.ptr rfl | exact Re1.slice rfl) (by first | exact Re1.plain rfl | exact Re1.ptr rfl | exact Re1.slice rfl) (by first | exact Re1.plain rfl | exact Re1.ptr rfl | exact Re1.slice rfl) (by first | exact Re1.plain rfl | exact Re1.ptr rfl | exact Re1.slice rfl) (by first | exact Re1.plain rfl | exact Re1.ptr rfl | exact Re1.slice rfl) (by first | exact Re1.plain rfl | exact Re1.ptr rfl | exact Re1.slice rfl) (by first | exact Re1.plain rfl | exact Re1.ptr rfl | exact Re1.slice rfl) (by first | exact Re1.plain rfl | exact Re1.ptr rfl | exact Re1.slice rfl) (by first | exact Re1.plain rfl | exact Re1.ptr rfl | exact Re1.slice rfl) (by first | exact Re1.plain rfl | exact Re1.ptr rfl | exact Re1.slice rfl) (by first | exact Re1.plain rfl | exact Re1.ptr rfl | exact Re1.slice rfl) (by first | exact Re1.plain rfl | exact Re1.ptr rfl | exact Re1.slice rfl) (re1_intE hS2)⟩ ?_ | refine N.obl (reF_eqn (intF_eqn ej) rfl) ?_ | refine N.obl (.one .quo) ?_ | refine N.obl (.tuple ⟨.quo, .plain rfl, trivial⟩) ?_ | refine N.obl ⟨id, Nat.le_refl _, lt15 (by first | exact Re1.plain rfl | exact Re1.ptr rfl | exact Re1.slice rfl) (by first | exact Re1.plain rfl | exact Re1.ptr rfl | exact Re1.slice rfl) (by first | exact Re1.plain rfl | exact Re1.ptr rfl | exact Re1.slice rfl) (by first | exact Re1.plain rfl | exact Re1.ptr rfl | exact Re1.slice rfl) (by first | exact Re1.plain rfl | exact Re1.ptr rfl | exact Re1.slice rfl) (by first | exact Re1.plain rfl | exact Re1.ptr rfl | exact Re1.slice rfl) (by first | exact Re1.plain rfl | exact Re1.ptr rfl | exact Re1.slice rfl) (by first | exact Re1.plain rfl | exact Re1.ptr rfl | exact Re1.slice rfl) (by first | exact Re1.plain rfl | exact Re1.ptr rfl | exact Re1.slice rfl) (by first | exact Re1.plain rfl | exact Re1.ptr rfl | exact Re1.slice rfl) (by first | exact Re1.plain rfl | exact Re1.ptr rfl | exact Re1.slice rfl) (by first | exact Re1.plain rfl | exact Re1.ptr rfl | exact Re1.slice rfl) (by first | exact Re1.plain rfl | exact Re1.ptr rfl | exact Re1.slice rfl) (by first | exact Re1.plain rfl | exact Re1.ptr rfl | exact Re1.slice rfl) (by first | exact Re1.plain rfl | exact Re1.ptr rfl | exact Re1.slice rfl)⟩ ?_ | refine N.obl ⟨id, Nat.le_refl _, ptP_re⟩ ?_ | refine N.obl ⟨id, Nat.le_refl _, mvP_re⟩ ?_ | fail)
      by_cases eo : on j = false
      · have hS : sendA i on (mkA C P (encB k s b q st' ds t1 t2 wh wn x y a c d) i g) (A, lost) (j + 1) = sendA i on (mkA C P (encB k s b q st' ds t1 t2 wh wn x y a c d) i g) (A, lost) j := if_pos (.inr eo)
        have hS2 : (sendA i on (mkA C P (encB k s b q st' ds t1 t2 wh wn x y a c d) i g) (A, lost) (j + 1)).2 = (sendA i on (mkA C P (encB k s b q st' ds t1 t2 wh wn x y a c d) i g) (A, lost) j).2 := by rw [hS]
        repeat' (refine N.go ?_; first | with_reducible refine N.forkF ?_ | refine N.forkNo (beq_eq_false_iff_ne.2 (by omega)) ?_ | refine N.idx j 1 rfl hjn ?_ | refine N.load _ (reads_seg1 hjn rfl rfl) ?_ | refine N.forkYes (by rw [eo]; rfl) ?_ | fail)
        refine N.go ?_
        refine N.nextR (α := Nat × List Ml × List By) (j + 1, L', F') [(0, 0), (1, 1), (2, 2), (3, 3), (4, 4), (5, 5), (6, 6), (7, 7), (8, 8), (9, 9)] ⟨⟨hjn, by show AirA W F' L' (sendA i on (mkA C P (encB k s b q st' ds t1 t2 wh wn x y a c d) i g) (A, lost) (j + 1)).1; rw [hS]; exact hA', hF', hsrc⟩, by show n - (j + 1) < n - j; omega⟩ ?_
        repeat' (refine N.go ?_; first | exact N.true | refine N.obl (.plain (by rfl)) ?_ | refine N.obl (.one (.ptr rfl)) ?_ | refine N.obl (.one (.slice rfl)) ?_ | refine N.obl (@ChunkReLe.mk _ _ _ ⟨.inr rfl⟩ id (Nat.le_refl _) (fun j hj => absurd hj (Nat.not_lt_zero j))) ?_ | refine N.obl ⟨id, Nat.le_refl _, lt16 (by first | exact Re1.plain rfl | exact Re1.ptr rfl | exact Re1.slice rfl) (by first | exact Re1.plain rfl | exact Re1.ptr rfl | exact Re1.slice rfl) (by first | exact Re1.plain rfl | exact Re1.ptr rfl | exact Re1.slice rfl) (by first | exact Re1.plain rfl | exact Re1.ptr rfl | exact Re1.slice rfl) (by first | exact Re1.plain rfl | exact Re1.ptr rfl | exact Re1.slice rfl) (by first | exact Re1.plain rfl | exact Re1.ptr rfl | exact Re1.slice rfl) (by first | exact Re1.plain rfl | exact Re1.ptr rfl | exact Re1.slice rfl) (by first | exact Re1.plain rfl | exact Re1.ptr rfl | exact Re1.slice rfl) (by first | exact Re1.plain rfl | exact Re1.ptr rfl | exact Re1.slice rfl) (by first | exact Re1.plain rfl | exact Re1.ptr rfl | exact Re1.slice rfl) (by first | exact Re1.plain rfl | exact Re1.ptr rfl | exact Re1.slice rfl) (by first | exact Re1.plain rfl | exact Re1.ptr rfl | exact Re1.slice rfl) (by first | exact Re1.plain rfl | exact Re1.ptr rfl | exact Re1.slice rfl) (by first | exact Re1.plain rfl | exact Re1.ptr rfl | exact Re1.slice rfl) (by first | exact Re1.plain rfl | exact Re1.ptr rfl | exact Re1.slice rfl) (by first | exact Re1.plain rfl | exact Re1.ptr rfl | exact Re1.slice rfl)⟩ ?_ | refine N.obl ⟨id, Nat.le_refl _, lt16 (by first | exact Re1.plain rfl | exact Re1.ptr rfl | exact Re1.slice rfl) (by first | exact Re1.plain rfl | exact Re1.ptr rfl | exact Re1.slice rfl) (by first | exact Re1.plain rfl | exact Re1.ptr rfl | exact Re1.slice rfl) (by first | exact Re1.plain rfl | exact Re1.ptr rfl | exact Re1.slice rfl) (by first | exact Re1.plain rfl | exact Re1.ptr rfl | exact Re1.slice rfl) (by first | exact Re1.plain rfl | exact Re1.ptr rfl | exact Re1.slice rfl) (by first | exact Re1.plain rfl | exact Re1.ptr rfl | exact Re1.slice rfl) (by first | exact Re1.plain rfl | exact Re1.ptr rfl | exact Re1.slice rfl) (by first | exact Re1.plain rfl | exact Re1.ptr rfl | exact Re1.slice rfl) (by first | exact Re1.plain rfl | exact Re1.ptr rfl | exact Re1.slice rfl) (by first | exact Re1.plain rfl | exact Re1.ptr rfl | exact Re1.slice rfl) (by first | exact Re1.plain rfl | exact Re1.ptr rfl | exact Re1.slice rfl) (by first | exact Re1.plain rfl | exact Re1.ptr rfl | exact Re1.slice rfl) (by first | exact Re1.plain rfl | exact Re1.ptr rfl | exact Re1.slice rfl) (by first | exact Re1.plain rfl | exact Re1.ptr rfl | exact Re1.slice rfl) (re1_intE hS2)⟩ ?_ | refine N.obl (reF_eqn (intF_eqn ej) rfl) ?_ | refine N.obl (.one .quo) ?_ | refine N.obl (.tuple ⟨.quo, .plain rfl, trivial⟩) ?_ | refine N.obl ⟨id, Nat.le_refl _, lt15 (by first | exact Re1.plain rfl | exact Re1.ptr rfl | exact Re1.slice rfl) (by first | exact Re1.plain rfl | exact Re1.ptr rfl | exact Re1.slice rfl) (by first | exact Re1.plain rfl | exact Re1.ptr rfl | exact Re1.slice rfl) (by first | exact Re1.plain rfl | exact Re1.ptr rfl | exact Re1.slice rfl) (by first | exact Re1.plain rfl | exact Re1.ptr rfl | exact Re1.slice rfl) (by first | exact Re1.plain rfl | exact Re1.ptr rfl | exact Re1.slice rfl) (by first | exact Re1.plain rfl | exact Re1.ptr rfl | exact Re1.slice rfl) (by first | exact Re1.plain rfl | exact Re1.ptr rfl | exact Re1.slice rfl) (by first | exact Re1.plain rfl | exact Re1.ptr rfl | exact Re1.slice rfl) (by first | exact Re1.plain rfl | exact Re1.ptr rfl | exact Re1.slice rfl) (by first | exact Re1.plain rfl | exact Re1.ptr rfl | exact Re1.slice rfl) (by first | exact Re1.plain rfl | exact Re1.ptr rfl | exact Re1.slice rfl) (by first | exact Re1.plain rfl | exact Re1.ptr rfl | exact Re1.slice rfl) (by first | exact Re1.plain rfl | exact Re1.ptr rfl | exact Re1.slice rfl) (by first | exact Re1.plain rfl | exact Re1.ptr rfl | exact Re1.slice rfl)⟩ ?_ | refine N.obl ⟨id, Nat.le_refl _, ptP_re⟩ ?_ | refine N.obl ⟨id, Nat.le_refl _, mvP_re⟩ ?_ | fail)
      have eo2 : on j = true := by cases h : on j <;> first | rfl | exact absurd h eo
      have hS : sendA i on (mkA C P (encB k s b q st' ds t1 t2 wh wn x y a c d) i g) (A, lost) (j + 1) = putA (sendA i on (mkA C P (encB k s b q st' ds t1 t2 wh wn x y a c d) i g) (A, lost) j) (mkA C P (encB k s b q st' ds t1 t2 wh wn x y a c d) i g j) := if_neg (fun h => h.elim e eo)
      have hlen := hA'.len
      repeat' (refine N.go ?_; first | with_reducible refine N.forkF ?_ | refine N.forkNo (beq_eq_false_iff_ne.2 (by omega)) ?_ | refine N.idx j 1 rfl hjn ?_ | refine N.load _ (reads_seg1 hjn rfl rfl) ?_ | refine N.forkNo (by rw [eo2]; rfl) ?_ | refine N.call (cFlightY C n wc 1 2 3 P M tm st false false false i j _ (by rfl) (by rfl) (by rfl) hi hjn) ?_ | fail)
      refine N.go ?_
      refine N.altP ?_
      refine N.go ?_
      refine N.plan [0, 1, 2, 3, 4, 5, 6, 7, 8, 9, 10, 11, 12, 13, 14] [(15, [16])] (by kernel_rfl) ?_
      repeat' (refine N.go ?_; first | refine N.call (cTFineY C n wc 1 2 3 P M tm st false false false j _ _ (by rfl) (by rfl) (by rfl) hjn hn.2 h5) ?_ | fail)
      refine N.go ?_
      by_cases hroom : L'.length < 512
      · refine N_callQ [6, 7] _ (by show midB _ _ _ _ = Bool.true; kernel_rfl) (fun h₂ hh => cPutM W F' L' _ _ _ _ ee.s ee.bs 6 7 (by decide) h₂ ((hh 6 (by simp)).trans rfl) ((hh 7 (by simp)).trans rfl) hsrc (by rw [hee]; exact encB_len) hroom) fun v ms hR => ?_
        obtain ⟨u2, F2, hmade, rfl, rfl⟩ := hR
        refine ⟨by simp, ?_⟩
        have hP : putA (sendA i on (mkA C P (encB k s b q st' ds t1 t2 wh wn x y a c d) i g) (A, lost) j) (mkA C P (encB k s b q st' ds t1 t2 wh wn x y a c d) i g j) = ((sendA i on (mkA C P (encB k s b q st' ds t1 t2 wh wn x y a c d) i g) (A, lost) j).1 ++ [mkA C P (encB k s b q st' ds t1 t2 wh wn x y a c d) i g j], (sendA i on (mkA C P (encB k s b q st' ds t1 t2 wh wn x y a c d) i g) (A, lost) j).2) := if_pos (by rw [← hlen]; exact hroom)
        have hS2 : (sendA i on (mkA C P (encB k s b q st' ds t1 t2 wh wn x y a c d) i g) (A, lost) (j + 1)).2 = (sendA i on (mkA C P (encB k s b q st' ds t1 t2 wh wn x y a c d) i g) (A, lost) j).2 := by rw [hS, hP]
        repeat' (refine N.go ?_; first | with_reducible refine N.obl (by decide) ?_ | refine N.forkNo (by decide) ?_ | fail)
        refine N.go ?_
        refine N.nextR (α := Nat × List Ml × List By) (j + 1, L' ++ [⟨(j : Int), u2, fiA C j (trA P i g j), trA P i g j, false⟩], F2) [(0, 0), (1, 1), (2, 2), (3, 3), (4, 4), (5, 5), (6, 6), (7, 7), (8, 8), (9, 9)] ⟨⟨hjn, by show AirA W F2 _ (sendA i on (mkA C P (encB k s b q st' ds t1 t2 wh wn x y a c d) i g) (A, lost) (j + 1)).1; rw [hS, hP]; exact (hA'.mono (made_mono hmade)).snoc ⟨rfl, rfl, rfl, rfl, by show Own F2 u2 (encB k s b q st' ds t1 t2 wh wn x y a c d); rw [← hee]; exact made_own hmade, encB_len⟩, fun e h => made_mono hmade e (hF' e h), hsrc.more hmade.sub⟩, by show n - (j + 1) < n - j; omega⟩ ?_
        repeat' (refine N.go ?_; first | exact N.true | refine N.obl (.plain (by rfl)) ?_ | refine N.obl (.one (.ptr rfl)) ?_ | refine N.obl (.one (.slice rfl)) ?_ | refine N.obl (@ChunkReLe.mk _ _ _ ⟨.inr rfl⟩ id (Nat.le_refl _) (fun j hj => absurd hj (Nat.not_lt_zero j))) ?_ | refine N.obl ⟨id, Nat.le_refl _, lt16 (by first | exact Re1.plain rfl | exact Re1.ptr rfl | exact Re1.slice rfl) (by first | exact Re1.plain rfl | exact Re1.ptr rfl | exact Re1.slice rfl) (by first | exact Re1.plain rfl | exact Re1.ptr rfl | exact Re1.slice rfl) (by first | exact Re1.plain rfl | exact Re1.ptr rfl | exact Re1.slice rfl) (by first | exact Re1.plain rfl | exact Re1.ptr rfl | exact Re1.slice rfl) (by first | exact Re1.plain rfl | exact Re1.ptr rfl | exact Re1.slice rfl) (by first | exact Re1.plain rfl | exact Re1.ptr rfl | exact Re1.slice rfl) (by first | exact Re1.plain rfl | exact Re1.ptr rfl | exact Re1.slice rfl) (by first | exact Re1.plain rfl | exact Re1.ptr rfl | exact Re1.slice rfl) (by first | exact Re1.plain rfl | exact Re1.ptr rfl | exact Re1.slice rfl) (by first | exact Re1.plain rfl | exact Re1.ptr rfl | exact Re1.slice rfl) (by first | exact Re1.plain rfl | exact Re1.ptr rfl | exact Re1.slice rfl) (by first | exact Re1.plain rfl | exact Re1.ptr rfl | exact Re1.slice rfl) (by first | exact Re1.plain rfl | exact Re1.ptr rfl | exact Re1.slice rfl) (by first | exact Re1.plain rfl | exact Re1.ptr rfl | exact Re1.slice rfl) (by first | exact Re1.plain rfl | exact Re1.ptr rfl | exact Re1.slice rfl)⟩ ?_ | refine N.obl ⟨id, Nat.le_refl _, lt16 (by first | exact Re1.plain rfl | exact Re1.ptr rfl | exact Re1.slice rfl) (by first | exact Re1.plain rfl | exact Re1.ptr rfl | exact Re1.slice rfl) (by first | exact Re1.plain rfl | exact Re1.ptr rfl | exact Re1.slice rfl) (by first | exact Re1.plain rfl | exact Re1.ptr rfl | exact Re1.slice rfl) (by first | exact Re1.plain rfl | exact Re1.ptr rfl | exact Re1.slice rfl) (by first | exact Re1.plain rfl | exact Re1.ptr rfl | exact Re1.slice rfl) (by first | exact Re1.plain rfl | exact Re1.ptr rfl | exact Re1.slice rfl) (by first | exact Re1.plain rfl | exact Re1.ptr rfl | exact Re1.slice rfl) (by first | exact Re1.plain rfl | exact Re1.ptr rfl | exact Re1.slice rfl) (by first | exact Re1.plain rfl | exact Re1.ptr rfl | exact Re1.slice rfl) (by first | exact Re1.plain rfl | exact Re1.ptr rfl | exact Re1.slice rfl) (by first | exact Re1.plain rfl | exact Re1.ptr rfl | exact Re1.slice rfl) (by first | exact Re1.plain rfl | exact Re1.ptr rfl | exact Re1.slice rfl) (by first | exact Re1.plain rfl | exact Re1.ptr rfl | exact Re1.slice rfl) (by first | exact Re1.plain rfl | exact Re1.ptr rfl | exact Re1.slice rfl) (re1_intE hS2)⟩ ?_ | refine N.obl (reF_eqn (intF_eqn ej) rfl) ?_ | refine N.obl (.one .quo) ?_ | refine N.obl (.tuple ⟨.quo, .plain rfl, trivial⟩) ?_ | refine N.obl ⟨id, Nat.le_refl _, lt15 (by first | exact Re1.plain rfl | exact Re1.ptr rfl | exact Re1.slice rfl) (by first | exact Re1.plain rfl | exact Re1.ptr rfl | exact Re1.slice rfl) (by first | exact Re1.plain rfl | exact Re1.ptr rfl | exact Re1.slice rfl) (by first | exact Re1.plain rfl | exact Re1.ptr rfl | exact Re1.slice rfl) (by first | exact Re1.plain rfl | exact Re1.ptr rfl | exact Re1.slice rfl) (by first | exact Re1.plain rfl | exact Re1.ptr rfl | exact Re1.slice rfl) (by first | exact Re1.plain rfl | exact Re1.ptr rfl | exact Re1.slice rfl) (by first | exact Re1.plain rfl | exact Re1.ptr rfl | exact Re1.slice rfl) (by first | exact Re1.plain rfl | exact Re1.ptr rfl | exact Re1.slice rfl) (by first | exact Re1.plain rfl | exact Re1.ptr rfl | exact Re1.slice rfl) (by first | exact Re1.plain rfl | exact Re1.ptr rfl | exact Re1.slice rfl) (by first | exact Re1.plain rfl | exact Re1.ptr rfl | exact Re1.slice rfl) (by first | exact Re1.plain rfl | exact Re1.ptr rfl | exact Re1.slice rfl) (by first | exact Re1.plain rfl | exact Re1.ptr rfl | exact Re1.slice rfl) (by first | exact Re1.plain rfl | exact Re1.ptr rfl | exact Re1.slice rfl)⟩ ?_ | refine N.obl ⟨id, Nat.le_refl _, ptP_re⟩ ?_ | refine N.obl ⟨id, Nat.le_refl _, mvP_re⟩ ?_ | fail)
      · refine N_callQ [6] _ (by show midB _ _ _ _ = Bool.true; kernel_rfl) (fun h₂ hh => callOK_all (cPutFull L' _ _ _ _ ee.s (by omega) 6 h₂ ((hh 6 (by simp)).trans rfl))) fun v ms hR => ?_
        obtain ⟨rfl, rfl⟩ := hR
        refine ⟨by simp, ?_⟩
        have hl2 := sendA_lost i on (mkA C P (encB k s b q st' ds t1 t2 wh wn x y a c d) i g) (A, lost) hl j
        have hP : putA (sendA i on (mkA C P (encB k s b q st' ds t1 t2 wh wn x y a c d) i g) (A, lost) j) (mkA C P (encB k s b q st' ds t1 t2 wh wn x y a c d) i g j) = ((sendA i on (mkA C P (encB k s b q st' ds t1 t2 wh wn x y a c d) i g) (A, lost) j).1, min ((sendA i on (mkA C P (encB k s b q st' ds t1 t2 wh wn x y a c d) i g) (A, lost) j).2 + 1) 1000000) := if_neg (by rw [← hlen]; exact hroom)
        have hS2 : (sendA i on (mkA C P (encB k s b q st' ds t1 t2 wh wn x y a c d) i g) (A, lost) (j + 1)).2 = min (IntKind.i64.wrap ((sendA i on (mkA C P (encB k s b q st' ds t1 t2 wh wn x y a c d) i g) (A, lost) j).2 + 1)) 1000000 := by rw [hS, hP, i64s _ (by omega) (by omega)]
        repeat' (refine N.go ?_; first | with_reducible refine N.obl (by decide) ?_ | refine N.forkYes (by decide) ?_ | refine N.min2 ?_ | fail)
        refine N.go ?_
        refine N.nextR (α := Nat × List Ml × List By) (j + 1, L', F') [(0, 0), (1, 1), (2, 2), (3, 3), (4, 4), (5, 5), (6, 6), (7, 7), (8, 8), (9, 9)] ⟨⟨hjn, by show AirA W F' L' (sendA i on (mkA C P (encB k s b q st' ds t1 t2 wh wn x y a c d) i g) (A, lost) (j + 1)).1; rw [hS, hP]; exact hA', hF', hsrc⟩, by show n - (j + 1) < n - j; omega⟩ ?_
        repeat' (refine N.go ?_; first | exact N.true | refine N.obl (.plain (by rfl)) ?_ | refine N.obl (.one (.ptr rfl)) ?_ | refine N.obl (.one (.slice rfl)) ?_ | refine N.obl (@ChunkReLe.mk _ _ _ ⟨.inr rfl⟩ id (Nat.le_refl _) (fun j hj => absurd hj (Nat.not_lt_zero j))) ?_ | refine N.obl ⟨id, Nat.le_refl _, lt16 (by first | exact Re1.plain rfl | exact Re1.ptr rfl | exact Re1.slice rfl) (by first | exact Re1.plain rfl | exact Re1.ptr rfl | exact Re1.slice rfl) (by first | exact Re1.plain rfl | exact Re1.ptr rfl | exact Re1.slice rfl) (by first | exact Re1.plain rfl | exact Re1.ptr rfl | exact Re1.slice rfl) (by first | exact Re1.plain rfl | exact Re1.ptr rfl | exact Re1.slice rfl) (by first | exact Re1.plain rfl | exact Re1.ptr rfl | exact Re1.slice rfl) (by first | exact Re1.plain rfl | exact Re1.ptr rfl | exact Re1.slice rfl) (by first | exact Re1.plain rfl | exact Re1.ptr rfl | exact Re1.slice rfl) (by first | exact Re1.plain rfl | exact Re1.ptr rfl | exact Re1.slice rfl) (by first | exact Re1.plain rfl | exact Re1.ptr rfl | exact Re1.slice rfl) (by first | exact Re1.plain rfl | exact Re1.ptr rfl | exact Re1.slice rfl) (by first | exact Re1.plain rfl | exact Re1.ptr rfl | exact Re1.slice rfl) (by first | exact Re1.plain rfl | exact Re1.ptr rfl | exact Re1.slice rfl) (by first | exact Re1.plain rfl | exact Re1.ptr rfl | exact Re1.slice rfl) (by first | exact Re1.plain rfl | exact Re1.ptr rfl | exact Re1.slice rfl) (by first | exact Re1.plain rfl | exact Re1.ptr rfl | exact Re1.slice rfl)⟩ ?_ | refine N.obl ⟨id, Nat.le_refl _, lt16 (by first | exact Re1.plain rfl | exact Re1.ptr rfl | exact Re1.slice rfl) (by first | exact Re1.plain rfl | exact Re1.ptr rfl | exact Re1.slice rfl) (by first | exact Re1.plain rfl | exact Re1.ptr rfl | exact Re1.slice rfl) (by first | exact Re1.plain rfl | exact Re1.ptr rfl | exact Re1.slice rfl) (by first | exact Re1.plain rfl | exact Re1.ptr rfl | exact Re1.slice rfl) (by first | exact Re1.plain rfl | exact Re1.ptr rfl | exact Re1.slice rfl) (by first | exact Re1.plain rfl | exact Re1.ptr rfl | exact Re1.slice rfl) (by first | exact Re1.plain rfl | exact Re1.ptr rfl | exact Re1.slice rfl) (by first | exact Re1.plain rfl | exact Re1.ptr rfl | exact Re1.slice rfl) (by first | exact Re1.plain rfl | exact Re1.ptr rfl | exact Re1.slice rfl) (by first | exact Re1.plain rfl | exact Re1.ptr rfl | exact Re1.slice rfl) (by first | exact Re1.plain rfl | exact Re1.ptr rfl | exact Re1.slice rfl) (by first | exact Re1.plain rfl | exact Re1.ptr rfl | exact Re1.slice rfl) (by first | exact Re1.plain rfl | exact Re1.ptr rfl | exact Re1.slice rfl) (by first | exact Re1.plain rfl | exact Re1.ptr rfl | exact Re1.slice rfl) (re1_intE hS2)⟩ ?_ | refine N.obl (reF_eqn (intF_eqn ej) rfl) ?_ | refine N.obl (.one .quo) ?_ | refine N.obl (.tuple ⟨.quo, .plain rfl, trivial⟩) ?_ | refine N.obl ⟨id, Nat.le_refl _, lt15 (by first | exact Re1.plain rfl | exact Re1.ptr rfl | exact Re1.slice rfl) (by first | exact Re1.plain rfl | exact Re1.ptr rfl | exact Re1.slice rfl) (by first | exact Re1.plain rfl | exact Re1.ptr rfl | exact Re1.slice rfl) (by first | exact Re1.plain rfl | exact Re1.ptr rfl | exact Re1.slice rfl) (by first | exact Re1.plain rfl | exact Re1.ptr rfl | exact Re1.slice rfl) (by first | exact Re1.plain rfl | exact Re1.ptr rfl | exact Re1.slice rfl) (by first | exact Re1.plain rfl | exact Re1.ptr rfl | exact Re1.slice rfl) (by first | exact Re1.plain rfl | exact Re1.ptr rfl | exact Re1.slice rfl) (by first | exact Re1.plain rfl | exact Re1.ptr rfl | exact Re1.slice rfl) (by first | exact Re1.plain rfl | exact Re1.ptr rfl | exact Re1.slice rfl) (by first | exact Re1.plain rfl | exact Re1.ptr rfl | exact Re1.slice rfl) (by first | exact Re1.plain rfl | exact Re1.ptr rfl | exact Re1.slice rfl) (by first | exact Re1.plain rfl | exact Re1.ptr rfl | exact Re1.slice rfl) (by first | exact Re1.plain rfl | exact Re1.ptr rfl | exact Re1.slice rfl) (by first | exact Re1.plain rfl | exact Re1.ptr rfl | exact Re1.slice rfl)⟩ ?_ | refine N.obl ⟨id, Nat.le_refl _, ptP_re⟩ ?_ | refine N.obl ⟨id, Nat.le_refl _, mvP_re⟩ ?_ | fail)
    · obtain rfl : j = n := by omega
      repeat' (refine N.go ?_; first | refine N.forkNo (decide_eq_false (by omega)) ?_ | fail)
      refine N.go ?_
      refine N.nextR (α := Option (List Ml × List By)) (some (L', F')) [(0, 0), (1, 1), (2, 2), (3, 3), (4, 4), (5, 5), (6, 6), (7, 7), (8, 8)] ⟨⟨hA', hF'⟩, by show 0 < 1; decide⟩ ?_
      repeat' (refine N.go ?_; first | exact N.true | refine N.obl (.plain (by rfl)) ?_ | refine N.obl (.one (.ptr rfl)) ?_ | refine N.obl (.one (.slice rfl)) ?_ | refine N.obl (@ChunkReLe.mk _ _ _ ⟨.inr rfl⟩ id (Nat.le_refl _) (fun j hj => absurd hj (Nat.not_lt_zero j))) ?_ | refine N.obl ⟨id, Nat.le_refl _, lt16 (by first | exact Re1.plain rfl | exact Re1.ptr rfl | exact Re1.slice rfl) (by first | exact Re1.plain rfl | exact Re1.ptr rfl | exact Re1.slice rfl) (by first | exact Re1.plain rfl | exact Re1.ptr rfl | exact Re1.slice rfl) (by first | exact Re1.plain rfl | exact Re1.ptr rfl | exact Re1.slice rfl) (by first | exact Re1.plain rfl | exact Re1.ptr rfl | exact Re1.slice rfl) (by first | exact Re1.plain rfl | exact Re1.ptr rfl | exact Re1.slice rfl) (by first | exact Re1.plain rfl | exact Re1.ptr rfl | exact Re1.slice rfl) (by first | exact Re1.plain rfl | exact Re1.ptr rfl | exact Re1.slice rfl) (by first | exact Re1.plain rfl | exact Re1.ptr rfl | exact Re1.slice rfl) (by first | exact Re1.plain rfl | exact Re1.ptr rfl | exact Re1.slice rfl) (by first | exact Re1.plain rfl | exact Re1.ptr rfl | exact Re1.slice rfl) (by first | exact Re1.plain rfl | exact Re1.ptr rfl | exact Re1.slice rfl) (by first | exact Re1.plain rfl | exact Re1.ptr rfl | exact Re1.slice rfl) (by first | exact Re1.plain rfl | exact Re1.ptr rfl | exact Re1.slice rfl) (by first | exact Re1.plain rfl | exact Re1.ptr rfl | exact Re1.slice rfl) (by first | exact Re1.plain rfl | exact Re1.ptr rfl | exact Re1.slice rfl)⟩ ?_ | refine N.obl ⟨id, Nat.le_refl _, lt15 (by first | exact Re1.plain rfl | exact Re1.ptr rfl | exact Re1.slice rfl) (by first | exact Re1.plain rfl | exact Re1.ptr rfl | exact Re1.slice rfl) (by first | exact Re1.plain rfl | exact Re1.ptr rfl | exact Re1.slice rfl) (by first | exact Re1.plain rfl | exact Re1.ptr rfl | exact Re1.slice rfl) (by first | exact Re1.plain rfl | exact Re1.ptr rfl | exact Re1.slice rfl) (by first | exact Re1.plain rfl | exact Re1.ptr rfl | exact Re1.slice rfl) (by first | exact Re1.plain rfl | exact Re1.ptr rfl | exact Re1.slice rfl) (by first | exact Re1.plain rfl | exact Re1.ptr rfl | exact Re1.slice rfl) (by first | exact Re1.plain rfl | exact Re1.ptr rfl | exact Re1.slice rfl) (by first | exact Re1.plain rfl | exact Re1.ptr rfl | exact Re1.slice rfl) (by first | exact Re1.plain rfl | exact Re1.ptr rfl | exact Re1.slice rfl) (by first | exact Re1.plain rfl | exact Re1.ptr rfl | exact Re1.slice rfl) (by first | exact Re1.plain rfl | exact Re1.ptr rfl | exact Re1.slice rfl) (by first | exact Re1.plain rfl | exact Re1.ptr rfl | exact Re1.slice rfl) (by first | exact Re1.plain rfl | exact Re1.ptr rfl | exact Re1.slice rfl)⟩ ?_ | refine N.obl ⟨id, Nat.le_refl _, ptP_re⟩ ?_ | refine N.obl ⟨id, Nat.le_refl _, mvP_re⟩ ?_ | fail)
end Go.Proofs.YtdljelmbjdjpjaaGreat


namespace Go.Proofs.YtdljelmbjdjpjaaGreat
open Go Go.RowKit Sx
abbrev md (a m : Int) : Int := IntKind.i64.wrap ((IntKind.u64.wrap a).tmod m)
theorem md_b (a m : Int) (h0 : 0 < m) (h1 : m ≤ 9223372036854775807) : 0 ≤ md a m ∧ md a m < m := u64mod a m h0 h1
abbrev cf6 (a b c d g f : Int) : Nat → Int := fun k => match k with
  | 0 => 1 + md a 8
  | 1 => 1 + md b 6
  | 2 => md c 40
  | 3 => md d 10
  | 4 => 1
  | 5 => 10
  | 6 => 50
  | 7 => 30
  | 8 => 1 + md g 6
  | 9 => 1 + md f 8
  | _ => 1000000000000
theorem cf6_ok (a b c d g f : Int) : CfOK (cf6 a b c d g f) := by
  have k0 := md_b a 8 (by decide) (by decide)
  have k1 := md_b b 6 (by decide) (by decide)
  have k2 := md_b c 40 (by decide) (by decide)
  have k3 := md_b d 10 (by decide) (by decide)
  have k4 := md_b g 6 (by decide) (by decide)
  have k5 := md_b f 8 (by decide) (by decide)
  refine ⟨?_, ?_, ?_, ?_, rfl, ?_, rfl, ?_, ?_, ?_, ?_⟩ <;> simp only [cf6] <;> omega
theorem config_x (a b c d g f : Int)  (w : World) : Calls Tryz.prog 8 #[.int .i64 a, .int .i64 b, .int .i64 c, .int .i64 d, .int .i64 g, .int .i64 f] w fun e w' => e = .returned (cfV (cf6 a b c d g f)) ∧ Below w.heap.size w w' := by
  have k0 := md_b a 8 (by decide) (by decide)
  have k1 := md_b b 6 (by decide) (by decide)
  have k4 := md_b g 6 (by decide) (by decide)
  have k5 := md_b f 8 (by decide) (by decide)
  refine calls_pure (G := tys) w tysOK mixed Tryz.func8 (by rfl) (by first | rfl | (simp only [List.all_cons, List.all_nil, plain_wz, plain_lim, plain_wi]; rfl)) (by first | exact plain3_wz _ | exact plain3_wi _ _ _ | rfl | (simp only [plain3, List.all_cons, List.all_nil, plain_wz, plain_lim, plain_wi]; rfl)) ?_
  repeat' (refine N.go ?_; first | with_reducible (first | refine N.obl (by decide) ?_ | refine N.eq ?_ | refine N.obl rfl ?_) | fail)
  all_goals
    simp only [cfV, cf6]
    rw [i64s (1 + md a 8) (by omega) (by omega), i64s (1 + md b 6) (by omega) (by omega), i64s (1 + md g 6) (by omega) (by omega), i64s (1 + md f 8) (by omega) (by omega)]
theorem cConfig (a b c d g f : Int) (h : List (Option Chunk)) : CallOK Tryz.prog 8 [.int .i64 a, .int .i64 b, .int .i64 c, .int .i64 d, .int .i64 g, .int .i64 f] h (cfV (cf6 a b c d g f)) [] [] := call_pure rfl rfl (Tryz.call8 _) (config_x a b c d g f)
abbrev rpV (v : Bool) (x y a b d : Int) (s : Value) : Value := .agg ⟨[.bool v, .int .i64 x, .int .i64 y, .int .i64 a, .int .i64 b, .int .i64 d, s]⟩
theorem cReport0 (s : NSt) (hE : s.T.E = []) (i : Nat) (h : List (Option Chunk)) (hi : h[i]? = some (some (ndP s))) :
    CallOK Tryz.prog 12 [.pointer (some ⟨i, 0, some 0⟩)] h (rpV s.fv s.fx s.fy s.fa s.fb s.fd (.slice none 0 0)) [(i, ndP s)] [] := by
  refine call_res (G := tys) (fun _ : Nat → Nat × Nat => True) (ndH s) [⟨i, ndP s, ndP s, ndP s⟩] [] [.pointer (some ⟨0, 0, some 0⟩)] tysOK mixed Tryz.func12 (by rfl) (Tryz.call12) ⟨hi, trivial⟩ ⟨⟨fun h => ⟨rfl, Nat.le_refl _⟩, Nat.le_refl _, fun j hj => absurd hj (Nat.not_lt_zero j)⟩, trivial⟩ (by simp [Apart]) ⟨.inr ⟨rfl, rfl⟩, trivial⟩ trivial ⟨.ptr rfl, trivial⟩ pack_opens ?_
  intro g _
  repeat' (refine N.go ?_; first | with_reducible (first | refine N.obl rfl ?_ | refine N.obl ⟨by kernel_rfl, by kernel_rfl⟩ ?_ | refine N.alt ?_ | refine N.forkF ?_) | refine N.call (cFiValid _ _ _ _ _ _ _ 1 _ (by rfl)) ?_ | refine N.call (cFiE _ _ _ _ _ _ _ 1 _ (by rfl)) ?_ | refine N.call (cAll0 s.T hE 2 _ (by rfl)) ?_ | fail)
  refine N.go ?_
  refine ndClose s g 0 1 2 3 4 [] nd_piece (fun i hi => .inl (by simpa using hi)) (by rfl) rfl rfl (ndRe (D := s.nd g) (f := 1) (t := 2) (b := 3) (m := 4) (f' := 1) (t' := 2) (b' := 3) (m' := 4) (by rfl) (by rfl) (by rfl) (by rfl)) (by rfl) rfl rfl re7 (by rfl) (by rfl) rfl rfl re2 (by rfl) rfl rfl re2 (by rfl) (fun k hk => by cases hk) (fun k hk => by cases hk) (plain_sc rfl) ?_
  refine N.obl (.plain rfl) ?_
  refine N.obl ⟨⟨_, rfl, fun h => h, Nat.le_refl _, fun j hj => absurd hj (Nat.not_lt_zero j)⟩, trivial⟩ ?_
  refine N.obl trivial ?_
  refine N.obl ⟨⟨.inr ⟨_, rfl, rfl⟩, trivial⟩, trivial⟩ ?_
  exact N.true
end Go.Proofs.YtdljelmbjdjpjaaGreat


namespace Go.Proofs.YtdljelmbjdjpjaaGreat
open Go Go.RowKit Sx
abbrev flO (W : World) (B : List By) (F : FS) (β : Nat × Nat) : List (Option Chunk) := [some (flC F.C F.n 2 7 5 (.slice (some ⟨6, 0, some 0⟩) F.n β.2) F.lost), some (memC W B), some (wcc true F.C F.n β.1 3 4 F.tm F.st), some (ptP true F.n F.P), some (mvP true F.n F.M), some (onC (manyX ndX F.n F.g F.s) F.n F.on), some (prC β.2 (prF F.g F.n)), some (airP F.L)]
theorem fl_opens2 {i j : Nat} {c d c2 d2 : Chunk} {W : World} {B : List By} {F : FS} : Opens [⟨i, c, flP F, d⟩, ⟨j, c2, memC W B, d2⟩] (flOK F) (flO W B F) := by
  refine pack_opens2 (flO W B F) [(0, 0), (1, 2), (2, 3), (3, 4), (4, 5), (5, 6), (6, 7)] (fun l i hm => ?_) rfl (fun β => rfl) (fun β hβ l dl hl => ?_) (fun β hβ k d' hk => ?_)
  · simp only [List.mem_cons, Prod.mk.injEq, List.not_mem_nil, or_false] at hm
    rcases hm with ⟨rfl, rfl⟩ | ⟨rfl, rfl⟩ | ⟨rfl, rfl⟩ | ⟨rfl, rfl⟩ | ⟨rfl, rfl⟩ | ⟨rfl, rfl⟩ | ⟨rfl, rfl⟩ <;> rfl
  · match l, hl with
    | 0, hl =>
      obtain rfl : _ = dl := by simpa using hl
      exact ⟨_, rfl, rfl, rfl, lt16 (by first | exact Re1.plain rfl | exact Re1.ptr rfl | exact Re1.slice rfl) (by first | exact Re1.plain rfl | exact Re1.ptr rfl | exact Re1.slice rfl) (by first | exact Re1.plain rfl | exact Re1.ptr rfl | exact Re1.slice rfl) (by first | exact Re1.plain rfl | exact Re1.ptr rfl | exact Re1.slice rfl) (by first | exact Re1.plain rfl | exact Re1.ptr rfl | exact Re1.slice rfl) (by first | exact Re1.plain rfl | exact Re1.ptr rfl | exact Re1.slice rfl) (by first | exact Re1.plain rfl | exact Re1.ptr rfl | exact Re1.slice rfl) (by first | exact Re1.plain rfl | exact Re1.ptr rfl | exact Re1.slice rfl) (by first | exact Re1.plain rfl | exact Re1.ptr rfl | exact Re1.slice rfl) (by first | exact Re1.plain rfl | exact Re1.ptr rfl | exact Re1.slice rfl) (by first | exact Re1.plain rfl | exact Re1.ptr rfl | exact Re1.slice rfl) (by first | exact Re1.plain rfl | exact Re1.ptr rfl | exact Re1.slice rfl) (by first | exact Re1.plain rfl | exact Re1.ptr rfl | exact Re1.slice rfl) (by first | exact Re1.plain rfl | exact Re1.ptr rfl | exact Re1.slice rfl) (by first | exact Re1.plain rfl | exact Re1.ptr rfl | exact Re1.slice rfl) (by first | exact Re1.plain rfl | exact Re1.ptr rfl | exact Re1.slice rfl)⟩
    | 1, hl =>
      obtain rfl : _ = dl := by simpa using hl
      exact ⟨_, rfl, rfl, rfl, lt15 (by first | exact Re1.plain rfl | exact Re1.ptr rfl | exact Re1.slice rfl) (by first | exact Re1.plain rfl | exact Re1.ptr rfl | exact Re1.slice rfl) (by first | exact Re1.plain rfl | exact Re1.ptr rfl | exact Re1.slice rfl) (by first | exact Re1.plain rfl | exact Re1.ptr rfl | exact Re1.slice rfl) (by first | exact Re1.plain rfl | exact Re1.ptr rfl | exact Re1.slice rfl) (by first | exact Re1.plain rfl | exact Re1.ptr rfl | exact Re1.slice rfl) (by first | exact Re1.plain rfl | exact Re1.ptr rfl | exact Re1.slice rfl) (by first | exact Re1.plain rfl | exact Re1.ptr rfl | exact Re1.slice rfl) (by first | exact Re1.plain rfl | exact Re1.ptr rfl | exact Re1.slice rfl) (by first | exact Re1.plain rfl | exact Re1.ptr rfl | exact Re1.slice rfl) (by first | exact Re1.plain rfl | exact Re1.ptr rfl | exact Re1.slice rfl) (by first | exact Re1.plain rfl | exact Re1.ptr rfl | exact Re1.slice rfl) (by first | exact Re1.plain rfl | exact Re1.ptr rfl | exact Re1.slice rfl) (by first | exact Re1.plain rfl | exact Re1.ptr rfl | exact Re1.slice rfl) (by first | exact Re1.plain rfl | exact Re1.ptr rfl | exact Re1.slice rfl)⟩
    | 2, hl =>
      obtain rfl : _ = dl := by simpa using hl
      exact ⟨_, rfl, rfl, rfl, ptP_re⟩
    | 3, hl =>
      obtain rfl : _ = dl := by simpa using hl
      exact ⟨_, rfl, rfl, rfl, mvP_re⟩
    | 4, hl =>
      obtain rfl : _ = dl := by simpa using hl
      exact ⟨_, rfl, rfl, rfl, (on_ren fun _ _ => rfl).re⟩
    | 5, hl =>
      obtain rfl : _ = dl := by simpa using hl
      exact ⟨_, rfl, rfl, rfl, pr_ren.re⟩
    | 6, hl =>
      obtain rfl : _ = dl := by simpa using hl
      exact ⟨_, rfl, rfl, rfl, fun j hj => absurd hj (Nat.not_lt_zero j)⟩
    | l + 7, hl => simp at hl
  · match k, hk with
    | 0, _ => exact .inr ⟨0, rfl, _, rfl⟩
    | 1, _ => exact .inl rfl
    | 2, _ => exact .inr ⟨1, rfl, _, rfl⟩
    | 3, _ => exact .inr ⟨2, rfl, _, rfl⟩
    | 4, _ => exact .inr ⟨3, rfl, _, rfl⟩
    | 5, _ => exact .inr ⟨4, rfl, _, rfl⟩
    | 6, _ => exact .inr ⟨5, rfl, _, rfl⟩
    | 7, _ => exact .inr ⟨6, rfl, _, rfl⟩
    | k + 8, hk => simp at hk
def tickS (s : NSt) (now : Int) : NSt := if now < s.tx then {s with bl := s.bn} else {s with bl := s.bn - 1, seq := s.seq + 1, tx := now + s.te}
structure TickOK (s : NSt) : Prop where
  E : s.T.E = []
  te : 0 ≤ s.te ∧ s.te ≤ 1000000
  bn : 0 < s.bn ∧ s.bn < 1000
  seq : 0 ≤ s.seq ∧ s.seq < 65535
  boot : 0 ≤ s.boot ∧ s.boot ≤ 65535
theorem cFlTickN (n m : Nat) (g : Nat → Nat × Nat) (s : Nat → NSt) (hm : m < n) (ok : TickOK (s m)) (now fine : Int) (ht : 0 ≤ now ∧ now ≤ 1000000) (hd : now < (s m).tx) (i k : Nat) {c : Nat} {ps : List (Nat × Nat × Value)} (h : List (Option Chunk)) (hi : h[i]? = some (some (@Chunk.mk (manyX ndX n g s) true c ps))) (hk : h[k]? = some none) :
    CallAll Tryz.prog 57 [realP (g m), .int .i64 now, .int .i64 fine] h fun v ms => v = .slice none 0 0 ∧ ms = [(i, @Chunk.mk (manyX ndX n g (upd s m (tickS (s m) now))) true c ps)] := by
  have hkl := (List.getElem?_eq_some_iff.1 hk).1
  have key := cTickN (s m) ok.E now fine ht hd k ((h.set i (some (@Chunk.mk (wandX (fun a => manyX ndX n g (upd s m a)) ndX (g m)) true c ps))).set k (some (@Chunk.mk (ndX (s m)) true 0 []))) (List.getElem?_set_self (by simpa using hkl))
  rw [← upd_self s m] at hi
  refine call_lens (vs' := [.pointer (some ⟨k, 0, some 0⟩), .int .i64 now, .int .i64 fine]) (Y := fun a => manyX ndX n g (upd s m a)) (Z := ndX) (q := g m) (a := s m) i k hi hk (many_lens ndX g s hm (s m) rfl) ndX_self ⟨.ptr, .same _, .same _, trivial⟩ (callOK_all key) fun v ms hR => ?_
  obtain ⟨rfl, rfl⟩ := hR
  refine ⟨tickS (s m) now, [], ?_, (fun m hm => by cases hm), fun r r' _ => rfl, rfl, rfl⟩
  show _ = _
  unfold tickS
  rw [if_pos hd]
  show List.set _ _ _ = _
  rw [List.set_set]
  rfl
theorem cFlTickE (n m : Nat) (g : Nat → Nat × Nat) (s : Nat → NSt) (hm : m < n) (ok : TickOK (s m)) (hv : (s m).fv = true) (now fine : Int) (ht : 0 ≤ now ∧ now ≤ 1000000) (hd : ¬ now < (s m).tx) (i k K : Nat) (hkK : k ≠ K) {c : Nat} {ps : List (Nat × Nat × Value)} (h : List (Option Chunk)) (hi : h[i]? = some (some (@Chunk.mk (manyX ndX n g s) true c ps))) (hk : h[k]? = some none) (hK : h[K]? = some none) :
    CallAll Tryz.prog 57 [realP (g m), .int .i64 now, .int .i64 fine] h fun v ms => ∃ κ : Nat, 1 ≤ κ ∧ v = .slice (some ⟨K, 0, some 0⟩) 1 κ ∧ ms = [(i, @Chunk.mk (manyX ndX n g (upd s m (tickS (s m) now))) true c ps), (K, outC (outV 5 (s m).id (s m).boot (s m).seq now 0 0 0 0 0 (s m).fx (s m).fy (s m).fa (s m).fb (s m).fd fine))] := by
  have hkl := (List.getElem?_eq_some_iff.1 hk).1
  have hiK : i ≠ K := fun e => by rw [e, hK] at hi; cases hi
  have key := cTickE (s m) ok.E hv now fine ht hd ok.te ok.bn ok.seq ok.boot k K ((h.set i (some (@Chunk.mk (wandX (fun a => manyX ndX n g (upd s m a)) ndX (g m)) true c ps))).set k (some (@Chunk.mk (ndX (s m)) true 0 []))) (List.getElem?_set_self (by simpa using hkl)) (by rw [List.getElem?_set_ne hkK, List.getElem?_set_ne hiK]; exact hK)
  rw [← upd_self s m] at hi
  refine call_lens (vs' := [.pointer (some ⟨k, 0, some 0⟩), .int .i64 now, .int .i64 fine]) (Y := fun a => manyX ndX n g (upd s m a)) (Z := ndX) (q := g m) (a := s m) i k hi hk (many_lens ndX g s hm (s m) rfl) ndX_self ⟨.ptr, .same _, .same _, trivial⟩ key fun v ms hR => ?_
  obtain ⟨κ, hκ, rfl, rfl⟩ := hR
  refine ⟨tickS (s m) now, [(K, outC (outV 5 (s m).id (s m).boot (s m).seq now 0 0 0 0 0 (s m).fx (s m).fy (s m).fa (s m).fb (s m).fd fine))], ?_, (fun x hx => ?_), fun r r' hr => ?_, κ, hκ, rfl, rfl⟩
  · unfold tickS
    rw [if_neg hd]
    show List.set (List.set _ _ _) _ _ = List.set (List.set _ _ _) _ _
    rw [List.set_set]
  · obtain rfl := List.mem_singleton.1 hx
    refine ⟨Ne.symm hiK, Ne.symm hkK, fun l hl r r' _ => ?_⟩
    exact lt16 (p := fun j => den1 r (Chunk.f (outC (outV 5 (s m).id (s m).boot (s m).seq now 0 0 0 0 0 (s m).fx (s m).fy (s m).fa (s m).fb (s m).fd fine)) j) = den1 r' (Chunk.f (outC (outV 5 (s m).id (s m).boot (s m).seq now 0 0 0 0 0 (s m).fx (s m).fy (s m).fa (s m).fb (s m).fd fine)) j)) rfl rfl rfl rfl rfl rfl rfl rfl rfl rfl rfl rfl rfl rfl rfl rfl l hl
  · simp [den, den2, den1, den0, denA, hr K (Ne.symm hkK)]
theorem cFlTickB (n m : Nat) (g : Nat → Nat × Nat) (s : Nat → NSt) (hm : m < n) (ok : TickOK (s m)) (hv : (s m).fv = false) (now fine : Int) (ht : 0 ≤ now ∧ now ≤ 1000000) (hd : ¬ now < (s m).tx) (i k K : Nat) (hkK : k ≠ K) {c : Nat} {ps : List (Nat × Nat × Value)} (h : List (Option Chunk)) (hi : h[i]? = some (some (@Chunk.mk (manyX ndX n g s) true c ps))) (hk : h[k]? = some none) (hK : h[K]? = some none) :
    CallAll Tryz.prog 57 [realP (g m), .int .i64 now, .int .i64 fine] h fun v ms => ∃ κ : Nat, 1 ≤ κ ∧ v = .slice (some ⟨K, 0, some 0⟩) 1 κ ∧ ms = [(i, @Chunk.mk (manyX ndX n g (upd s m (tickS (s m) now))) true c ps), (K, outC (outV 1 (s m).id (s m).boot (s m).seq now 0 0 0 0 0 0 0 0 0 0 fine))] := by
  have hkl := (List.getElem?_eq_some_iff.1 hk).1
  have hiK : i ≠ K := fun e => by rw [e, hK] at hi; cases hi
  have key := cTickB (s m) ok.E hv now fine ht hd ok.te ok.bn ok.seq ok.boot k K ((h.set i (some (@Chunk.mk (wandX (fun a => manyX ndX n g (upd s m a)) ndX (g m)) true c ps))).set k (some (@Chunk.mk (ndX (s m)) true 0 []))) (List.getElem?_set_self (by simpa using hkl)) (by rw [List.getElem?_set_ne hkK, List.getElem?_set_ne hiK]; exact hK)
  rw [← upd_self s m] at hi
  refine call_lens (vs' := [.pointer (some ⟨k, 0, some 0⟩), .int .i64 now, .int .i64 fine]) (Y := fun a => manyX ndX n g (upd s m a)) (Z := ndX) (q := g m) (a := s m) i k hi hk (many_lens ndX g s hm (s m) rfl) ndX_self ⟨.ptr, .same _, .same _, trivial⟩ key fun v ms hR => ?_
  obtain ⟨κ, hκ, rfl, rfl⟩ := hR
  refine ⟨tickS (s m) now, [(K, outC (outV 1 (s m).id (s m).boot (s m).seq now 0 0 0 0 0 0 0 0 0 0 fine))], ?_, (fun x hx => ?_), fun r r' hr => ?_, κ, hκ, rfl, rfl⟩
  · unfold tickS
    rw [if_neg hd]
    show List.set (List.set _ _ _) _ _ = List.set (List.set _ _ _) _ _
    rw [List.set_set]
  · obtain rfl := List.mem_singleton.1 hx
    refine ⟨Ne.symm hiK, Ne.symm hkK, fun l hl r r' _ => ?_⟩
    exact lt16 (p := fun j => den1 r (Chunk.f (outC (outV 1 (s m).id (s m).boot (s m).seq now 0 0 0 0 0 0 0 0 0 0 fine)) j) = den1 r' (Chunk.f (outC (outV 1 (s m).id (s m).boot (s m).seq now 0 0 0 0 0 0 0 0 0 0 fine)) j)) rfl rfl rfl rfl rfl rfl rfl rfl rfl rfl rfl rfl rfl rfl rfl rfl l hl
  · simp [den, den2, den1, den0, denA, hr K (Ne.symm hkK)]
end Go.Proofs.YtdljelmbjdjpjaaGreat


namespace Go.Proofs.YtdljelmbjdjpjaaGreat
open Go Go.RowKit Sx
structure NdOK (s : NSt) : Prop where
  tick : TickOK s
  id : 0 ≤ s.id ∧ s.id < 64
  may : s.fv = true → mayP s.fx s.fy s.fa s.fb s.fd
def tickB (s : NSt) (now : Int) : Option (List Int) := if now < s.tx then none else some (if s.fv then encB 5 s.id s.boot s.seq now 0 0 0 0 0 s.fx s.fy s.fa s.fb s.fd else encB 1 s.id s.boot s.seq now 0 0 0 0 0 0 0 0 0 0)
def tellA (on : Nat → Bool) (n : Nat) (mk : List Int → Nat → Am) (j : Nat) (z : List Am × Int) : Option (List Int) → List Am × Int
  | none => z
  | some bs => sendA j on (mk bs) z n
def tickA (C P : Nat → Int) (n : Nat) (on : Nat → Bool) (now : Nat → Int) (g : Int) (z : (Nat → NSt) × (List Am × Int)) : Nat → (Nat → NSt) × (List Am × Int)
  | 0 => z
  | j + 1 => if on j = true then (upd (tickA C P n on now g z j).1 j (tickS ((tickA C P n on now g z j).1 j) (now j)), tellA on n (fun bs => mkA C P bs j g) j (tickA C P n on now g z j).2 (tickB ((tickA C P n on now g z j).1 j) (now j))) else tickA C P n on now g z j
theorem tickA_ge (C P : Nat → Int) (n : Nat) (on : Nat → Bool) (now : Nat → Int) (g : Int) (z : (Nat → NSt) × (List Am × Int)) (k : Nat) : ∀ j, j ≤ k → (tickA C P n on now g z j).1 k = z.1 k
  | 0, _ => rfl
  | j + 1, h => by
    unfold tickA
    split
    · show upd _ j _ k = _
      rw [upd_ne _ _ (by omega)]
      exact tickA_ge C P n on now g z k j (by omega)
    · exact tickA_ge C P n on now g z k j (by omega)
theorem tickA_lost (C P : Nat → Int) (n : Nat) (on : Nat → Bool) (now : Nat → Int) (g : Int) (z : (Nat → NSt) × (List Am × Int)) (h : 0 ≤ z.2.2 ∧ z.2.2 ≤ 1000000) : ∀ j, 0 ≤ (tickA C P n on now g z j).2.2 ∧ (tickA C P n on now g z j).2.2 ≤ 1000000
  | 0 => h
  | j + 1 => by
    have ih := tickA_lost C P n on now g z h j
    unfold tickA
    split
    · show 0 ≤ (tellA _ _ _ _ _ _).2 ∧ (tellA _ _ _ _ _ _).2 ≤ 1000000
      unfold tellA
      split
      · exact ih
      · exact sendA_lost _ _ _ _ ih _
    · exact ih
theorem cFlSend0 (i g : Int) (i0 : Nat) (h : List (Option Chunk)) (c : Chunk) (h0 : h[i0]? = some (some c)) : CallOK Tryz.prog 56 [.pointer (some ⟨i0, 0, some 0⟩), .int .i64 i, .slice none 0 0, .int .i64 g] h (.tuple #[]) [] [i0] := by
  refine call_sub (G := tys) [⟨i0, c, (@Chunk.mk Ext.none false 0 []), (@Chunk.mk Ext.none false 0 [])⟩] [] [.pointer (some ⟨0, 0, some 0⟩), .int .i64 i, .slice none 0 0, .int .i64 g] tysOK mixed Tryz.func56 (by rfl) (Tryz.call56) ⟨h0, trivial⟩ ⟨⟨fun h => (by cases h), Nat.zero_le _, fun j hj => absurd hj (Nat.not_lt_zero j)⟩, trivial⟩ (by simp [Apart]) trivial ⟨.ptr rfl, .plain rfl, .plain rfl, .plain rfl, trivial⟩ ?_
  repeat' (refine N.go ?_; first | fail)
  refine N.go ?_
  refine N.roll 1 ?_
  repeat' (refine N.go ?_; first | refine N.forkNo (by decide) ?_ | exact N.true | refine N.obl trivial ?_ | refine N.obl (.tuple trivial) ?_ | fail)
theorem rd_on {x : Ext} {n p : Nat} {on : Nat → Bool} (h : p < n) : Reads (onC x n on) p false 1 (.bool (on p)) := ⟨h, rfl, on_cell h⟩
theorem fi_small {n : Int} (h : -70368744177664 ≤ n ∧ n ≤ 70368744177664) : Fi n := ⟨by omega, by omega⟩
theorem flP_ne (F : FS) : (flP F).x ≠ Ext.none := fun e => by
  have h1 : ∀ p S w, (flP F).x.inv p S w → S p.1 := packX_selfish
  rw [e] at h1
  exact (h1 (0, 0) (fun _ => False) default fun _ h => h).elim
abbrev tickF (F : FS) (L : List Ml) (z : (Nat → NSt) × (List Am × Int)) : FS := ⟨F.C, F.n, F.P, fun _ => false, F.tm + 1, 1, L, F.g, z.1, F.on, z.2.2⟩
abbrev nowA (F : FS) (j : Nat) : Int := locN (offN j 7 (F.C 4)) (F.tm + 1)
abbrev tickZ (F : FS) (A : List Am) (j : Nat) : (Nat → NSt) × (List Am × Int) := tickA F.C F.P F.n F.on (nowA F) ((F.tm + 1) * 16777216 + min (0 + 1) 16777215) (F.s, (A, F.lost)) j
theorem cFlTickF (W : World) (B : List By) (F : FS) (hn : 1 ≤ F.n ∧ F.n ≤ 64) (h4 : 0 ≤ F.C 4 ∧ F.C 4 ≤ 100) (h5 : 0 ≤ F.C 5 ∧ F.C 5 ≤ 1000) (ht : 0 ≤ F.tm ∧ F.tm < 750000) (hl : 0 ≤ F.lost ∧ F.lost ≤ 1000000) (A : List Am) (hA : AirA W B F.L A) (hN : ∀ m, m < F.n → NdOK (F.s m)) (i j : Nat) (hij : i ≠ j) (h : List (Option Chunk)) (hi : h[i]? = some (some (flP F))) (hj : h[j]? = some (some (memC W B))) :
    CallAll Tryz.prog 27 [.pointer (some ⟨i, 0, some 0⟩)] h fun v ms => ∃ L' B', AirA W B' L' (tickZ F A F.n).2.1 ∧ (∀ e, e ∈ B → e ∈ B') ∧ v = .int .i64 0 ∧ ms = [(i, flP (tickF F L' (tickZ F A F.n))), (j, memC W B')] := by
  have key := call_resall (G := tys) (h := h) (vs := [.pointer (some ⟨i, 0, some 0⟩)]) (flOK F) (flO W B F) (α := List Ml × List By) (fun κ => AirA W κ.2 κ.1 (tickZ F A F.n).2.1 ∧ ∀ e, e ∈ B → e ∈ κ.2) (fun κ => .int .i64 0) [⟨i, flP F, flP F, flP F⟩, ⟨j, memC W B, memC W B, memC W B⟩] (fun κ => [flP (tickF F κ.1 (tickZ F A F.n)), memC W κ.2]) (fun κ => []) [.pointer (some ⟨0, 0, some 0⟩)] tysOK mixed Tryz.func27 (by rfl) (Tryz.call27) ⟨hi, hj, trivial⟩ ⟨⟨fun h => ⟨rfl, Nat.le_refl _⟩, Nat.le_refl _, fun j hj => absurd hj (Nat.not_lt_zero j)⟩, ⟨fun h => ⟨rfl, Nat.le_refl _⟩, Nat.le_refl _, fun j hj => absurd hj (Nat.not_lt_zero j)⟩, trivial⟩ (fun κ _ => ⟨⟨fun h => ⟨rfl, Nat.le_refl _⟩, Nat.le_refl _, fun j hj => absurd hj (Nat.not_lt_zero j)⟩, ⟨fun h => ⟨rfl, Nat.le_refl _⟩, Nat.le_refl _, fun j hj => absurd hj (Nat.not_lt_zero j)⟩, trivial⟩) (by simp [Apart, hij]) ⟨.inr ⟨rfl, rfl⟩, .inr ⟨rfl, rfl⟩, trivial⟩ (fun κ _ => trivial) ⟨.ptr rfl, trivial⟩ fl_opens2 ?_
  · refine callAll_mono key fun v ms hR => ?_
    obtain ⟨κ, hκ, rfl, rfl⟩ := hR
    exact ⟨κ.1, κ.2, hκ.1, hκ.2, rfl, rfl⟩
  intro β hβ
  repeat' (refine N.go ?_; first | refine N.forkNo (by decide) ?_ | refine N.call (cWTickY F.C F.n β.1 2 3 4 8 F.P F.M F.tm F.st true true _ (by rfl) (by rfl) (by rfl) (by rfl) (by decide) (by decide) hn ht) ?_ | refine N.call (cStep F.C F.n β.1 2 3 8 F.P _ (F.tm + 1) 0 true true _ (by rfl) (by rfl) (by rfl) (by decide) (by decide) (by omega) (by decide)) ?_ | fail)
  refine N.go ?_
  refine N.loopR (α := Nat × List Ml × List By) (fun z => z.1 ≤ F.n ∧ AirA W z.2.2 z.2.1 (tickZ F A z.1).2.1 ∧ ∀ e, e ∈ B → e ∈ z.2.2) (fun z => F.n - z.1) (fun z => [(22, .int .i64 (z.1 : Int))]) (fun z => [(0, flC F.C F.n 2 7 5 (.slice (some ⟨6, 0, some 0⟩) F.n β.2) (tickZ F A z.1).2.2), (1, memC W z.2.2), (5, onC (manyX ndX F.n F.g (tickZ F A z.1).1) F.n F.on), (7, airP z.2.1)]) (0, F.L, B) [(0, 0), (1, 1), (2, 2), (3, 3), (4, 4), (5, 5), (6, 6), (7, 7), (8, 8)] ⟨Nat.zero_le _, hA, fun _ h => h⟩ ?_ ?_
  · repeat' (refine N.go ?_; first | exact N.true | refine N.obl (.plain (by rfl)) ?_ | refine N.obl (.one (.ptr rfl)) ?_ | refine N.obl (.one (.slice rfl)) ?_ | refine N.obl (@ChunkReLe.mk _ _ _ ⟨.inr rfl⟩ id (Nat.le_refl _) (fun j hj => absurd hj (Nat.not_lt_zero j))) ?_ | refine N.obl ⟨id, Nat.le_refl _, lt16 (by first | exact Re1.plain rfl | exact Re1.ptr rfl | exact Re1.slice rfl) (by first | exact Re1.plain rfl | exact Re1.ptr rfl | exact Re1.slice rfl) (by first | exact Re1.plain rfl | exact Re1.ptr rfl | exact Re1.slice rfl) (by first | exact Re1.plain rfl | exact Re1.ptr rfl | exact Re1.slice rfl) (by first | exact Re1.plain rfl | exact Re1.ptr rfl | exact Re1.slice rfl) (by first | exact Re1.plain rfl | exact Re1.ptr rfl | exact Re1.slice rfl) (by first | exact Re1.plain rfl | exact Re1.ptr rfl | exact Re1.slice rfl) (by first | exact Re1.plain rfl | exact Re1.ptr rfl | exact Re1.slice rfl) (by first | exact Re1.plain rfl | exact Re1.ptr rfl | exact Re1.slice rfl) (by first | exact Re1.plain rfl | exact Re1.ptr rfl | exact Re1.slice rfl) (by first | exact Re1.plain rfl | exact Re1.ptr rfl | exact Re1.slice rfl) (by first | exact Re1.plain rfl | exact Re1.ptr rfl | exact Re1.slice rfl) (by first | exact Re1.plain rfl | exact Re1.ptr rfl | exact Re1.slice rfl) (by first | exact Re1.plain rfl | exact Re1.ptr rfl | exact Re1.slice rfl) (by first | exact Re1.plain rfl | exact Re1.ptr rfl | exact Re1.slice rfl) (by first | exact Re1.plain rfl | exact Re1.ptr rfl | exact Re1.slice rfl)⟩ ?_ | refine N.obl ⟨id, Nat.le_refl _, lt15 (by first | exact Re1.plain rfl | exact Re1.ptr rfl | exact Re1.slice rfl) (by first | exact Re1.plain rfl | exact Re1.ptr rfl | exact Re1.slice rfl) (by first | exact Re1.plain rfl | exact Re1.ptr rfl | exact Re1.slice rfl) (by first | exact Re1.plain rfl | exact Re1.ptr rfl | exact Re1.slice rfl) (by first | exact Re1.plain rfl | exact Re1.ptr rfl | exact Re1.slice rfl) (by first | exact Re1.plain rfl | exact Re1.ptr rfl | exact Re1.slice rfl) (by first | exact Re1.plain rfl | exact Re1.ptr rfl | exact Re1.slice rfl) (by first | exact Re1.plain rfl | exact Re1.ptr rfl | exact Re1.slice rfl) (by first | exact Re1.plain rfl | exact Re1.ptr rfl | exact Re1.slice rfl) (by first | exact Re1.plain rfl | exact Re1.ptr rfl | exact Re1.slice rfl) (by first | exact Re1.plain rfl | exact Re1.ptr rfl | exact Re1.slice rfl) (by first | exact Re1.plain rfl | exact Re1.ptr rfl | exact Re1.slice rfl) (by first | exact Re1.plain rfl | exact Re1.ptr rfl | exact Re1.slice rfl) (by first | exact Re1.plain rfl | exact Re1.ptr rfl | exact Re1.slice rfl) (by first | exact Re1.plain rfl | exact Re1.ptr rfl | exact Re1.slice rfl)⟩ ?_ | refine N.obl ⟨id, Nat.le_refl _, ptP_re⟩ ?_ | refine N.obl ⟨id, Nat.le_refl _, mvP_re⟩ ?_ | refine N.obl pr_ren ?_ | refine N.obl (on_ren fun _ _ => rfl) ?_ | fail)
  rintro ⟨m, L', B'⟩ ⟨hm', hA', hM'⟩
  have hm' : m ≤ F.n := hm'
  by_cases hm : m < F.n
  · have ej : ((m + 1 : Nat) : Int) = IntKind.i64.wrap ((m : Int) + 1) := by rw [i64s _ (by omega) (by omega)]; omega
    by_cases eo : F.on m = false
    · have hS : tickZ F A (m + 1) = tickZ F A m := if_neg (by rw [eo]; exact Bool.false_ne_true)
      have hS1 : (tickZ F A (m + 1)).1 = (tickZ F A m).1 := by rw [hS]
      have hS2 : (tickZ F A (m + 1)).2.2 = (tickZ F A m).2.2 := by rw [hS]
      repeat' (refine N.go ?_; first | refine N.forkYes (decide_eq_true (by omega)) ?_ | refine N.idx m 1 rfl hm ?_ | refine N.load _ (rd_pr hm hβ.2 rfl) ?_ | refine N.load _ (rd_on hm) ?_ | refine N.forkNo eo ?_ | fail)
      refine N.go ?_
      refine N.nextR (α := Nat × List Ml × List By) (m + 1, L', B') [(0, 0), (1, 1), (2, 2), (3, 3), (4, 4), (5, 5), (6, 6), (7, 7), (8, 8)] ⟨⟨hm, by show AirA W _ _ (tickZ F A (m + 1)).2.1; rw [hS]; exact hA', hM'⟩, by show F.n - (m + 1) < F.n - m; omega⟩ ?_
      repeat' (refine N.go ?_; first | exact N.true | refine N.obl (.plain (by rfl)) ?_ | refine N.obl (.one (.ptr rfl)) ?_ | refine N.obl (.one (.slice rfl)) ?_ | refine N.obl (@ChunkReLe.mk _ _ _ ⟨.inr rfl⟩ id (Nat.le_refl _) (fun j hj => absurd hj (Nat.not_lt_zero j))) ?_ | refine N.obl ⟨id, Nat.le_refl _, lt16 (by first | exact Re1.plain rfl | exact Re1.ptr rfl | exact Re1.slice rfl) (by first | exact Re1.plain rfl | exact Re1.ptr rfl | exact Re1.slice rfl) (by first | exact Re1.plain rfl | exact Re1.ptr rfl | exact Re1.slice rfl) (by first | exact Re1.plain rfl | exact Re1.ptr rfl | exact Re1.slice rfl) (by first | exact Re1.plain rfl | exact Re1.ptr rfl | exact Re1.slice rfl) (by first | exact Re1.plain rfl | exact Re1.ptr rfl | exact Re1.slice rfl) (by first | exact Re1.plain rfl | exact Re1.ptr rfl | exact Re1.slice rfl) (by first | exact Re1.plain rfl | exact Re1.ptr rfl | exact Re1.slice rfl) (by first | exact Re1.plain rfl | exact Re1.ptr rfl | exact Re1.slice rfl) (by first | exact Re1.plain rfl | exact Re1.ptr rfl | exact Re1.slice rfl) (by first | exact Re1.plain rfl | exact Re1.ptr rfl | exact Re1.slice rfl) (by first | exact Re1.plain rfl | exact Re1.ptr rfl | exact Re1.slice rfl) (by first | exact Re1.plain rfl | exact Re1.ptr rfl | exact Re1.slice rfl) (by first | exact Re1.plain rfl | exact Re1.ptr rfl | exact Re1.slice rfl) (by first | exact Re1.plain rfl | exact Re1.ptr rfl | exact Re1.slice rfl) (re1_intE hS2)⟩ ?_ | refine N.obl (reF_eqn (intF_eqn ej) rfl) ?_ | refine N.obl ⟨id, Nat.le_refl _, lt15 (by first | exact Re1.plain rfl | exact Re1.ptr rfl | exact Re1.slice rfl) (by first | exact Re1.plain rfl | exact Re1.ptr rfl | exact Re1.slice rfl) (by first | exact Re1.plain rfl | exact Re1.ptr rfl | exact Re1.slice rfl) (by first | exact Re1.plain rfl | exact Re1.ptr rfl | exact Re1.slice rfl) (by first | exact Re1.plain rfl | exact Re1.ptr rfl | exact Re1.slice rfl) (by first | exact Re1.plain rfl | exact Re1.ptr rfl | exact Re1.slice rfl) (by first | exact Re1.plain rfl | exact Re1.ptr rfl | exact Re1.slice rfl) (by first | exact Re1.plain rfl | exact Re1.ptr rfl | exact Re1.slice rfl) (by first | exact Re1.plain rfl | exact Re1.ptr rfl | exact Re1.slice rfl) (by first | exact Re1.plain rfl | exact Re1.ptr rfl | exact Re1.slice rfl) (by first | exact Re1.plain rfl | exact Re1.ptr rfl | exact Re1.slice rfl) (by first | exact Re1.plain rfl | exact Re1.ptr rfl | exact Re1.slice rfl) (by first | exact Re1.plain rfl | exact Re1.ptr rfl | exact Re1.slice rfl) (by first | exact Re1.plain rfl | exact Re1.ptr rfl | exact Re1.slice rfl) (by first | exact Re1.plain rfl | exact Re1.ptr rfl | exact Re1.slice rfl)⟩ ?_ | refine N.obl ⟨id, Nat.le_refl _, ptP_re⟩ ?_ | refine N.obl ⟨id, Nat.le_refl _, mvP_re⟩ ?_ | refine N.obl pr_ren ?_ | refine N.obl (by rw [hS1]; exact on_ren fun _ _ => rfl) ?_ | fail)
    have eo2 : F.on m = true := by cases h : F.on m <;> first | rfl | exact absurd h eo
    have hsm : (tickZ F A m).1 m = F.s m := tickA_ge _ _ _ _ _ _ _ m m (Nat.le_refl _)
    have ok := hN m hm
    have hS : tickZ F A (m + 1) = (upd (tickZ F A m).1 m (tickS ((tickZ F A m).1 m) (nowA F m)), tellA F.on F.n (fun bs => mkA F.C F.P bs m ((F.tm + 1) * 16777216 + min (0 + 1) 16777215)) m (tickZ F A m).2 (tickB ((tickZ F A m).1 m) (nowA F m))) := if_pos eo2
    have hnow : 0 ≤ nowA F m ∧ nowA F m ≤ 1000000 := by unfold nowA locN; omega
    repeat' (refine N.go ?_; first | refine N.forkYes (decide_eq_true (by omega)) ?_ | refine N.idx m 1 rfl hm ?_ | refine N.load _ (rd_pr hm hβ.2 rfl) ?_ | refine N.load _ (rd_on hm) ?_ | refine N.forkYes eo2 ?_ | fail)
    refine N.go ?_
    refine N.altP ?_
    refine N.go ?_
    refine N.plan [0, 1, 2, 3, 4, 5, 6, 7, 8, 9, 10, 11, 12, 13, 14, 15, 17] [(16, []), (18, [])] (by kernel_rfl) ?_
    repeat' (refine N.go ?_; first | refine N.call (cNowY F.C F.n β.1 2 3 8 F.P _ (F.tm + 1) _ true true true m _ (by rfl) (by rfl) (by rfl) hm hn.2 h4) ?_ | refine N.call (cTFineY F.C F.n β.1 2 3 8 F.P _ (F.tm + 1) _ true true true m _ _ (by rfl) (by rfl) (by rfl) hm hn.2 h5) ?_ | fail)
    refine N.go ?_
    by_cases hd : nowA F m < (F.s m).tx
    · refine N_callQ [5, 18] _ (by show midB _ _ _ _ = Bool.true; kernel_rfl) (fun h₂ hh => cFlTickN F.n m F.g (tickZ F A m).1 hm (by rw [hsm]; exact ok.tick) (nowA F m) _ hnow (by rw [hsm]; exact hd) 5 18 h₂ ((hh 5 (by simp)).trans rfl) ((hh 18 (by simp)).trans rfl)) fun v ms hR => ?_
      obtain ⟨rfl, rfl⟩ := hR
      refine ⟨by simp, ?_⟩
      have hS' : tickZ F A (m + 1) = (upd (tickZ F A m).1 m (tickS ((tickZ F A m).1 m) (nowA F m)), (tickZ F A m).2) := by
        rw [hS, hsm]
        unfold tickB
        rw [if_pos hd]
        rfl
      have hS1 : (tickZ F A (m + 1)).1 = upd (tickZ F A m).1 m (tickS ((tickZ F A m).1 m) (nowA F m)) := by rw [hS']
      have hS2 : (tickZ F A (m + 1)).2.2 = (tickZ F A m).2.2 := by rw [hS']
      repeat' (refine N.go ?_; first | fail)
      refine N.go ?_
      refine N_callQ [0] _ (by show midB _ _ _ _ = Bool.true; kernel_rfl) (fun h₂ hh => callOK_all (cFlSend0 _ _ 0 h₂ _ ((hh 0 (by simp)).trans rfl))) fun v ms hR => ?_
      obtain ⟨rfl, rfl⟩ := hR
      refine ⟨by simp, ?_⟩
      repeat' (refine N.go ?_; first | with_reducible refine N.obl (by decide) ?_ | fail)
      refine N.go ?_
      refine N.nextR (α := Nat × List Ml × List By) (m + 1, L', B') [(0, 0), (1, 1), (2, 2), (3, 3), (4, 4), (5, 5), (6, 6), (7, 7), (8, 8)] ⟨⟨hm, by show AirA W _ _ (tickZ F A (m + 1)).2.1; rw [hS']; exact hA', hM'⟩, by show F.n - (m + 1) < F.n - m; omega⟩ ?_
      repeat' (refine N.go ?_; first | exact N.true | refine N.obl (.plain (by rfl)) ?_ | refine N.obl (.one (.ptr rfl)) ?_ | refine N.obl (.one (.slice rfl)) ?_ | refine N.obl (@ChunkReLe.mk _ _ _ ⟨.inr rfl⟩ id (Nat.le_refl _) (fun j hj => absurd hj (Nat.not_lt_zero j))) ?_ | refine N.obl ⟨id, Nat.le_refl _, lt16 (by first | exact Re1.plain rfl | exact Re1.ptr rfl | exact Re1.slice rfl) (by first | exact Re1.plain rfl | exact Re1.ptr rfl | exact Re1.slice rfl) (by first | exact Re1.plain rfl | exact Re1.ptr rfl | exact Re1.slice rfl) (by first | exact Re1.plain rfl | exact Re1.ptr rfl | exact Re1.slice rfl) (by first | exact Re1.plain rfl | exact Re1.ptr rfl | exact Re1.slice rfl) (by first | exact Re1.plain rfl | exact Re1.ptr rfl | exact Re1.slice rfl) (by first | exact Re1.plain rfl | exact Re1.ptr rfl | exact Re1.slice rfl) (by first | exact Re1.plain rfl | exact Re1.ptr rfl | exact Re1.slice rfl) (by first | exact Re1.plain rfl | exact Re1.ptr rfl | exact Re1.slice rfl) (by first | exact Re1.plain rfl | exact Re1.ptr rfl | exact Re1.slice rfl) (by first | exact Re1.plain rfl | exact Re1.ptr rfl | exact Re1.slice rfl) (by first | exact Re1.plain rfl | exact Re1.ptr rfl | exact Re1.slice rfl) (by first | exact Re1.plain rfl | exact Re1.ptr rfl | exact Re1.slice rfl) (by first | exact Re1.plain rfl | exact Re1.ptr rfl | exact Re1.slice rfl) (by first | exact Re1.plain rfl | exact Re1.ptr rfl | exact Re1.slice rfl) (re1_intE hS2)⟩ ?_ | refine N.obl (reF_eqn (intF_eqn ej) rfl) ?_ | refine N.obl ⟨id, Nat.le_refl _, lt15 (by first | exact Re1.plain rfl | exact Re1.ptr rfl | exact Re1.slice rfl) (by first | exact Re1.plain rfl | exact Re1.ptr rfl | exact Re1.slice rfl) (by first | exact Re1.plain rfl | exact Re1.ptr rfl | exact Re1.slice rfl) (by first | exact Re1.plain rfl | exact Re1.ptr rfl | exact Re1.slice rfl) (by first | exact Re1.plain rfl | exact Re1.ptr rfl | exact Re1.slice rfl) (by first | exact Re1.plain rfl | exact Re1.ptr rfl | exact Re1.slice rfl) (by first | exact Re1.plain rfl | exact Re1.ptr rfl | exact Re1.slice rfl) (by first | exact Re1.plain rfl | exact Re1.ptr rfl | exact Re1.slice rfl) (by first | exact Re1.plain rfl | exact Re1.ptr rfl | exact Re1.slice rfl) (by first | exact Re1.plain rfl | exact Re1.ptr rfl | exact Re1.slice rfl) (by first | exact Re1.plain rfl | exact Re1.ptr rfl | exact Re1.slice rfl) (by first | exact Re1.plain rfl | exact Re1.ptr rfl | exact Re1.slice rfl) (by first | exact Re1.plain rfl | exact Re1.ptr rfl | exact Re1.slice rfl) (by first | exact Re1.plain rfl | exact Re1.ptr rfl | exact Re1.slice rfl) (by first | exact Re1.plain rfl | exact Re1.ptr rfl | exact Re1.slice rfl)⟩ ?_ | refine N.obl ⟨id, Nat.le_refl _, ptP_re⟩ ?_ | refine N.obl ⟨id, Nat.le_refl _, mvP_re⟩ ?_ | refine N.obl pr_ren ?_ | refine N.obl (by rw [hS1]; exact on_ren fun _ _ => rfl) ?_ | fail)
    · have hlost := tickA_lost F.C F.P F.n F.on (nowA F) ((F.tm + 1) * 16777216 + min (0 + 1) 16777215) (F.s, (A, F.lost)) hl m
      by_cases hv : (F.s m).fv = true
      · refine N_callQ [5, 18, 17] _ (by show midB _ _ _ _ = Bool.true; kernel_rfl) (fun h₂ hh => cFlTickE F.n m F.g (tickZ F A m).1 hm (by rw [hsm]; exact ok.tick) (by rw [hsm]; exact hv) (nowA F m) _ hnow (by rw [hsm]; exact hd) 5 18 17 (by decide) h₂ ((hh 5 (by simp)).trans rfl) ((hh 18 (by simp)).trans rfl) ((hh 17 (by simp)).trans rfl)) fun v ms hR => ?_
        obtain ⟨κ, hκ, rfl, rfl⟩ := hR
        refine ⟨by simp, ?_⟩
        have hd' : ¬ nowA F m < ((tickZ F A m).1 m).tx := by rw [hsm]; exact hd
        have hv' : ((tickZ F A m).1 m).fv = true := by rw [hsm]; exact hv
        have hS' : tickZ F A (m + 1) = (upd (tickZ F A m).1 m (tickS ((tickZ F A m).1 m) (nowA F m)), sendA m F.on (mkA F.C F.P (encB 5 ((tickZ F A m).1 m).id ((tickZ F A m).1 m).boot ((tickZ F A m).1 m).seq (nowA F m) 0 0 0 0 0 ((tickZ F A m).1 m).fx ((tickZ F A m).1 m).fy ((tickZ F A m).1 m).fa ((tickZ F A m).1 m).fb ((tickZ F A m).1 m).fd) m ((F.tm + 1) * 16777216 + min (0 + 1) 16777215)) (tickZ F A m).2 F.n) := by
          rw [hS]
          unfold tickB
          rw [if_neg hd', hv']
          rfl
        have hS1 : (tickZ F A (m + 1)).1 = upd (tickZ F A m).1 m (tickS ((tickZ F A m).1 m) (nowA F m)) := by rw [hS']
        have hS2 : (tickZ F A (m + 1)).2.2 = (sendA m F.on (mkA F.C F.P (encB 5 ((tickZ F A m).1 m).id ((tickZ F A m).1 m).boot ((tickZ F A m).1 m).seq (nowA F m) 0 0 0 0 0 ((tickZ F A m).1 m).fx ((tickZ F A m).1 m).fy ((tickZ F A m).1 m).fa ((tickZ F A m).1 m).fb ((tickZ F A m).1 m).fd) m ((F.tm + 1) * 16777216 + min (0 + 1) 16777215)) (tickZ F A m).2 F.n).2 := by rw [hS']
        repeat' (refine N.go ?_; first | fail)
        refine N.go ?_
        refine N_callQ [0, 2, 3, 8, 5, 6, 7, 1, 17] _ (by show midB _ _ _ _ = Bool.true; kernel_rfl) (fun h₂ hh => cFlSend1 F.C F.n β.2 β.1 hn h5 (tickZ F A m).2.2 hlost F.P (fun _ => false) (F.tm + 1) _ _ F.on (prF F.g F.n) W B' L' (tickZ F A m).2.1 hA' m hm _ 5 ((tickZ F A m).1 m).id ((tickZ F A m).1 m).boot ((tickZ F A m).1 m).seq (nowA F m) 0 0 0 0 0 ((tickZ F A m).1 m).fx ((tickZ F A m).1 m).fy ((tickZ F A m).1 m).fa ((tickZ F A m).1 m).fb ((tickZ F A m).1 m).fd _ κ (fi_small (by decide)) (by rw [hsm]; exact fi_small (by have := ok.id; omega)) (by rw [hsm]; exact fi_small (by have := ok.tick.boot; omega)) (by rw [hsm]; exact fi_small (by have := ok.tick.seq; omega)) (fi_small (by omega)) (fi_small (by decide)) (fi_small (by decide)) (fi_small (by decide)) (fi_small (by decide)) (fi_small (by decide)) (by rw [hsm]; have hm := ok.may hv; unfold mayP withinP at hm; exact fi_small (by omega)) (by rw [hsm]; have hm := ok.may hv; unfold mayP withinP at hm; exact fi_small (by omega)) (by rw [hsm]; have hm := ok.may hv; unfold mayP withinP at hm; exact fi_small (by omega)) (by rw [hsm]; have hm := ok.may hv; unfold mayP withinP at hm; exact fi_small (by omega)) (by rw [hsm]; have hm := ok.may hv; unfold mayP withinP at hm; exact fi_small (by omega))  (fun h => cFrMay5 _ _ _ _ _ _ _ _ _ (by rw [hsm]; exact ⟨ok.id.1, ok.id.2⟩) (by rw [hsm]; exact ok.tick.boot) (by rw [hsm]; exact ⟨ok.tick.seq.1, by have := ok.tick.seq.2; omega⟩) hnow (by rw [hsm]; exact ok.may hv) h) 0 2 3 8 5 6 7 1 17 h₂ ((hh 0 (by simp)).trans rfl) ((hh 2 (by simp)).trans rfl) ((hh 3 (by simp)).trans rfl) ((hh 8 (by simp)).trans rfl) ((hh 5 (by simp)).trans rfl) ((hh 6 (by simp)).trans rfl) ((hh 7 (by simp)).trans rfl) ((hh 1 (by simp)).trans rfl) ((hh 17 (by simp)).trans rfl) (by decide)) fun v ms hR => ?_
        obtain ⟨L2, B2, hA2, hM2, rfl, rfl⟩ := hR
        refine ⟨by simp, ?_⟩
        repeat' (refine N.go ?_; first | with_reducible refine N.obl (by decide) ?_ | fail)
        refine N.go ?_
        refine N.nextR (α := Nat × List Ml × List By) (m + 1, L2, B2) [(0, 0), (1, 1), (2, 2), (3, 3), (4, 4), (5, 5), (6, 6), (7, 7), (8, 8)] ⟨⟨hm, by show AirA W _ _ (tickZ F A (m + 1)).2.1; rw [hS']; exact hA2, fun e h => hM2 e (hM' e h)⟩, by show F.n - (m + 1) < F.n - m; omega⟩ ?_
        repeat' (refine N.go ?_; first | exact N.true | refine N.obl (.plain (by rfl)) ?_ | refine N.obl (.one (.ptr rfl)) ?_ | refine N.obl (.one (.slice rfl)) ?_ | refine N.obl (@ChunkReLe.mk _ _ _ ⟨.inr rfl⟩ id (Nat.le_refl _) (fun j hj => absurd hj (Nat.not_lt_zero j))) ?_ | refine N.obl ⟨id, Nat.le_refl _, lt16 (by first | exact Re1.plain rfl | exact Re1.ptr rfl | exact Re1.slice rfl) (by first | exact Re1.plain rfl | exact Re1.ptr rfl | exact Re1.slice rfl) (by first | exact Re1.plain rfl | exact Re1.ptr rfl | exact Re1.slice rfl) (by first | exact Re1.plain rfl | exact Re1.ptr rfl | exact Re1.slice rfl) (by first | exact Re1.plain rfl | exact Re1.ptr rfl | exact Re1.slice rfl) (by first | exact Re1.plain rfl | exact Re1.ptr rfl | exact Re1.slice rfl) (by first | exact Re1.plain rfl | exact Re1.ptr rfl | exact Re1.slice rfl) (by first | exact Re1.plain rfl | exact Re1.ptr rfl | exact Re1.slice rfl) (by first | exact Re1.plain rfl | exact Re1.ptr rfl | exact Re1.slice rfl) (by first | exact Re1.plain rfl | exact Re1.ptr rfl | exact Re1.slice rfl) (by first | exact Re1.plain rfl | exact Re1.ptr rfl | exact Re1.slice rfl) (by first | exact Re1.plain rfl | exact Re1.ptr rfl | exact Re1.slice rfl) (by first | exact Re1.plain rfl | exact Re1.ptr rfl | exact Re1.slice rfl) (by first | exact Re1.plain rfl | exact Re1.ptr rfl | exact Re1.slice rfl) (by first | exact Re1.plain rfl | exact Re1.ptr rfl | exact Re1.slice rfl) (re1_intE hS2)⟩ ?_ | refine N.obl (reF_eqn (intF_eqn ej) rfl) ?_ | refine N.obl ⟨id, Nat.le_refl _, lt15 (by first | exact Re1.plain rfl | exact Re1.ptr rfl | exact Re1.slice rfl) (by first | exact Re1.plain rfl | exact Re1.ptr rfl | exact Re1.slice rfl) (by first | exact Re1.plain rfl | exact Re1.ptr rfl | exact Re1.slice rfl) (by first | exact Re1.plain rfl | exact Re1.ptr rfl | exact Re1.slice rfl) (by first | exact Re1.plain rfl | exact Re1.ptr rfl | exact Re1.slice rfl) (by first | exact Re1.plain rfl | exact Re1.ptr rfl | exact Re1.slice rfl) (by first | exact Re1.plain rfl | exact Re1.ptr rfl | exact Re1.slice rfl) (by first | exact Re1.plain rfl | exact Re1.ptr rfl | exact Re1.slice rfl) (by first | exact Re1.plain rfl | exact Re1.ptr rfl | exact Re1.slice rfl) (by first | exact Re1.plain rfl | exact Re1.ptr rfl | exact Re1.slice rfl) (by first | exact Re1.plain rfl | exact Re1.ptr rfl | exact Re1.slice rfl) (by first | exact Re1.plain rfl | exact Re1.ptr rfl | exact Re1.slice rfl) (by first | exact Re1.plain rfl | exact Re1.ptr rfl | exact Re1.slice rfl) (by first | exact Re1.plain rfl | exact Re1.ptr rfl | exact Re1.slice rfl) (by first | exact Re1.plain rfl | exact Re1.ptr rfl | exact Re1.slice rfl)⟩ ?_ | refine N.obl ⟨id, Nat.le_refl _, ptP_re⟩ ?_ | refine N.obl ⟨id, Nat.le_refl _, mvP_re⟩ ?_ | refine N.obl pr_ren ?_ | refine N.obl (by rw [hS1]; exact on_ren fun _ _ => rfl) ?_ | fail)
      · have hv : (F.s m).fv = false := by cases h : (F.s m).fv <;> first | rfl | exact absurd h hv
        refine N_callQ [5, 18, 17] _ (by show midB _ _ _ _ = Bool.true; kernel_rfl) (fun h₂ hh => cFlTickB F.n m F.g (tickZ F A m).1 hm (by rw [hsm]; exact ok.tick) (by rw [hsm]; exact hv) (nowA F m) _ hnow (by rw [hsm]; exact hd) 5 18 17 (by decide) h₂ ((hh 5 (by simp)).trans rfl) ((hh 18 (by simp)).trans rfl) ((hh 17 (by simp)).trans rfl)) fun v ms hR => ?_
        obtain ⟨κ, hκ, rfl, rfl⟩ := hR
        refine ⟨by simp, ?_⟩
        have hd' : ¬ nowA F m < ((tickZ F A m).1 m).tx := by rw [hsm]; exact hd
        have hv' : ((tickZ F A m).1 m).fv = false := by rw [hsm]; exact hv
        have hS' : tickZ F A (m + 1) = (upd (tickZ F A m).1 m (tickS ((tickZ F A m).1 m) (nowA F m)), sendA m F.on (mkA F.C F.P (encB 1 ((tickZ F A m).1 m).id ((tickZ F A m).1 m).boot ((tickZ F A m).1 m).seq (nowA F m) 0 0 0 0 0 0 0 0 0 0) m ((F.tm + 1) * 16777216 + min (0 + 1) 16777215)) (tickZ F A m).2 F.n) := by
          rw [hS]
          unfold tickB
          rw [if_neg hd', hv']
          rfl
        have hS1 : (tickZ F A (m + 1)).1 = upd (tickZ F A m).1 m (tickS ((tickZ F A m).1 m) (nowA F m)) := by rw [hS']
        have hS2 : (tickZ F A (m + 1)).2.2 = (sendA m F.on (mkA F.C F.P (encB 1 ((tickZ F A m).1 m).id ((tickZ F A m).1 m).boot ((tickZ F A m).1 m).seq (nowA F m) 0 0 0 0 0 0 0 0 0 0) m ((F.tm + 1) * 16777216 + min (0 + 1) 16777215)) (tickZ F A m).2 F.n).2 := by rw [hS']
        repeat' (refine N.go ?_; first | fail)
        refine N.go ?_
        refine N_callQ [0, 2, 3, 8, 5, 6, 7, 1, 17] _ (by show midB _ _ _ _ = Bool.true; kernel_rfl) (fun h₂ hh => cFlSend1 F.C F.n β.2 β.1 hn h5 (tickZ F A m).2.2 hlost F.P (fun _ => false) (F.tm + 1) _ _ F.on (prF F.g F.n) W B' L' (tickZ F A m).2.1 hA' m hm _ 1 ((tickZ F A m).1 m).id ((tickZ F A m).1 m).boot ((tickZ F A m).1 m).seq (nowA F m) 0 0 0 0 0 0 0 0 0 0 _ κ (fi_small (by decide)) (by rw [hsm]; exact fi_small (by have := ok.id; omega)) (by rw [hsm]; exact fi_small (by have := ok.tick.boot; omega)) (by rw [hsm]; exact fi_small (by have := ok.tick.seq; omega)) (fi_small (by omega)) (fi_small (by decide)) (fi_small (by decide)) (fi_small (by decide)) (fi_small (by decide)) (fi_small (by decide)) (fi_small (by decide)) (fi_small (by decide)) (fi_small (by decide)) (fi_small (by decide)) (fi_small (by decide))  (fun h => cFrMay1 _ _ _ _ (by rw [hsm]; exact ⟨ok.id.1, ok.id.2⟩) (by rw [hsm]; exact ok.tick.boot) (by rw [hsm]; exact ⟨ok.tick.seq.1, by have := ok.tick.seq.2; omega⟩) hnow h) 0 2 3 8 5 6 7 1 17 h₂ ((hh 0 (by simp)).trans rfl) ((hh 2 (by simp)).trans rfl) ((hh 3 (by simp)).trans rfl) ((hh 8 (by simp)).trans rfl) ((hh 5 (by simp)).trans rfl) ((hh 6 (by simp)).trans rfl) ((hh 7 (by simp)).trans rfl) ((hh 1 (by simp)).trans rfl) ((hh 17 (by simp)).trans rfl) (by decide)) fun v ms hR => ?_
        obtain ⟨L2, B2, hA2, hM2, rfl, rfl⟩ := hR
        refine ⟨by simp, ?_⟩
        repeat' (refine N.go ?_; first | with_reducible refine N.obl (by decide) ?_ | fail)
        refine N.go ?_
        refine N.nextR (α := Nat × List Ml × List By) (m + 1, L2, B2) [(0, 0), (1, 1), (2, 2), (3, 3), (4, 4), (5, 5), (6, 6), (7, 7), (8, 8)] ⟨⟨hm, by show AirA W _ _ (tickZ F A (m + 1)).2.1; rw [hS']; exact hA2, fun e h => hM2 e (hM' e h)⟩, by show F.n - (m + 1) < F.n - m; omega⟩ ?_
        repeat' (refine N.go ?_; first | exact N.true | refine N.obl (.plain (by rfl)) ?_ | refine N.obl (.one (.ptr rfl)) ?_ | refine N.obl (.one (.slice rfl)) ?_ | refine N.obl (@ChunkReLe.mk _ _ _ ⟨.inr rfl⟩ id (Nat.le_refl _) (fun j hj => absurd hj (Nat.not_lt_zero j))) ?_ | refine N.obl ⟨id, Nat.le_refl _, lt16 (by first | exact Re1.plain rfl | exact Re1.ptr rfl | exact Re1.slice rfl) (by first | exact Re1.plain rfl | exact Re1.ptr rfl | exact Re1.slice rfl) (by first | exact Re1.plain rfl | exact Re1.ptr rfl | exact Re1.slice rfl) (by first | exact Re1.plain rfl | exact Re1.ptr rfl | exact Re1.slice rfl) (by first | exact Re1.plain rfl | exact Re1.ptr rfl | exact Re1.slice rfl) (by first | exact Re1.plain rfl | exact Re1.ptr rfl | exact Re1.slice rfl) (by first | exact Re1.plain rfl | exact Re1.ptr rfl | exact Re1.slice rfl) (by first | exact Re1.plain rfl | exact Re1.ptr rfl | exact Re1.slice rfl) (by first | exact Re1.plain rfl | exact Re1.ptr rfl | exact Re1.slice rfl) (by first | exact Re1.plain rfl | exact Re1.ptr rfl | exact Re1.slice rfl) (by first | exact Re1.plain rfl | exact Re1.ptr rfl | exact Re1.slice rfl) (by first | exact Re1.plain rfl | exact Re1.ptr rfl | exact Re1.slice rfl) (by first | exact Re1.plain rfl | exact Re1.ptr rfl | exact Re1.slice rfl) (by first | exact Re1.plain rfl | exact Re1.ptr rfl | exact Re1.slice rfl) (by first | exact Re1.plain rfl | exact Re1.ptr rfl | exact Re1.slice rfl) (re1_intE hS2)⟩ ?_ | refine N.obl (reF_eqn (intF_eqn ej) rfl) ?_ | refine N.obl ⟨id, Nat.le_refl _, lt15 (by first | exact Re1.plain rfl | exact Re1.ptr rfl | exact Re1.slice rfl) (by first | exact Re1.plain rfl | exact Re1.ptr rfl | exact Re1.slice rfl) (by first | exact Re1.plain rfl | exact Re1.ptr rfl | exact Re1.slice rfl) (by first | exact Re1.plain rfl | exact Re1.ptr rfl | exact Re1.slice rfl) (by first | exact Re1.plain rfl | exact Re1.ptr rfl | exact Re1.slice rfl) (by first | exact Re1.plain rfl | exact Re1.ptr rfl | exact Re1.slice rfl) (by first | exact Re1.plain rfl | exact Re1.ptr rfl | exact Re1.slice rfl) (by first | exact Re1.plain rfl | exact Re1.ptr rfl | exact Re1.slice rfl) (by first | exact Re1.plain rfl | exact Re1.ptr rfl | exact Re1.slice rfl) (by first | exact Re1.plain rfl | exact Re1.ptr rfl | exact Re1.slice rfl) (by first | exact Re1.plain rfl | exact Re1.ptr rfl | exact Re1.slice rfl) (by first | exact Re1.plain rfl | exact Re1.ptr rfl | exact Re1.slice rfl) (by first | exact Re1.plain rfl | exact Re1.ptr rfl | exact Re1.slice rfl) (by first | exact Re1.plain rfl | exact Re1.ptr rfl | exact Re1.slice rfl) (by first | exact Re1.plain rfl | exact Re1.ptr rfl | exact Re1.slice rfl)⟩ ?_ | refine N.obl ⟨id, Nat.le_refl _, ptP_re⟩ ?_ | refine N.obl ⟨id, Nat.le_refl _, mvP_re⟩ ?_ | refine N.obl pr_ren ?_ | refine N.obl (by rw [hS1]; exact on_ren fun _ _ => rfl) ?_ | fail)
  · obtain rfl : m = F.n := by omega
    repeat' (refine N.go ?_; first | refine N.forkNo (decide_eq_false (by omega)) ?_ | fail)
    refine N.go ?_
    refine closeN (ok := flOK (tickF F L' (tickZ F A F.n))) (hB := flH (tickF F L' (tickZ F A F.n))) β 0 [(0, 0), (1, 2), (2, 3), (3, 8), (4, 5), (5, 6), (6, 7)] [1] (fun l i hm' hl => ?_) (fun i hi => ?_) hβ rfl ⟨_, rfl⟩ rfl rfl ?_ (fun k hk l i hm' => ?_) (safeM (by rfl)) (fun ρ ρ' _ => rfl) (Nat.zero_lt_succ _) ?_
    · simp only [List.mem_cons, Prod.mk.injEq, List.not_mem_nil, or_false] at hm'
      have hl : i < 2 := hl
      obtain rfl : i = 0 := by omega
      exact ⟨_, rfl, flP_ne F, packX_selfish⟩
    · have hi : i < 2 := hi
      rcases (by omega : i = 0 ∨ i = 1) with rfl | rfl
      · exact .inl rfl
      · exact .inr (List.mem_singleton.2 rfl)
    · intro l d hl
      match l, hl with
      | 0, hl =>
        obtain rfl : _ = d := by simpa using hl
        exact ⟨0, _, rfl, rfl, rfl, Nat.le_refl _, lt16 (by first | exact Re1.plain rfl | exact Re1.ptr rfl | exact Re1.slice rfl) (by first | exact Re1.plain rfl | exact Re1.ptr rfl | exact Re1.slice rfl) (by first | exact Re1.plain rfl | exact Re1.ptr rfl | exact Re1.slice rfl) (by first | exact Re1.plain rfl | exact Re1.ptr rfl | exact Re1.slice rfl) (by first | exact Re1.plain rfl | exact Re1.ptr rfl | exact Re1.slice rfl) (by first | exact Re1.plain rfl | exact Re1.ptr rfl | exact Re1.slice rfl) (by first | exact Re1.plain rfl | exact Re1.ptr rfl | exact Re1.slice rfl) (by first | exact Re1.plain rfl | exact Re1.ptr rfl | exact Re1.slice rfl) (by first | exact Re1.plain rfl | exact Re1.ptr rfl | exact Re1.slice rfl) (by first | exact Re1.plain rfl | exact Re1.ptr rfl | exact Re1.slice rfl) (by first | exact Re1.plain rfl | exact Re1.ptr rfl | exact Re1.slice rfl) (by first | exact Re1.plain rfl | exact Re1.ptr rfl | exact Re1.slice rfl) (by first | exact Re1.plain rfl | exact Re1.ptr rfl | exact Re1.slice rfl) (by first | exact Re1.plain rfl | exact Re1.ptr rfl | exact Re1.slice rfl) (by first | exact Re1.plain rfl | exact Re1.ptr rfl | exact Re1.slice rfl) (by first | exact Re1.plain rfl | exact Re1.ptr rfl | exact Re1.slice rfl), .inl rfl, .inl (by show 0 < 16; decide)⟩
      | 1, hl =>
        obtain rfl : _ = d := by simpa using hl
        exact ⟨2, _, rfl, rfl, rfl, Nat.le_refl _, lt15 (by first | exact Re1.plain rfl | exact Re1.ptr rfl | exact Re1.slice rfl) (by first | exact Re1.plain rfl | exact Re1.ptr rfl | exact Re1.slice rfl) (by first | exact Re1.plain rfl | exact Re1.ptr rfl | exact Re1.slice rfl) (by first | exact Re1.plain rfl | exact Re1.ptr rfl | exact Re1.slice rfl) (by first | exact Re1.plain rfl | exact Re1.ptr rfl | exact Re1.slice rfl) (by first | exact Re1.plain rfl | exact Re1.ptr rfl | exact Re1.slice rfl) (by first | exact Re1.plain rfl | exact Re1.ptr rfl | exact Re1.slice rfl) (by first | exact Re1.plain rfl | exact Re1.ptr rfl | exact Re1.slice rfl) (by first | exact Re1.plain rfl | exact Re1.ptr rfl | exact Re1.slice rfl) (by first | exact Re1.plain rfl | exact Re1.ptr rfl | exact Re1.slice rfl) (by first | exact Re1.plain rfl | exact Re1.ptr rfl | exact Re1.slice rfl) (by first | exact Re1.plain rfl | exact Re1.ptr rfl | exact Re1.slice rfl) (by first | exact Re1.plain rfl | exact Re1.ptr rfl | exact Re1.slice rfl) (by first | exact Re1.plain rfl | exact Re1.ptr rfl | exact Re1.slice rfl) (by first | exact Re1.plain rfl | exact Re1.ptr rfl | exact Re1.slice rfl), .inl rfl, .inl (by show 0 < 15; decide)⟩
      | 2, hl =>
        obtain rfl : _ = d := by simpa using hl
        exact ⟨3, _, rfl, rfl, rfl, Nat.le_refl _, ptP_re, .inl rfl, .inl (by show 0 < F.n * 2; omega)⟩
      | 3, hl =>
        obtain rfl : _ = d := by simpa using hl
        exact ⟨8, _, rfl, rfl, rfl, Nat.le_refl _, mvP_re, .inl rfl, .inl (by show 0 < F.n; omega)⟩
      | 4, hl =>
        obtain rfl : _ = d := by simpa using hl
        exact ⟨5, _, rfl, rfl, rfl, Nat.le_refl _, (on_ren fun _ _ => rfl).re, .inr rfl, .inl (by show 0 < F.n; omega)⟩
      | 5, hl =>
        obtain rfl : _ = d := by simpa using hl
        exact ⟨6, _, rfl, rfl, rfl, Nat.le_refl _, pr_ren.re, .inl rfl, .inl (by have := hβ.2; show 0 < β.2; omega)⟩
      | 6, hl =>
        obtain rfl : _ = d := by simpa using hl
        exact ⟨7, _, rfl, rfl, rfl, Nat.le_refl _, fun j hj => absurd hj (Nat.not_lt_zero j), .inr rfl, .inr packX_selfish⟩
    · obtain rfl := List.mem_singleton.1 hk
      simp only [List.mem_cons, Prod.mk.injEq, List.not_mem_nil, or_false] at hm'
      omega
    refine N.some (L', B') ⟨⟨hA', hM'⟩, ?_⟩
    refine N.obl (.plain rfl) ?_
    refine N.obl ⟨⟨_, rfl, fun h => h, Nat.le_refl _, fun j hj => absurd hj (Nat.not_lt_zero j)⟩, ⟨_, rfl, fun h => h, Nat.le_refl _, fun j hj => absurd hj (Nat.not_lt_zero j)⟩, trivial⟩ ?_
    refine N.obl trivial ?_
    refine N.obl ⟨⟨.inr ⟨_, rfl, rfl⟩, .inr ⟨_, rfl, rfl⟩, trivial⟩, trivial⟩ ?_
    exact N.true
end Go.Proofs.YtdljelmbjdjpjaaGreat
