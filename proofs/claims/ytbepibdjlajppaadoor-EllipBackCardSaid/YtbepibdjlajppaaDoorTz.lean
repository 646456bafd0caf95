
/-
  What ellip.Parse answers at what ellip.Text writes.
-/
import Derived.Test.YtbepibdjlajppaaDoorTx
import Derived.Test.YtbepibdjlajppaaDoorRen
import Derived.Test.YtbepibdjlajppaaDoorMore
import Derived.Test.YtbepibdjlajppaaDoorPack
set_option linter.unusedVariables false
set_option linter.unusedSimpArgs false
namespace Go.Proofs.YtbepibdjlajppaaDoor
open Go Go.RowKit Sx

theorem App0N.mkq {cj : Chunk} {g m size bytes : Nat} {z : Value} {slot : Nat} {K : Value → List (Nat × Chunk) → Prop} (v : Value) (hr : Reads cj g true (m * size) v) (h0 : 0 < m) (h1 : m ≤ 9223372036854775807) (h2 : m * bytes ≤ 140737488355328)
    (k : ∀ cap, m ≤ cap → K (.slice (some ⟨slot, 0, some 0⟩) m cap) [(slot, grown ⟨true, 0, []⟩ 0 m size v z cap)]) : N (App0N cj g m size bytes z slot K) := N.mk (.inl ⟨v, hr, h0, h1, h2, k⟩)
theorem AppN.mkq {ci : Chunk} {k s l c : Nat} {cj : Chunk} {g m size bytes : Nat} {z : Value} {slot : Nat} {K : Value → List (Nat × Chunk) → Prop} (v : Value) (hr : Reads cj g true (m * size) v) (hf : flatB v (m * size) = true) (hl : l * size ≤ ci.n) (h1 : l + m ≤ 9223372036854775807) (h2 : (l + m) * bytes ≤ 140737488355328)
    (d : Chunk) (hw : l + m ≤ c → Writes ci (l * size) (m * size) v d) (k1 : l + m ≤ c → K (.slice (some ⟨k, 0, some s⟩) (l + m) c) [(k, d)]) (k2 : c < l + m → ∀ cap, l + m ≤ cap → K (.slice (some ⟨slot, 0, some 0⟩) (l + m) cap) [(slot, grown ci l m size v z cap)]) : N (AppN ci k s l c cj g m size bytes z slot K) :=
  N.mk ⟨v, hr, hf, hl, h1, h2, fun h => ⟨d, hw h, k1 h⟩, k2⟩
theorem nil_is (x : Operand) : BinIs Tryd.prog .neq 55 x (.const .nilIface) .nilIface .nilIface (.bool false) := ⟨rfl, rfl, rfl, fun w => by go_simp⟩
theorem str_same (x y : Operand) (a : ByteArray) : BinIs Tryd.prog .neq 9 x y (.string a) (.string a) (.bool false) := ⟨rfl, rfl, rfl, fun w => by go_simp⟩
theorem cSplit2 (W : World) (hW : TxOK W) (s a b : ByteArray) (hs : s.size < 4294967281) (h1 : Lib.countB s ⟨#[44]⟩ = 1) (h2 : Lib.splitB ⟨#[44]⟩ 0 1 s = [a, b]) (i K : Nat) (h : List (Option Chunk)) (hi : h[i]? = some (some (oldC W))) (hK : h[K]? = some none) :
    CallOK Tryd.prog 18 [.string s, .string ⟨#[44]⟩] h (.slice (some ⟨K, 0, some 0⟩) 2 2) [(K, ⟨true, 2, [(0, 2, .agg ⟨[.string a, .string b]⟩)]⟩)] [i] :=
  cSplit W hW s [a, b] hs (by rw [h1]; rfl) (by rw [h1]; exact h2) i K h hi hK
theorem cSplit3 (W : World) (hW : TxOK W) (s a b c : ByteArray) (hs : s.size < 4294967281) (h1 : Lib.countB s ⟨#[44]⟩ = 2) (h2 : Lib.splitB ⟨#[44]⟩ 0 2 s = [a, b, c]) (i K : Nat) (h : List (Option Chunk)) (hi : h[i]? = some (some (oldC W))) (hK : h[K]? = some none) :
    CallOK Tryd.prog 18 [.string s, .string ⟨#[44]⟩] h (.slice (some ⟨K, 0, some 0⟩) 3 3) [(K, ⟨true, 3, [(0, 3, .agg ⟨[.string a, .string b, .string c]⟩)]⟩)] [i] :=
  cSplit W hW s [a, b, c] hs (by rw [h1]; rfl) (by rw [h1]; exact h2) i K h hi hK
theorem reads_int1 (v : Int) : Reads ⟨true, 1, [(0, 1, .agg ⟨[.int .i64 v]⟩)]⟩ 0 true (1 * 1) (.agg ⟨[.int .i64 v]⟩) := ⟨Nat.le_refl _, _, rfl, rfl, fun j hj => by
  match j, hj with
  | 0, _ => rfl⟩
/-- A row of whole numbers, whatever lies behind them. -/
structure IntsIn (c : Chunk) (l : List Int) (cap : Nat) : Prop where
  own : c.own = true
  x : c.x = Ext.none
  n : c.n = cap
  le : l.length ≤ cap
  cell : ∀ j, j < l.length → c.f j = .int .i64 (l.getD j 0)
def pushC (c : Chunk) (o : Nat) (v : Int) : Chunk := @Chunk.mk Ext.none true c.n ((o, 1, .agg ⟨[.int .i64 v]⟩) :: c.ps)
theorem writes_push {c : Chunk} {l : List Int} {cap o n : Nat} (v : Int) (h : IntsIn c l cap) (ho : o = l.length) (hn : n = 1) (hc : o + 1 ≤ cap) : Writes c o n (.agg ⟨[.int .i64 v]⟩) (pushC c o v) := by
  subst hn
  refine ⟨h.own, by rw [h.n]; exact hc, ?_, fun j hj => ?_⟩
  · show (c.n, Ext.none) = (c.n, c.x); rw [h.x]
  · show cellOf ((o, 1, .agg ⟨[.int .i64 v]⟩) :: c.ps) j = _
    rw [cellOf_cons]; rfl
theorem ints_push {c : Chunk} {l : List Int} {cap o : Nat} (v : Int) (h : IntsIn c l cap) (ho : o = l.length) (hc : o + 1 ≤ cap) : IntsIn (pushC c o v) (l ++ [v]) cap := by
  subst ho
  refine ⟨rfl, rfl, h.n, by simpa using hc, fun j hj => ?_⟩
  show cellOf ((l.length, 1, .agg ⟨[.int .i64 v]⟩) :: c.ps) j = _
  rw [cellOf_cons]
  rcases Nat.lt_or_ge j l.length with h1 | h1
  · rw [if_neg (by omega), List.getD_eq_getElem?_getD, List.getElem?_append_left h1, ← List.getD_eq_getElem?_getD]
    exact h.cell j h1
  · obtain rfl : j = l.length := by have : j < (l ++ [v]).length := hj
                                    simp at this; omega
    rw [if_pos (by omega), Nat.sub_self, List.getD_eq_getElem?_getD, List.getElem?_append_right (Nat.le_refl _), Nat.sub_self]
    rfl
theorem ints_grown {c : Chunk} {l : List Int} {o cap2 size : Nat} {z : Value} (v : Int) (hl : ∀ j, j < l.length → c.f j = .int .i64 (l.getD j 0)) (ho : o = l.length) (hs : size = 1) (hc : o + 1 ≤ cap2) : IntsIn (grown c o 1 size (.agg ⟨[.int .i64 v]⟩) z cap2) (l ++ [v]) cap2 := by
  subst ho hs
  refine ⟨rfl, rfl, Nat.mul_one _, by simpa using hc, fun j hj => ?_⟩
  rcases Nat.lt_or_ge j l.length with h1 | h1
  · rw [grown_old (by omega), hl j h1, List.getD_eq_getElem?_getD, List.getD_eq_getElem?_getD, List.getElem?_append_left h1]
  · obtain rfl : j = l.length := by have : j < (l ++ [v]).length := hj
                                    simp at this; omega
    have := grown_new (ci := c) (l := l.length) (m := 1) (size := 1) (cap := cap2) (v := .agg ⟨[.int .i64 v]⟩) (z := z) (j := 0) (by decide)
    rw [Nat.mul_one, Nat.add_zero] at this
    rw [this, List.getD_eq_getElem?_getD, List.getElem?_append_right (Nat.le_refl _), Nat.sub_self]
    rfl
theorem post_ints {ix : List (Nat × Nat)} {h : List (Option Chunk)} {k n cap : Nat} {c : Chunk} {l : List Int} {vs : List Value} (hh : h[k]? = some (some c)) (hc : IntsIn c l cap) (hn : l.length = n) (hv : l.map (Value.int .i64) = vs) : PostC ix h k ⟨true, n, [(0, n, .agg ⟨vs⟩)]⟩ := by
  subst hn hv
  refine ⟨c, hh, fun _ => hc.own, by rw [hc.n]; exact hc.le, fun j hj => ?_⟩
  have hj : j < l.length := hj
  have e1 : (Chunk.f ⟨true, l.length, [(0, l.length, .agg ⟨l.map (Value.int .i64)⟩)]⟩ j) = .int .i64 (l.getD j 0) := by
    show cellOf [(0, l.length, .agg ⟨l.map (Value.int .i64)⟩)] j = _
    rw [cellOf_cons, if_pos (by omega), Nat.sub_zero]
    show (l.map (Value.int .i64)).getD j undef = _
    rw [List.getD_eq_getElem?_getD, List.getD_eq_getElem?_getD, List.getElem?_map, List.getElem?_eq_getElem hj]; rfl
  rw [e1, hc.cell j hj]
  exact .plain rfl
theorem CallAll.to2 {P : Program} {g : FuncId} {vs : List Value} {h : List (Option Chunk)} {R R' : Value → List (Nat × Chunk) → Prop} (k : CallAll P g vs h R) (hR : ∀ v ms, R v ms → R' v ms) : CallAll P g vs h R' := by
  intro X ρ w xs H hx
  rcases k X ρ w xs H hx with ⟨v, w', hr, u, ms, ρ', hq, ha⟩ | ⟨hr, hcl⟩
  · exact .inl ⟨v, w', hr, _, _, ρ', hR _ _ hq, ha⟩
  · refine .inr ⟨hr, hcl.mono ?_⟩
    rintro e w' ⟨y, he, u, ms, ρ', hq, ha⟩
    exact ⟨y, he, _, _, ρ', hR _ _ hq, ha⟩
set_option maxRecDepth 100000 in
set_option maxHeartbeats 2000000 in
theorem cNumbers2 (W : World) (hW : TxOK W) (s : ByteArray) (x y : Int) (hx : Fits x) (hy : Fits y) (hs : s.size < 4294967281) (h1 : Lib.countB s ⟨#[44]⟩ = 1) (h2 : Lib.splitB ⟨#[44]⟩ 0 1 s = [numB x, numB y]) (i K : Nat) (hiK : i ≠ K) (h : List (Option Chunk)) (hi : h[i]? = some (some (oldC W))) (hK : h[K]? = some none) :
    CallAll Tryd.prog 9 [.string s, .int .i64 2] h (fun v ms => ∃ c : Nat, v = .tuple #[.slice (some ⟨K, 0, some 0⟩) 2 c, .bool true] ∧ ms = [(i, oldC W), (K, ⟨true, 2, [(0, 2, .agg ⟨[.int .i64 x, .int .i64 y]⟩)]⟩)]) := by
  refine CallAll.to2 (call_resall (G := tys) (h := h) (vs := [.string s, .int .i64 2]) (fun _ : Unit => True) (fun _ => _) (α := Nat × Nat) (fun κ => 1 ≤ κ.1) (fun κ => .tuple #[.slice (some ⟨K, 0, some 0⟩) 2 κ.2, .bool true]) [⟨i, oldC W, oldC W, oldC W⟩] (fun κ => [oldC W]) (fun κ => [⟨K, κ.1, ⟨true, 2, [(0, 2, .agg ⟨[.int .i64 x, .int .i64 y]⟩)]⟩⟩]) [.string s, .int .i64 2] tysOK mixed Tryd.func9 (by rfl) (Tryd.call9) ⟨hi, trivial⟩ ⟨⟨fun h => ⟨rfl, Nat.le_refl _⟩, Nat.le_refl _, fun j hj => absurd hj (Nat.not_lt_zero j)⟩, trivial⟩ (fun κ _ => ⟨⟨fun h => ⟨rfl, Nat.le_refl _⟩, Nat.le_refl _, fun j hj => absurd hj (Nat.not_lt_zero j)⟩, trivial⟩) (by simp [Apart]) ⟨.inr ⟨rfl, rfl⟩, trivial⟩ (fun κ _ => ⟨⟨hK, rfl, .inl (by show 0 < 2; decide), by simp⟩, trivial⟩) ⟨.plain rfl, .plain rfl, trivial⟩ Opens.same ?_) ?_
  rotate_left
  · rintro v ms ⟨κ, hκ, rfl, rfl⟩
    exact ⟨κ.2, rfl, rfl⟩
  rintro ⟨⟩ -
  repeat' (refine N.go ?_; first | with_reducible refine N.obl (by decide) ?_ | with_reducible refine N.obl (flat_wi _ _ _) ?_ | with_reducible refine N.obl (flat_lim _ _) ?_ | with_reducible refine N.eq ?_ | with_reducible refine N.obl rfl ?_ | with_reducible refine N.obl ⟨by kernel_rfl, by kernel_rfl⟩ ?_ | with_reducible refine N.alt ?_ | with_reducible refine N.forkT ?_ | with_reducible refine N.forkF ?_ | refine N.call (cSplit2 W hW s (numB x) (numB y) hs h1 h2 0 1 _ (by rfl) (by rfl)) ?_ | refine N.call (cParse W hW x hx 0 _ (by rfl)) ?_ | refine N.call (cParse W hW y hy 0 _ (by rfl)) ?_ | refine N.call (cFmt W hW x hx 0 _ (by rfl)) ?_ | refine N.call (cFmt W hW y hy 0 _ (by rfl)) ?_ | refine N.roll 3 ?_ | refine N.bin _ (nil_is _) ?_ | refine N.bin _ (str_same _ _ _) ?_ | refine N.idx 0 0 (by decide) (by decide) ?_ | refine N.idx 1 0 (by decide) (by decide) ?_ | refine N.forkNo (by decide) ?_ | refine N.forkYes (by decide) ?_ | fail_if_success skip)
  refine N.go ?_
  refine App0N.mkq (.agg ⟨[.int .i64 x]⟩) (reads_int1 x) (by decide) (by decide) (by decide) fun cpA hcA => ?_
  have hA : IntsIn (grown ⟨true, 0, []⟩ 0 1 Tryd.t2.size (.agg ⟨[.int .i64 x]⟩) (.int .i64 0) cpA) [x] cpA := ints_grown (l := []) x (fun j hj => absurd hj (Nat.not_lt_zero j)) rfl rfl hcA
  generalize grown ⟨true, 0, []⟩ 0 1 Tryd.t2.size (.agg ⟨[.int .i64 x]⟩) (.int .i64 0) cpA = A at *
  repeat' (refine N.go ?_; first | with_reducible refine N.obl (by decide) ?_ | with_reducible refine N.obl (flat_wi _ _ _) ?_ | with_reducible refine N.obl (flat_lim _ _) ?_ | with_reducible refine N.eq ?_ | with_reducible refine N.obl rfl ?_ | with_reducible refine N.obl ⟨by kernel_rfl, by kernel_rfl⟩ ?_ | with_reducible refine N.alt ?_ | with_reducible refine N.forkT ?_ | with_reducible refine N.forkF ?_ | refine N.call (cSplit2 W hW s (numB x) (numB y) hs h1 h2 0 1 _ (by rfl) (by rfl)) ?_ | refine N.call (cParse W hW x hx 0 _ (by rfl)) ?_ | refine N.call (cParse W hW y hy 0 _ (by rfl)) ?_ | refine N.call (cFmt W hW x hx 0 _ (by rfl)) ?_ | refine N.call (cFmt W hW y hy 0 _ (by rfl)) ?_ | refine N.roll 3 ?_ | refine N.bin _ (nil_is _) ?_ | refine N.bin _ (str_same _ _ _) ?_ | refine N.idx 0 0 (by decide) (by decide) ?_ | refine N.idx 1 0 (by decide) (by decide) ?_ | refine N.forkNo (by decide) ?_ | refine N.forkYes (by decide) ?_ | fail_if_success skip)
  refine N.go ?_
  refine AppN.mkq (.agg ⟨[.int .i64 y]⟩) (reads_int1 y) rfl (by rw [hA.n]; show 1 * 1 ≤ _; omega) (by decide) (by decide) (pushC A 1 y) (fun h => writes_push y hA rfl rfl h) (fun hle => ?_) (fun hlt cpAo hcAo => ?_)
  · have hAi : IntsIn (pushC A 1 y) [x, y] cpA := ints_push y hA rfl hle
    generalize pushC A 1 y = Ai at *
    repeat' (refine N.go ?_; first | with_reducible refine N.obl (by decide) ?_ | with_reducible refine N.obl (flat_wi _ _ _) ?_ | with_reducible refine N.obl (flat_lim _ _) ?_ | with_reducible refine N.eq ?_ | with_reducible refine N.obl rfl ?_ | with_reducible refine N.obl ⟨by kernel_rfl, by kernel_rfl⟩ ?_ | with_reducible refine N.alt ?_ | with_reducible refine N.forkT ?_ | with_reducible refine N.forkF ?_ | refine N.call (cSplit2 W hW s (numB x) (numB y) hs h1 h2 0 1 _ (by rfl) (by rfl)) ?_ | refine N.call (cParse W hW x hx 0 _ (by rfl)) ?_ | refine N.call (cParse W hW y hy 0 _ (by rfl)) ?_ | refine N.call (cFmt W hW x hx 0 _ (by rfl)) ?_ | refine N.call (cFmt W hW y hy 0 _ (by rfl)) ?_ | refine N.roll 3 ?_ | refine N.bin _ (nil_is _) ?_ | refine N.bin _ (str_same _ _ _) ?_ | refine N.idx 0 0 (by decide) (by decide) ?_ | refine N.idx 1 0 (by decide) (by decide) ?_ | refine N.forkNo (by decide) ?_ | refine N.forkYes (by decide) ?_ | fail_if_success skip)
    refine N.go ?_
    refine N.endSame ?_
    refine N.some (3, cpA) ⟨(by show 1 ≤ 3; decide), ?_⟩
    refine N.obl (.tuple ⟨.slice (by rfl), .plain rfl, trivial⟩) ?_
    refine N.obl ⟨⟨_, rfl, fun h => h, Nat.le_refl _, fun j hj => absurd hj (Nat.not_lt_zero j)⟩, trivial⟩ ?_
    refine N.obl ⟨⟨by show 1 ≤ 3; decide, post_ints (by rfl) hAi rfl rfl⟩, trivial⟩ ?_
    refine N.obl ⟨⟨.inr ⟨_, rfl, rfl⟩, trivial⟩, ⟨.inl rfl, trivial⟩⟩ ?_
    exact N.true
  · have hAo : IntsIn (grown A 1 1 Tryd.t2.size (.agg ⟨[.int .i64 y]⟩) (.int .i64 0) cpAo) [x, y] cpAo := ints_grown y hA.cell rfl rfl hcAo
    generalize grown A 1 1 Tryd.t2.size (.agg ⟨[.int .i64 y]⟩) (.int .i64 0) cpAo = Ao at *
    repeat' (refine N.go ?_; first | with_reducible refine N.obl (by decide) ?_ | with_reducible refine N.obl (flat_wi _ _ _) ?_ | with_reducible refine N.obl (flat_lim _ _) ?_ | with_reducible refine N.eq ?_ | with_reducible refine N.obl rfl ?_ | with_reducible refine N.obl ⟨by kernel_rfl, by kernel_rfl⟩ ?_ | with_reducible refine N.alt ?_ | with_reducible refine N.forkT ?_ | with_reducible refine N.forkF ?_ | refine N.call (cSplit2 W hW s (numB x) (numB y) hs h1 h2 0 1 _ (by rfl) (by rfl)) ?_ | refine N.call (cParse W hW x hx 0 _ (by rfl)) ?_ | refine N.call (cParse W hW y hy 0 _ (by rfl)) ?_ | refine N.call (cFmt W hW x hx 0 _ (by rfl)) ?_ | refine N.call (cFmt W hW y hy 0 _ (by rfl)) ?_ | refine N.roll 3 ?_ | refine N.bin _ (nil_is _) ?_ | refine N.bin _ (str_same _ _ _) ?_ | refine N.idx 0 0 (by decide) (by decide) ?_ | refine N.idx 1 0 (by decide) (by decide) ?_ | refine N.forkNo (by decide) ?_ | refine N.forkYes (by decide) ?_ | fail_if_success skip)
    refine N.go ?_
    refine N.endSame ?_
    refine N.some (5, cpAo) ⟨(by show 1 ≤ 5; decide), ?_⟩
    refine N.obl (.tuple ⟨.slice (by rfl), .plain rfl, trivial⟩) ?_
    refine N.obl ⟨⟨_, rfl, fun h => h, Nat.le_refl _, fun j hj => absurd hj (Nat.not_lt_zero j)⟩, trivial⟩ ?_
    refine N.obl ⟨⟨by show 1 ≤ 5; decide, post_ints (by rfl) hAo rfl rfl⟩, trivial⟩ ?_
    refine N.obl ⟨⟨.inr ⟨_, rfl, rfl⟩, trivial⟩, ⟨.inl rfl, trivial⟩⟩ ?_
    exact N.true
set_option maxRecDepth 100000 in
set_option maxHeartbeats 2000000 in
theorem cNumbers3 (W : World) (hW : TxOK W) (s : ByteArray) (a b d : Int) (ha : Fits a) (hb : Fits b) (hd : Fits d) (hs : s.size < 4294967281) (h1 : Lib.countB s ⟨#[44]⟩ = 2) (h2 : Lib.splitB ⟨#[44]⟩ 0 2 s = [numB a, numB b, numB d]) (i K : Nat) (hiK : i ≠ K) (h : List (Option Chunk)) (hi : h[i]? = some (some (oldC W))) (hK : h[K]? = some none) :
    CallAll Tryd.prog 9 [.string s, .int .i64 3] h (fun v ms => ∃ c : Nat, v = .tuple #[.slice (some ⟨K, 0, some 0⟩) 3 c, .bool true] ∧ ms = [(i, oldC W), (K, ⟨true, 3, [(0, 3, .agg ⟨[.int .i64 a, .int .i64 b, .int .i64 d]⟩)]⟩)]) := by
  refine CallAll.to2 (call_resall (G := tys) (h := h) (vs := [.string s, .int .i64 3]) (fun _ : Unit => True) (fun _ => _) (α := Nat × Nat) (fun κ => 1 ≤ κ.1) (fun κ => .tuple #[.slice (some ⟨K, 0, some 0⟩) 3 κ.2, .bool true]) [⟨i, oldC W, oldC W, oldC W⟩] (fun κ => [oldC W]) (fun κ => [⟨K, κ.1, ⟨true, 3, [(0, 3, .agg ⟨[.int .i64 a, .int .i64 b, .int .i64 d]⟩)]⟩⟩]) [.string s, .int .i64 3] tysOK mixed Tryd.func9 (by rfl) (Tryd.call9) ⟨hi, trivial⟩ ⟨⟨fun h => ⟨rfl, Nat.le_refl _⟩, Nat.le_refl _, fun j hj => absurd hj (Nat.not_lt_zero j)⟩, trivial⟩ (fun κ _ => ⟨⟨fun h => ⟨rfl, Nat.le_refl _⟩, Nat.le_refl _, fun j hj => absurd hj (Nat.not_lt_zero j)⟩, trivial⟩) (by simp [Apart]) ⟨.inr ⟨rfl, rfl⟩, trivial⟩ (fun κ _ => ⟨⟨hK, rfl, .inl (by show 0 < 3; decide), by simp⟩, trivial⟩) ⟨.plain rfl, .plain rfl, trivial⟩ Opens.same ?_) ?_
  rotate_left
  · rintro v ms ⟨κ, hκ, rfl, rfl⟩
    exact ⟨κ.2, rfl, rfl⟩
  rintro ⟨⟩ -
  repeat' (refine N.go ?_; first | with_reducible refine N.obl (by decide) ?_ | with_reducible refine N.obl (flat_wi _ _ _) ?_ | with_reducible refine N.obl (flat_lim _ _) ?_ | with_reducible refine N.eq ?_ | with_reducible refine N.obl rfl ?_ | with_reducible refine N.obl ⟨by kernel_rfl, by kernel_rfl⟩ ?_ | with_reducible refine N.alt ?_ | with_reducible refine N.forkT ?_ | with_reducible refine N.forkF ?_ | refine N.call (cSplit3 W hW s (numB a) (numB b) (numB d) hs h1 h2 0 1 _ (by rfl) (by rfl)) ?_ | refine N.call (cParse W hW a ha 0 _ (by rfl)) ?_ | refine N.call (cParse W hW b hb 0 _ (by rfl)) ?_ | refine N.call (cParse W hW d hd 0 _ (by rfl)) ?_ | refine N.call (cFmt W hW a ha 0 _ (by rfl)) ?_ | refine N.call (cFmt W hW b hb 0 _ (by rfl)) ?_ | refine N.call (cFmt W hW d hd 0 _ (by rfl)) ?_ | refine N.roll 4 ?_ | refine N.bin _ (nil_is _) ?_ | refine N.bin _ (str_same _ _ _) ?_ | refine N.idx 0 0 (by decide) (by decide) ?_ | refine N.idx 1 0 (by decide) (by decide) ?_ | refine N.idx 2 0 (by decide) (by decide) ?_ | refine N.forkNo (by decide) ?_ | refine N.forkYes (by decide) ?_ | fail_if_success skip)
  refine N.go ?_
  refine App0N.mkq (.agg ⟨[.int .i64 a]⟩) (reads_int1 a) (by decide) (by decide) (by decide) fun cpA hcA => ?_
  have hA : IntsIn (grown ⟨true, 0, []⟩ 0 1 Tryd.t2.size (.agg ⟨[.int .i64 a]⟩) (.int .i64 0) cpA) [a] cpA := ints_grown (l := []) a (fun j hj => absurd hj (Nat.not_lt_zero j)) rfl rfl hcA
  generalize grown ⟨true, 0, []⟩ 0 1 Tryd.t2.size (.agg ⟨[.int .i64 a]⟩) (.int .i64 0) cpA = A at *
  repeat' (refine N.go ?_; first | with_reducible refine N.obl (by decide) ?_ | with_reducible refine N.obl (flat_wi _ _ _) ?_ | with_reducible refine N.obl (flat_lim _ _) ?_ | with_reducible refine N.eq ?_ | with_reducible refine N.obl rfl ?_ | with_reducible refine N.obl ⟨by kernel_rfl, by kernel_rfl⟩ ?_ | with_reducible refine N.alt ?_ | with_reducible refine N.forkT ?_ | with_reducible refine N.forkF ?_ | refine N.call (cSplit3 W hW s (numB a) (numB b) (numB d) hs h1 h2 0 1 _ (by rfl) (by rfl)) ?_ | refine N.call (cParse W hW a ha 0 _ (by rfl)) ?_ | refine N.call (cParse W hW b hb 0 _ (by rfl)) ?_ | refine N.call (cParse W hW d hd 0 _ (by rfl)) ?_ | refine N.call (cFmt W hW a ha 0 _ (by rfl)) ?_ | refine N.call (cFmt W hW b hb 0 _ (by rfl)) ?_ | refine N.call (cFmt W hW d hd 0 _ (by rfl)) ?_ | refine N.roll 4 ?_ | refine N.bin _ (nil_is _) ?_ | refine N.bin _ (str_same _ _ _) ?_ | refine N.idx 0 0 (by decide) (by decide) ?_ | refine N.idx 1 0 (by decide) (by decide) ?_ | refine N.idx 2 0 (by decide) (by decide) ?_ | refine N.forkNo (by decide) ?_ | refine N.forkYes (by decide) ?_ | fail_if_success skip)
  refine N.go ?_
  refine AppN.mkq (.agg ⟨[.int .i64 b]⟩) (reads_int1 b) rfl (by rw [hA.n]; show 1 * 1 ≤ _; omega) (by decide) (by decide) (pushC A 1 b) (fun h => writes_push b hA rfl rfl h) (fun hle => ?_) (fun hlt cpAo hcAo => ?_)
  · have hAi : IntsIn (pushC A 1 b) [a, b] cpA := ints_push b hA rfl hle
    generalize pushC A 1 b = Ai at *
    repeat' (refine N.go ?_; first | with_reducible refine N.obl (by decide) ?_ | with_reducible refine N.obl (flat_wi _ _ _) ?_ | with_reducible refine N.obl (flat_lim _ _) ?_ | with_reducible refine N.eq ?_ | with_reducible refine N.obl rfl ?_ | with_reducible refine N.obl ⟨by kernel_rfl, by kernel_rfl⟩ ?_ | with_reducible refine N.alt ?_ | with_reducible refine N.forkT ?_ | with_reducible refine N.forkF ?_ | refine N.call (cSplit3 W hW s (numB a) (numB b) (numB d) hs h1 h2 0 1 _ (by rfl) (by rfl)) ?_ | refine N.call (cParse W hW a ha 0 _ (by rfl)) ?_ | refine N.call (cParse W hW b hb 0 _ (by rfl)) ?_ | refine N.call (cParse W hW d hd 0 _ (by rfl)) ?_ | refine N.call (cFmt W hW a ha 0 _ (by rfl)) ?_ | refine N.call (cFmt W hW b hb 0 _ (by rfl)) ?_ | refine N.call (cFmt W hW d hd 0 _ (by rfl)) ?_ | refine N.roll 4 ?_ | refine N.bin _ (nil_is _) ?_ | refine N.bin _ (str_same _ _ _) ?_ | refine N.idx 0 0 (by decide) (by decide) ?_ | refine N.idx 1 0 (by decide) (by decide) ?_ | refine N.idx 2 0 (by decide) (by decide) ?_ | refine N.forkNo (by decide) ?_ | refine N.forkYes (by decide) ?_ | fail_if_success skip)
    refine N.go ?_
    refine AppN.mkq (.agg ⟨[.int .i64 d]⟩) (reads_int1 d) rfl (by rw [hAi.n]; show 2 * 1 ≤ _; omega) (by decide) (by decide) (pushC Ai 2 d) (fun h => writes_push d hAi rfl rfl h) (fun hle => ?_) (fun hlt cpAio hcAio => ?_)
    · have hAii : IntsIn (pushC Ai 2 d) [a, b, d] cpA := ints_push d hAi rfl hle
      generalize pushC Ai 2 d = Aii at *
      repeat' (refine N.go ?_; first | with_reducible refine N.obl (by decide) ?_ | with_reducible refine N.obl (flat_wi _ _ _) ?_ | with_reducible refine N.obl (flat_lim _ _) ?_ | with_reducible refine N.eq ?_ | with_reducible refine N.obl rfl ?_ | with_reducible refine N.obl ⟨by kernel_rfl, by kernel_rfl⟩ ?_ | with_reducible refine N.alt ?_ | with_reducible refine N.forkT ?_ | with_reducible refine N.forkF ?_ | refine N.call (cSplit3 W hW s (numB a) (numB b) (numB d) hs h1 h2 0 1 _ (by rfl) (by rfl)) ?_ | refine N.call (cParse W hW a ha 0 _ (by rfl)) ?_ | refine N.call (cParse W hW b hb 0 _ (by rfl)) ?_ | refine N.call (cParse W hW d hd 0 _ (by rfl)) ?_ | refine N.call (cFmt W hW a ha 0 _ (by rfl)) ?_ | refine N.call (cFmt W hW b hb 0 _ (by rfl)) ?_ | refine N.call (cFmt W hW d hd 0 _ (by rfl)) ?_ | refine N.roll 4 ?_ | refine N.bin _ (nil_is _) ?_ | refine N.bin _ (str_same _ _ _) ?_ | refine N.idx 0 0 (by decide) (by decide) ?_ | refine N.idx 1 0 (by decide) (by decide) ?_ | refine N.idx 2 0 (by decide) (by decide) ?_ | refine N.forkNo (by decide) ?_ | refine N.forkYes (by decide) ?_ | fail_if_success skip)
      refine N.go ?_
      refine N.endSame ?_
      refine N.some (3, cpA) ⟨(by show 1 ≤ 3; decide), ?_⟩
      refine N.obl (.tuple ⟨.slice (by rfl), .plain rfl, trivial⟩) ?_
      refine N.obl ⟨⟨_, rfl, fun h => h, Nat.le_refl _, fun j hj => absurd hj (Nat.not_lt_zero j)⟩, trivial⟩ ?_
      refine N.obl ⟨⟨by show 1 ≤ 3; decide, post_ints (by rfl) hAii rfl rfl⟩, trivial⟩ ?_
      refine N.obl ⟨⟨.inr ⟨_, rfl, rfl⟩, trivial⟩, ⟨.inl rfl, trivial⟩⟩ ?_
      exact N.true
    · have hAio : IntsIn (grown Ai 2 1 Tryd.t2.size (.agg ⟨[.int .i64 d]⟩) (.int .i64 0) cpAio) [a, b, d] cpAio := ints_grown d hAi.cell rfl rfl hcAio
      generalize grown Ai 2 1 Tryd.t2.size (.agg ⟨[.int .i64 d]⟩) (.int .i64 0) cpAio = Aio at *
      repeat' (refine N.go ?_; first | with_reducible refine N.obl (by decide) ?_ | with_reducible refine N.obl (flat_wi _ _ _) ?_ | with_reducible refine N.obl (flat_lim _ _) ?_ | with_reducible refine N.eq ?_ | with_reducible refine N.obl rfl ?_ | with_reducible refine N.obl ⟨by kernel_rfl, by kernel_rfl⟩ ?_ | with_reducible refine N.alt ?_ | with_reducible refine N.forkT ?_ | with_reducible refine N.forkF ?_ | refine N.call (cSplit3 W hW s (numB a) (numB b) (numB d) hs h1 h2 0 1 _ (by rfl) (by rfl)) ?_ | refine N.call (cParse W hW a ha 0 _ (by rfl)) ?_ | refine N.call (cParse W hW b hb 0 _ (by rfl)) ?_ | refine N.call (cParse W hW d hd 0 _ (by rfl)) ?_ | refine N.call (cFmt W hW a ha 0 _ (by rfl)) ?_ | refine N.call (cFmt W hW b hb 0 _ (by rfl)) ?_ | refine N.call (cFmt W hW d hd 0 _ (by rfl)) ?_ | refine N.roll 4 ?_ | refine N.bin _ (nil_is _) ?_ | refine N.bin _ (str_same _ _ _) ?_ | refine N.idx 0 0 (by decide) (by decide) ?_ | refine N.idx 1 0 (by decide) (by decide) ?_ | refine N.idx 2 0 (by decide) (by decide) ?_ | refine N.forkNo (by decide) ?_ | refine N.forkYes (by decide) ?_ | fail_if_success skip)
      refine N.go ?_
      refine N.endSame ?_
      refine N.some (6, cpAio) ⟨(by show 1 ≤ 6; decide), ?_⟩
      refine N.obl (.tuple ⟨.slice (by rfl), .plain rfl, trivial⟩) ?_
      refine N.obl ⟨⟨_, rfl, fun h => h, Nat.le_refl _, fun j hj => absurd hj (Nat.not_lt_zero j)⟩, trivial⟩ ?_
      refine N.obl ⟨⟨by show 1 ≤ 6; decide, post_ints (by rfl) hAio rfl rfl⟩, trivial⟩ ?_
      refine N.obl ⟨⟨.inr ⟨_, rfl, rfl⟩, trivial⟩, ⟨.inl rfl, trivial⟩⟩ ?_
      exact N.true
  · have hAo : IntsIn (grown A 1 1 Tryd.t2.size (.agg ⟨[.int .i64 b]⟩) (.int .i64 0) cpAo) [a, b] cpAo := ints_grown b hA.cell rfl rfl hcAo
    generalize grown A 1 1 Tryd.t2.size (.agg ⟨[.int .i64 b]⟩) (.int .i64 0) cpAo = Ao at *
    repeat' (refine N.go ?_; first | with_reducible refine N.obl (by decide) ?_ | with_reducible refine N.obl (flat_wi _ _ _) ?_ | with_reducible refine N.obl (flat_lim _ _) ?_ | with_reducible refine N.eq ?_ | with_reducible refine N.obl rfl ?_ | with_reducible refine N.obl ⟨by kernel_rfl, by kernel_rfl⟩ ?_ | with_reducible refine N.alt ?_ | with_reducible refine N.forkT ?_ | with_reducible refine N.forkF ?_ | refine N.call (cSplit3 W hW s (numB a) (numB b) (numB d) hs h1 h2 0 1 _ (by rfl) (by rfl)) ?_ | refine N.call (cParse W hW a ha 0 _ (by rfl)) ?_ | refine N.call (cParse W hW b hb 0 _ (by rfl)) ?_ | refine N.call (cParse W hW d hd 0 _ (by rfl)) ?_ | refine N.call (cFmt W hW a ha 0 _ (by rfl)) ?_ | refine N.call (cFmt W hW b hb 0 _ (by rfl)) ?_ | refine N.call (cFmt W hW d hd 0 _ (by rfl)) ?_ | refine N.roll 4 ?_ | refine N.bin _ (nil_is _) ?_ | refine N.bin _ (str_same _ _ _) ?_ | refine N.idx 0 0 (by decide) (by decide) ?_ | refine N.idx 1 0 (by decide) (by decide) ?_ | refine N.idx 2 0 (by decide) (by decide) ?_ | refine N.forkNo (by decide) ?_ | refine N.forkYes (by decide) ?_ | fail_if_success skip)
    refine N.go ?_
    refine AppN.mkq (.agg ⟨[.int .i64 d]⟩) (reads_int1 d) rfl (by rw [hAo.n]; show 2 * 1 ≤ _; omega) (by decide) (by decide) (pushC Ao 2 d) (fun h => writes_push d hAo rfl rfl h) (fun hle => ?_) (fun hlt cpAoo hcAoo => ?_)
    · have hAoi : IntsIn (pushC Ao 2 d) [a, b, d] cpAo := ints_push d hAo rfl hle
      generalize pushC Ao 2 d = Aoi at *
      repeat' (refine N.go ?_; first | with_reducible refine N.obl (by decide) ?_ | with_reducible refine N.obl (flat_wi _ _ _) ?_ | with_reducible refine N.obl (flat_lim _ _) ?_ | with_reducible refine N.eq ?_ | with_reducible refine N.obl rfl ?_ | with_reducible refine N.obl ⟨by kernel_rfl, by kernel_rfl⟩ ?_ | with_reducible refine N.alt ?_ | with_reducible refine N.forkT ?_ | with_reducible refine N.forkF ?_ | refine N.call (cSplit3 W hW s (numB a) (numB b) (numB d) hs h1 h2 0 1 _ (by rfl) (by rfl)) ?_ | refine N.call (cParse W hW a ha 0 _ (by rfl)) ?_ | refine N.call (cParse W hW b hb 0 _ (by rfl)) ?_ | refine N.call (cParse W hW d hd 0 _ (by rfl)) ?_ | refine N.call (cFmt W hW a ha 0 _ (by rfl)) ?_ | refine N.call (cFmt W hW b hb 0 _ (by rfl)) ?_ | refine N.call (cFmt W hW d hd 0 _ (by rfl)) ?_ | refine N.roll 4 ?_ | refine N.bin _ (nil_is _) ?_ | refine N.bin _ (str_same _ _ _) ?_ | refine N.idx 0 0 (by decide) (by decide) ?_ | refine N.idx 1 0 (by decide) (by decide) ?_ | refine N.idx 2 0 (by decide) (by decide) ?_ | refine N.forkNo (by decide) ?_ | refine N.forkYes (by decide) ?_ | fail_if_success skip)
      refine N.go ?_
      refine N.endSame ?_
      refine N.some (5, cpAo) ⟨(by show 1 ≤ 5; decide), ?_⟩
      refine N.obl (.tuple ⟨.slice (by rfl), .plain rfl, trivial⟩) ?_
      refine N.obl ⟨⟨_, rfl, fun h => h, Nat.le_refl _, fun j hj => absurd hj (Nat.not_lt_zero j)⟩, trivial⟩ ?_
      refine N.obl ⟨⟨by show 1 ≤ 5; decide, post_ints (by rfl) hAoi rfl rfl⟩, trivial⟩ ?_
      refine N.obl ⟨⟨.inr ⟨_, rfl, rfl⟩, trivial⟩, ⟨.inl rfl, trivial⟩⟩ ?_
      exact N.true
    · have hAoo : IntsIn (grown Ao 2 1 Tryd.t2.size (.agg ⟨[.int .i64 d]⟩) (.int .i64 0) cpAoo) [a, b, d] cpAoo := ints_grown d hAo.cell rfl rfl hcAoo
      generalize grown Ao 2 1 Tryd.t2.size (.agg ⟨[.int .i64 d]⟩) (.int .i64 0) cpAoo = Aoo at *
      repeat' (refine N.go ?_; first | with_reducible refine N.obl (by decide) ?_ | with_reducible refine N.obl (flat_wi _ _ _) ?_ | with_reducible refine N.obl (flat_lim _ _) ?_ | with_reducible refine N.eq ?_ | with_reducible refine N.obl rfl ?_ | with_reducible refine N.obl ⟨by kernel_rfl, by kernel_rfl⟩ ?_ | with_reducible refine N.alt ?_ | with_reducible refine N.forkT ?_ | with_reducible refine N.forkF ?_ | refine N.call (cSplit3 W hW s (numB a) (numB b) (numB d) hs h1 h2 0 1 _ (by rfl) (by rfl)) ?_ | refine N.call (cParse W hW a ha 0 _ (by rfl)) ?_ | refine N.call (cParse W hW b hb 0 _ (by rfl)) ?_ | refine N.call (cParse W hW d hd 0 _ (by rfl)) ?_ | refine N.call (cFmt W hW a ha 0 _ (by rfl)) ?_ | refine N.call (cFmt W hW b hb 0 _ (by rfl)) ?_ | refine N.call (cFmt W hW d hd 0 _ (by rfl)) ?_ | refine N.roll 4 ?_ | refine N.bin _ (nil_is _) ?_ | refine N.bin _ (str_same _ _ _) ?_ | refine N.idx 0 0 (by decide) (by decide) ?_ | refine N.idx 1 0 (by decide) (by decide) ?_ | refine N.idx 2 0 (by decide) (by decide) ?_ | refine N.forkNo (by decide) ?_ | refine N.forkYes (by decide) ?_ | fail_if_success skip)
      refine N.go ?_
      refine N.endSame ?_
      refine N.some (7, cpAoo) ⟨(by show 1 ≤ 7; decide), ?_⟩
      refine N.obl (.tuple ⟨.slice (by rfl), .plain rfl, trivial⟩) ?_
      refine N.obl ⟨⟨_, rfl, fun h => h, Nat.le_refl _, fun j hj => absurd hj (Nat.not_lt_zero j)⟩, trivial⟩ ?_
      refine N.obl ⟨⟨by show 1 ≤ 7; decide, post_ints (by rfl) hAoo rfl rfl⟩, trivial⟩ ?_
      refine N.obl ⟨⟨.inr ⟨_, rfl, rfl⟩, trivial⟩, ⟨.inl rfl, trivial⟩⟩ ?_
      exact N.true
end Go.Proofs.YtbepibdjlajppaaDoor
