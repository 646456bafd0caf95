
/-
  The library's contracts of numerals and texts as offers; the texts of ellipses.
-/
import Derived.Test.YtbepibdjlajppaaDoorOld
import Derived.Test.YtbepibdjlajppaaDoorShl
import Derived.Test.YtbepibdjlajppaaDoorTxtP
import Derived.Lib.AppendIntMem
import Derived.Lib.SmallJoins
set_option linter.unusedVariables false
set_option linter.unusedSimpArgs false
namespace Go.Proofs.YtbepibdjlajppaaDoor
open Go Go.RowKit Sx

/-- What the walks ask of the memory at the beginning. -/
structure TxOK (W : World) : Prop where
  pos : 0 < W.heap.size
  tab : Lib.TabIs Tryd.prog W "internal/strconv.uint64pow10" .u64 Lib.pow10Tab
  len : ∃ m, W.cell? ⟨0, 0, none⟩ = some (.int .i64 m)
theorem tab_kept {W w : World} (h : Kept W w) {nm : String} {k : IntKind} {zs : List Int} (ht : Lib.TabIs Tryd.prog W nm k zs) : Lib.TabIs Tryd.prog w nm k zs := by
  unfold Lib.TabIs World.var? at *
  cases hg : Tryd.prog.globalNamed nm with
  | none => simp [hg] at ht
  | some g =>
    simp only [hg, Option.bind_some] at ht ⊢
    have hlt : g < W.heap.size := by
      rcases Nat.lt_or_ge g W.heap.size with h' | h'
      · exact h'
      · rw [Array.getElem?_eq_none h'] at ht; simp at ht
    rw [h.2 g hlt]
    exact ht
theorem TxOK.kept {W w : World} (h : TxOK W) (hk : Kept W w) : TxOK w := ⟨Nat.lt_of_lt_of_le h.pos hk.1, tab_kept hk h.tab, by
  obtain ⟨m, hm⟩ := h.len
  exact ⟨m, hk.cell hm⟩⟩
/-- A numeral. -/
def numB (n : Int) : ByteArray := ⟨(Lib.itoa n).toArray⟩
theorem cFmt (W : World) (hW : TxOK W) (n : Int) (hn : -9223372036854775808 ≤ n ∧ n ≤ 9223372036854775807) (i : Nat) (h : List (Option Chunk)) (hi : h[i]? = some (some (oldC W))) : CallOK Tryd.prog 11 [.int .i64 n, .int .i64 10] h (.string (numB n)) [] [i] :=
  call_oldP i W hi rfl rfl (Tryd.call11) fun w hk => (Tryd.strconv_FormatInt_10 n hn.1 hn.2 w (hW.kept hk).tab).mono fun e w' ⟨he, k, os, hw⟩ => ⟨he, by subst hw; exact Lib.below_grow _ w (Nat.le_refl _) k os⟩
theorem numB_le (n : Int) (hn : -9223372036854775808 ≤ n ∧ n ≤ 9223372036854775807) : (numB n).size ≤ 21 := Lib.itoa_length_le n hn.1 hn.2
theorem cat_is (x y : Operand) (a b : ByteArray) (h : a.size + b.size ≤ 9223372036854775807) : BinIs Tryd.prog .add 9 x y (.string a) (.string b) (.string (a ++ b)) :=
  ⟨rfl, rfl, rfl, fun w => by go_simp⟩
def Fits (n : Int) : Prop := -9223372036854775808 ≤ n ∧ n ≤ 9223372036854775807
theorem cFmt1 (W : World) (hW : TxOK W) (n : Int) (hn : Fits n) (i : Nat) (h : List (Option Chunk)) (hi : h[i]? = some (some (oldC W))) : CallOK Tryd.prog 10 [.int .i64 n] h (.string (numB n)) [] [i] := by
  refine call_old i W hi tysOK mixed Tryd.func10 (by rfl) hW.pos rfl rfl (Tryd.call10) fun w hk => ?_
  repeat' (refine N.go ?_; first | with_reducible refine N.obl (by decide) ?_ | with_reducible refine N.obl (flat_wi _ _ _) ?_ | with_reducible refine N.obl (flat_lim _ _) ?_ | with_reducible refine N.eq ?_ | with_reducible refine N.obl rfl ?_ | with_reducible refine N.obl ⟨by kernel_rfl, by kernel_rfl⟩ ?_ | with_reducible refine N.alt ?_ | with_reducible refine N.forkT ?_ | with_reducible refine N.forkF ?_ | refine N.call (cFmt _ (hW.kept hk) n hn 0 _ (by rfl)) ?_ | exact N.mk ⟨rfl, rfl⟩ | fail_if_success skip)
def comma : ByteArray := ⟨#[44]⟩
def stroke : ByteArray := ⟨#[47]⟩
def textB (x y a b d : Int) : ByteArray := numB x ++ comma ++ numB y ++ stroke ++ numB a ++ comma ++ numB b ++ comma ++ numB d
set_option maxRecDepth 100000 in
set_option maxHeartbeats 2000000 in
theorem cText (W : World) (hW : TxOK W) (x y a b d : Int) (hx : Fits x) (hy : Fits y) (ha : Fits a) (hb : Fits b) (hd : Fits d) (i : Nat) (h : List (Option Chunk)) (hi : h[i]? = some (some (oldC W))) : CallOK Tryd.prog 5 [.agg #[.int .i64 x, .int .i64 y, .int .i64 a, .int .i64 b, .int .i64 d]] h (.string (textB x y a b d)) [] [i] := by
  have lx := numB_le x hx
  have ly := numB_le y hy
  have la := numB_le a ha
  have lb := numB_le b hb
  have ld := numB_le d hd
  have lc : (ByteArray.mk #[44]).size = 1 := rfl
  have ls : (ByteArray.mk #[47]).size = 1 := rfl
  refine call_old i W hi tysOK mixed Tryd.func5 (by rfl) hW.pos rfl rfl (Tryd.call5) fun w hk => ?_
  repeat' (refine N.go ?_; first | with_reducible refine N.obl (by decide) ?_ | with_reducible refine N.obl (flat_wi _ _ _) ?_ | with_reducible refine N.obl (flat_lim _ _) ?_ | with_reducible refine N.eq ?_ | with_reducible refine N.obl rfl ?_ | with_reducible refine N.obl ⟨by kernel_rfl, by kernel_rfl⟩ ?_ | with_reducible refine N.alt ?_ | with_reducible refine N.forkT ?_ | with_reducible refine N.forkF ?_ | refine N.call (cFmt1 _ (hW.kept hk) x hx 0 _ (by rfl)) ?_ | refine N.call (cFmt1 _ (hW.kept hk) y hy 0 _ (by rfl)) ?_ | refine N.call (cFmt1 _ (hW.kept hk) a ha 0 _ (by rfl)) ?_ | refine N.call (cFmt1 _ (hW.kept hk) b hb 0 _ (by rfl)) ?_ | refine N.call (cFmt1 _ (hW.kept hk) d hd 0 _ (by rfl)) ?_ | refine N.bin _ (cat_is _ _ _ _ (by simp only [ByteArray.size_append, lc, ls]; omega)) ?_ | exact N.mk ⟨rfl, rfl⟩ | fail_if_success skip)
theorem drewN_below (w : World) (n : Nat) : Below w.heap.size w (w.drewN n) := by
  have := Lib.below_grow w.heap.size w (Nat.le_refl _) n #[]
  exact this
theorem cCut (W : World) (hW : TxOK W) (s p q : ByteArray) (hs : s.size < 4294967281) (hc : Lib.cut s.data.toList [47] = (p.data.toList, q.data.toList, true)) (i : Nat) (h : List (Option Chunk)) (hi : h[i]? = some (some (oldC W))) :
    CallOK Tryd.prog 8 [.string s, .string ⟨#[47]⟩] h (.tuple #[.string p, .string q, .bool true]) [] [i] :=
  call_oldP i W hi rfl rfl (Tryd.call8) fun w hk => by
    obtain ⟨m, hm⟩ := (hW.kept hk).len
    refine (Tryd.strings_Cut s ⟨#[47]⟩ m w hs hm).mono ?_
    rintro e w' ⟨he, n, rfl⟩
    refine ⟨?_, drewN_below w n⟩
    rw [he, hc]
theorem cSplit (W : World) (hW : TxOK W) (s : ByteArray) (ls : List ByteArray) (hs : s.size < 4294967281) (h1 : Lib.countB s ⟨#[44]⟩ + 1 = ls.length) (h2 : Lib.splitB ⟨#[44]⟩ 0 (Lib.countB s ⟨#[44]⟩) s = ls) (i K : Nat) (h : List (Option Chunk)) (hi : h[i]? = some (some (oldC W))) (hK : h[K]? = some none) :
    CallOK Tryd.prog 18 [.string s, .string ⟨#[44]⟩] h (.slice (some ⟨K, 0, some 0⟩) ls.length ls.length) [(K, ⟨true, ls.length, [(0, ls.length, .agg ⟨ls.map .string⟩)]⟩)] [i] :=
  call_oldS 9 (ls.map .string) i K W hi hK rfl (by simp) (fun c hc => by
    obtain ⟨b, _, rfl⟩ := List.mem_map.1 hc
    rfl) (Tryd.call18) fun w hk => by
    obtain ⟨m, hm⟩ := (hW.kept hk).len
    refine (Tryd.strings_Split s ⟨#[44]⟩ m w hs hm (by decide)).mono ?_
    rintro e w' ⟨he, hw⟩
    rw [h1] at he
    rw [h2] at hw
    exact ⟨he, hw⟩
theorem cParse (W : World) (hW : TxOK W) (n : Int) (hn : Fits n) (i : Nat) (h : List (Option Chunk)) (hi : h[i]? = some (some (oldC W))) : CallOK Tryd.prog 19 [.string (numB n), .int .i64 10, .int .i64 64] h (.tuple #[.int .i64 n, .nilIface]) [] [i] :=
  call_oldP i W hi rfl rfl (Tryd.call19) fun w hk => by
    have := numB_le n hn
    refine (Tryd.strconv_ParseInt_10_at64_ok (numB n) (by omega) n (Txt.parse_itoa n hn.1 hn.2) w).mono ?_
    rintro e w' ⟨he, hw⟩
    refine ⟨he, ?_⟩
    rcases hw with rfl | ⟨t, rfl⟩
    · exact Below.refl _ _
    · exact Joins.below_bytesWorld _ w _ t (Nat.le_refl _)
end Go.Proofs.YtbepibdjlajppaaDoor
