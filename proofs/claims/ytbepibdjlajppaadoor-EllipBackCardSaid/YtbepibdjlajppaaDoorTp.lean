
/-
  ellip.Parse at what ellip.Text writes.
-/
import Derived.Test.YtbepibdjlajppaaDoorTz
import Derived.Test.YtbepibdjlajppaaDoorEl
set_option linter.unusedVariables false
set_option linter.unusedSimpArgs false
namespace Go.Proofs.YtbepibdjlajppaaDoor
open Go Go.RowKit Sx

theorem ba_app (a b : ByteArray) : (a ++ b).data.toList = a.data.toList ++ b.data.toList := by
  rw [ByteArray.data_append, Array.toList_append]
theorem numB_list (n : Int) : (numB n).data.toList = Lib.itoa n := rfl
theorem itoa_44 (n : Int) : (44 : UInt8) ∉ Lib.itoa n := Txt.itoa_no n 44 (by decide) (by decide)
theorem itoa_47 (n : Int) : (47 : UInt8) ∉ Lib.itoa n := Txt.itoa_no n 47 (by decide) (by decide)
def headB (x y : Int) : ByteArray := numB x ++ comma ++ numB y
def tailB (a b d : Int) : ByteArray := numB a ++ comma ++ numB b ++ comma ++ numB d
theorem headB_list (x y : Int) : (headB x y).data.toList = Lib.itoa x ++ 44 :: Lib.itoa y := by
  unfold headB
  rw [ba_app, ba_app, numB_list, numB_list, show comma.data.toList = [44] from rfl, List.append_assoc]; rfl
theorem tailB_list (a b d : Int) : (tailB a b d).data.toList = Lib.itoa a ++ 44 :: (Lib.itoa b ++ 44 :: Lib.itoa d) := by
  unfold tailB
  rw [ba_app, ba_app, ba_app, ba_app, numB_list, numB_list, numB_list, show comma.data.toList = [44] from rfl]
  simp
theorem textB_list (x y a b d : Int) : (textB x y a b d).data.toList = (headB x y).data.toList ++ 47 :: (tailB a b d).data.toList := by
  rw [headB_list, tailB_list]
  unfold textB
  rw [ba_app, ba_app, ba_app, ba_app, ba_app, ba_app, ba_app, ba_app, numB_list, numB_list, numB_list, numB_list, numB_list, show comma.data.toList = [44] from rfl, show stroke.data.toList = [47] from rfl]
  simp
theorem text_cut (x y a b d : Int) : Lib.cut (textB x y a b d).data.toList [47] = ((headB x y).data.toList, (tailB a b d).data.toList, true) := by
  rw [textB_list]
  refine Txt.cut_at _ _ _ ?_
  rw [headB_list]
  intro h
  rcases List.mem_append.1 h with h | h
  · exact itoa_47 x h
  · rcases List.mem_cons.1 h with h | h
    · exact absurd h (by decide)
    · exact itoa_47 y h
theorem head_count (x y : Int) : Lib.countB (headB x y) ⟨#[44]⟩ = 1 := by
  show Lib.count (headB x y).data.toList [44] = 1
  rw [headB_list]; exact Txt.count_two _ _ _ (itoa_44 x) (itoa_44 y)
theorem tail_count (a b d : Int) : Lib.countB (tailB a b d) ⟨#[44]⟩ = 2 := by
  show Lib.count (tailB a b d).data.toList [44] = 2
  rw [tailB_list]; exact Txt.count_three _ _ _ _ (itoa_44 a) (itoa_44 b) (itoa_44 d)
theorem splitK_last (l : List UInt8) (h : (44 : UInt8) ∉ l) : Lib.splitK [44] 0 0 l = [l] := rfl
theorem head_split (x y : Int) : Lib.splitB ⟨#[44]⟩ 0 1 (headB x y) = [numB x, numB y] :=
  Txt.splitB_of (ls := [Lib.itoa x, Lib.itoa y]) (by
    show Lib.splitK [44] 0 1 (headB x y).data.toList = _
    rw [headB_list, Txt.splitK_at _ _ _ (itoa_44 x)]; rfl)
theorem tail_split (a b d : Int) : Lib.splitB ⟨#[44]⟩ 0 2 (tailB a b d) = [numB a, numB b, numB d] :=
  Txt.splitB_of (ls := [Lib.itoa a, Lib.itoa b, Lib.itoa d]) (by
    show Lib.splitK [44] 0 2 (tailB a b d).data.toList = _
    rw [tailB_list, Txt.splitK_at _ _ _ (itoa_44 a), Txt.splitK_at _ _ _ (itoa_44 b)]; rfl)
theorem head_size (x y : Int) (hx : Fits x) (hy : Fits y) : (headB x y).size ≤ 43 := by
  have := numB_le x hx
  have := numB_le y hy
  have lc : comma.size = 1 := rfl
  unfold headB; rw [ByteArray.size_append, ByteArray.size_append]; omega
theorem tail_size (a b d : Int) (ha : Fits a) (hb : Fits b) (hd : Fits d) : (tailB a b d).size ≤ 65 := by
  have := numB_le a ha
  have := numB_le b hb
  have := numB_le d hd
  have lc : comma.size = 1 := rfl
  unfold tailB; rw [ByteArray.size_append, ByteArray.size_append, ByteArray.size_append, ByteArray.size_append]; omega
theorem text_size (x y a b d : Int) (hx : Fits x) (hy : Fits y) (ha : Fits a) (hb : Fits b) (hd : Fits d) : (textB x y a b d).size ≤ 109 := by
  have := numB_le x hx
  have := numB_le y hy
  have := numB_le a ha
  have := numB_le b hb
  have := numB_le d hd
  have lc : comma.size = 1 := rfl
  have ls : stroke.size = 1 := rfl
  unfold textB; simp only [ByteArray.size_append, lc, ls]; omega
set_option maxRecDepth 100000 in
set_option maxHeartbeats 2000000 in
theorem cParseY (W : World) (hW : TxOK W) (x y a b d : Int) (hx : Fits x) (hy : Fits y) (ha : Fits a) (hb : Fits b) (hd : Fits d) (hm : mayP x y a b d) (i : Nat) (h : List (Option Chunk)) (hi : h[i]? = some (some (oldC W))) : CallOK Tryd.prog 4 [.string (textB x y a b d)] h (.tuple #[.agg #[.int .i64 x, .int .i64 y, .int .i64 a, .int .i64 b, .int .i64 d], .bool true]) [] [i] := by
  refine call_old i W hi tysOK mixed Tryd.func4 (by rfl) hW.pos rfl rfl (Tryd.call4) fun w hk => ?_
  have hw := hW.kept hk
  have s1 := head_size x y hx hy
  have s2 := tail_size a b d ha hb hd
  have s3 := text_size x y a b d hx hy ha hb hd
  repeat' (refine N.go ?_; first | with_reducible refine N.obl (by decide) ?_ | with_reducible refine N.obl (flat_wi _ _ _) ?_ | with_reducible refine N.obl (flat_lim _ _) ?_ | with_reducible refine N.eq ?_ | with_reducible refine N.obl rfl ?_ | with_reducible refine N.obl ⟨by kernel_rfl, by kernel_rfl⟩ ?_ | with_reducible refine N.alt ?_ | with_reducible refine N.forkT ?_ | with_reducible refine N.forkF ?_ | refine N.call (cCut w hw (textB x y a b d) (headB x y) (tailB a b d) (by omega) (text_cut x y a b d) 0 _ (by rfl)) ?_ | fail_if_success skip)
  refine N.go ?_
  refine N.callAll (cNumbers2 w hw (headB x y) x y hx hy (by omega) (head_count x y) (head_split x y) 0 2 (by decide) _ (by rfl) (by rfl)) fun v ms hR => ?_
  obtain ⟨c1, rfl, rfl⟩ := hR
  repeat' (refine N.go ?_; first | with_reducible refine N.obl (by decide) ?_ | with_reducible refine N.obl (flat_wi _ _ _) ?_ | with_reducible refine N.obl (flat_lim _ _) ?_ | with_reducible refine N.eq ?_ | with_reducible refine N.obl rfl ?_ | with_reducible refine N.obl ⟨by kernel_rfl, by kernel_rfl⟩ ?_ | with_reducible refine N.alt ?_ | with_reducible refine N.forkT ?_ | with_reducible refine N.forkF ?_ | refine N.call (cCut w hw (textB x y a b d) (headB x y) (tailB a b d) (by omega) (text_cut x y a b d) 0 _ (by rfl)) ?_ | fail_if_success skip)
  refine N.go ?_
  refine N.callAll (cNumbers3 w hw (tailB a b d) a b d ha hb hd (by omega) (tail_count a b d) (tail_split a b d) 0 3 (by decide) _ (by rfl) (by rfl)) fun v ms hR => ?_
  obtain ⟨c2, rfl, rfl⟩ := hR
  repeat' (refine N.go ?_; first | with_reducible refine N.obl (by decide) ?_ | with_reducible refine N.obl (flat_wi _ _ _) ?_ | with_reducible refine N.obl (flat_lim _ _) ?_ | with_reducible refine N.eq ?_ | with_reducible refine N.obl rfl ?_ | with_reducible refine N.obl ⟨by kernel_rfl, by kernel_rfl⟩ ?_ | with_reducible refine N.alt ?_ | with_reducible refine N.forkT ?_ | with_reducible refine N.forkF ?_ | refine N.call (cEMay _ _ _ _ _ _) ?_ | refine N.forkNo (by rw [decide_eq_true hm]; rfl) ?_ | refine N.forkYes (by rw [decide_eq_false hm]; rfl) ?_ | refine N.forkNo (by decide) ?_ | refine N.forkYes (by decide) ?_ | refine N.idx 0 0 (by decide) (by decide) ?_ | refine N.idx 1 0 (by decide) (by decide) ?_ | refine N.idx 2 0 (by decide) (by decide) ?_ | exact N.mk ⟨rfl, rfl⟩ | fail_if_success skip)
set_option maxRecDepth 100000 in
set_option maxHeartbeats 2000000 in
theorem cParseN (W : World) (hW : TxOK W) (x y a b d : Int) (hx : Fits x) (hy : Fits y) (ha : Fits a) (hb : Fits b) (hd : Fits d) (hm : ¬ mayP x y a b d) (i : Nat) (h : List (Option Chunk)) (hi : h[i]? = some (some (oldC W))) : CallOK Tryd.prog 4 [.string (textB x y a b d)] h (.tuple #[.agg #[.int .i64 0, .int .i64 0, .int .i64 0, .int .i64 0, .int .i64 0], .bool false]) [] [i] := by
  refine call_old i W hi tysOK mixed Tryd.func4 (by rfl) hW.pos rfl rfl (Tryd.call4) fun w hk => ?_
  have hw := hW.kept hk
  have s1 := head_size x y hx hy
  have s2 := tail_size a b d ha hb hd
  have s3 := text_size x y a b d hx hy ha hb hd
  repeat' (refine N.go ?_; first | with_reducible refine N.obl (by decide) ?_ | with_reducible refine N.obl (flat_wi _ _ _) ?_ | with_reducible refine N.obl (flat_lim _ _) ?_ | with_reducible refine N.eq ?_ | with_reducible refine N.obl rfl ?_ | with_reducible refine N.obl ⟨by kernel_rfl, by kernel_rfl⟩ ?_ | with_reducible refine N.alt ?_ | with_reducible refine N.forkT ?_ | with_reducible refine N.forkF ?_ | refine N.call (cCut w hw (textB x y a b d) (headB x y) (tailB a b d) (by omega) (text_cut x y a b d) 0 _ (by rfl)) ?_ | fail_if_success skip)
  refine N.go ?_
  refine N.callAll (cNumbers2 w hw (headB x y) x y hx hy (by omega) (head_count x y) (head_split x y) 0 2 (by decide) _ (by rfl) (by rfl)) fun v ms hR => ?_
  obtain ⟨c1, rfl, rfl⟩ := hR
  repeat' (refine N.go ?_; first | with_reducible refine N.obl (by decide) ?_ | with_reducible refine N.obl (flat_wi _ _ _) ?_ | with_reducible refine N.obl (flat_lim _ _) ?_ | with_reducible refine N.eq ?_ | with_reducible refine N.obl rfl ?_ | with_reducible refine N.obl ⟨by kernel_rfl, by kernel_rfl⟩ ?_ | with_reducible refine N.alt ?_ | with_reducible refine N.forkT ?_ | with_reducible refine N.forkF ?_ | refine N.call (cCut w hw (textB x y a b d) (headB x y) (tailB a b d) (by omega) (text_cut x y a b d) 0 _ (by rfl)) ?_ | fail_if_success skip)
  refine N.go ?_
  refine N.callAll (cNumbers3 w hw (tailB a b d) a b d ha hb hd (by omega) (tail_count a b d) (tail_split a b d) 0 3 (by decide) _ (by rfl) (by rfl)) fun v ms hR => ?_
  obtain ⟨c2, rfl, rfl⟩ := hR
  repeat' (refine N.go ?_; first | with_reducible refine N.obl (by decide) ?_ | with_reducible refine N.obl (flat_wi _ _ _) ?_ | with_reducible refine N.obl (flat_lim _ _) ?_ | with_reducible refine N.eq ?_ | with_reducible refine N.obl rfl ?_ | with_reducible refine N.obl ⟨by kernel_rfl, by kernel_rfl⟩ ?_ | with_reducible refine N.alt ?_ | with_reducible refine N.forkT ?_ | with_reducible refine N.forkF ?_ | refine N.call (cEMay _ _ _ _ _ _) ?_ | refine N.forkNo (by rw [decide_eq_true hm]; rfl) ?_ | refine N.forkYes (by rw [decide_eq_false hm]; rfl) ?_ | refine N.forkNo (by decide) ?_ | refine N.forkYes (by decide) ?_ | refine N.idx 0 0 (by decide) (by decide) ?_ | refine N.idx 1 0 (by decide) (by decide) ?_ | refine N.idx 2 0 (by decide) (by decide) ?_ | exact N.mk ⟨rfl, rfl⟩ | fail_if_success skip)
end Go.Proofs.YtbepibdjlajppaaDoor
