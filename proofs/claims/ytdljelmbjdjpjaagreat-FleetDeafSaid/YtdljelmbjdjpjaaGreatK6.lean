/-
  The walk of Dist.
-/
import Derived.Laws.ComplexArith
import Derived.Test.YtdljelmbjdjpjaaGreatK5
set_option linter.unusedVariables false
set_option linter.unusedSimpArgs false
set_option maxRecDepth 100000
set_option maxHeartbeats 20000000

namespace Go.Proofs.YtdljelmbjdjpjaaGreat
open Go.RowKit
def okPos (n:Int):Bool:=inB n 4194304
def distN (px py qx qy:Int):Int:=if okPos px&&okPos py&&okPos qx&&okPos qy then (isq ((px-qx)*(px-qx)+(py-qy)*(py-qy)).toNat:Nat) else 0
theorem qds {n:Int} (h:okPos n=true) : -4194304≤n∧n≤4194304:=by
 unfold okPos inB at h
 simpa using h
theorem qqf (d M:Int) (h1 : -M≤d) (h2:d≤M):0≤d*d∧d*d≤M*M:=by
 have e:d*d=((d.natAbs*d.natAbs:Nat):Int):=(Int.natAbs_mul_self' d).symm.trans (Int.natCast_mul _ _).symm
 have h3:d.natAbs≤M.toNat:=by omega
 have h4:=Nat.mul_le_mul h3 h3
 have h5:((M.toNat*M.toNat:Nat):Int)=M*M:=by
  rw[Int.natCast_mul,Int.toNat_of_nonneg (by omega)]
 omega
theorem qye (px py qx qy:Int) (w:World) :
  Calls Tryz.prog 111 #[.agg #[.int .i64 px,.int .i64 py],.agg #[.int .i64 qx,.int .i64 qy]] w fun e w'=>e=.returned (.int .i64 (distN px py qx qy))∧Below w.heap.size w w':=by
 have hB:Below w.heap.size w w:=Below.refl _ _
 have i0:∀ w:World,(Instr.index 185 (.agg #[.int .i64 px,.int .i64 py,.int .i64 qx,.int .i64 qy]) (.int .i64 0)).run Tryz.prog w=.ok (.int .i64 px) w:=fun w=>by kernel_rfl
 have i1:∀ w:World,(Instr.index 185 (.agg #[.int .i64 px,.int .i64 py,.int .i64 qx,.int .i64 qy]) (.int .i64 1)).run Tryz.prog w=.ok (.int .i64 py) w:=fun w=>by kernel_rfl
 have i2:∀ w:World,(Instr.index 185 (.agg #[.int .i64 px,.int .i64 py,.int .i64 qx,.int .i64 qy]) (.int .i64 2)).run Tryz.prog w=.ok (.int .i64 qx) w:=fun w=>by kernel_rfl
 have i3:∀ w:World,(Instr.index 185 (.agg #[.int .i64 px,.int .i64 py,.int .i64 qx,.int .i64 qy]) (.int .i64 3)).run Tryz.prog w=.ok (.int .i64 qy) w:=fun w=>by kernel_rfl
 have hB2:Below w.heap.size w ((w.alloc (.cells #[.int .i64 px,.int .i64 py] 34)).alloc (.cells #[.int .i64 qx,.int .i64 qy] 34)):=(hB.alloc (nlr _) _).alloc (by simp) _
 go_enter Tryz.func111,Tryz.ntmps111
 go_wp2_with fail
 go_loopw [18] (fun i wr=>wr=(w.alloc (.cells #[.int .i64 px,.int .i64 py] 34)).alloc (.cells #[.int .i64 qx,.int .i64 qy] 34)∧(i=.int .i64 0∨(i=.int .i64 1∧okPos px=true)∨(i=.int .i64 2∧okPos px=true∧okPos py=true)∨(i=.int .i64 3∧okPos px=true∧okPos py=true∧okPos qx=true)∨(i=.int .i64 4∧okPos px=true∧okPos py=true∧okPos qx=true∧okPos qy=true))) (fun i _=>4-(intOf i).toNat)
 case atStart=>exact⟨by first|trivial|rfl,.inl rfl⟩
 case round=>
  obtain⟨rfl,hrel⟩:=hrel
  rcases hrel with rfl|⟨rfl,a1⟩|⟨rfl,a1,a2⟩|⟨rfl,a1,a2,a3⟩|⟨rfl,a1,a2,a3,a4⟩
  ·go_wp2_with fail
   refine(qiz px 4194304 _ (by omega)).mono ?_
   rintro e w' ⟨rfl,rfl⟩
   cases hc:inB px 4194304
   ·have HC:=Lib.hid hc
    clear hc
    go_wp2_with fail
    go_ret
    exact⟨by unfold distN;rw[show okPos px=false from HC.out];simp,hB2⟩
   ·have HC:=Lib.hid hc
    clear hc
    go_wp2_with fail
    go_roundw
    case rel=>have hc:=HC.out;exact⟨by first|trivial|rfl,.inr (.inl ⟨rfl,hc⟩)⟩
    case measure=>simp[intOf]
  ·have KN:=Lib.hid (show okPos px=true∧True from⟨a1,trivial⟩)
   clear a1
   go_wp2_with fail
   refine(qiz py 4194304 _ (by omega)).mono ?_
   rintro e w' ⟨rfl,rfl⟩
   cases hc:inB py 4194304
   ·have HC:=Lib.hid hc
    clear hc
    go_wp2_with fail
    go_ret
    exact⟨by unfold distN;rw[show okPos py=false from HC.out];simp,hB2⟩
   ·have HC:=Lib.hid hc
    clear hc
    go_wp2_with fail
    go_roundw
    case rel=>have hc:=HC.out;obtain⟨a1,_⟩:=KN.out;exact⟨by first|trivial|rfl,.inr (.inr (.inl ⟨rfl,a1,hc⟩))⟩
    case measure=>simp[intOf]
  ·have KN:=Lib.hid (show okPos px=true∧okPos py=true∧True from⟨a1,a2,trivial⟩)
   clear a1 a2
   go_wp2_with fail
   refine(qiz qx 4194304 _ (by omega)).mono ?_
   rintro e w' ⟨rfl,rfl⟩
   cases hc:inB qx 4194304
   ·have HC:=Lib.hid hc
    clear hc
    go_wp2_with fail
    go_ret
    exact⟨by unfold distN;rw[show okPos qx=false from HC.out];simp,hB2⟩
   ·have HC:=Lib.hid hc
    clear hc
    go_wp2_with fail
    go_roundw
    case rel=>have hc:=HC.out;obtain⟨a1,a2,_⟩:=KN.out;exact⟨by first|trivial|rfl,.inr (.inr (.inr (.inl ⟨rfl,a1,a2,hc⟩)))⟩
    case measure=>simp[intOf]
  ·have KN:=Lib.hid (show okPos px=true∧okPos py=true∧okPos qx=true∧True from⟨a1,a2,a3,trivial⟩)
   clear a1 a2 a3
   go_wp2_with fail
   refine(qiz qy 4194304 _ (by omega)).mono ?_
   rintro e w' ⟨rfl,rfl⟩
   cases hc:inB qy 4194304
   ·have HC:=Lib.hid hc
    clear hc
    go_wp2_with fail
    go_ret
    exact⟨by unfold distN;rw[show okPos qy=false from HC.out];simp,hB2⟩
   ·have HC:=Lib.hid hc
    clear hc
    go_wp2_with fail
    go_roundw
    case rel=>have hc:=HC.out;obtain⟨a1,a2,a3,_⟩:=KN.out;exact⟨by first|trivial|rfl,.inr (.inr (.inr (.inr ⟨rfl,a1,a2,a3,hc⟩)))⟩
    case measure=>simp[intOf]
  ·have b1:=qds a1
   have b2:=qds a2
   have b3:=qds a3
   have b4:=qds a4
   have HD:Hid (distN px py qx qy=(isq ((px-qx)*(px-qx)+(py-qy)*(py-qy)).toNat:Nat)):=by
    show _=_
    unfold distN;rw[a1,a2,a3,a4];rfl
   clear a1 a2 a3 a4
   obtain⟨b1,b1'⟩:=b1
   obtain⟨b2,b2'⟩:=b2
   obtain⟨b3,b3'⟩:=b3
   obtain⟨b4,b4'⟩:=b4
   obtain⟨s1,s2⟩:=qqf (px-qx) 8388608 (by omega) (by omega)
   obtain⟨s3,s4⟩:=qqf (py-qy) 8388608 (by omega) (by omega)
   go_wp2_with fail
   go_region
   go_wp2_with fail
   have hB3:=hB2.drew
   refine(qva _ (by omega) _).mono ?_
   rintro e w2 ⟨rfl,hb⟩
   have hB4:Below w.heap.size w w2:=hB3.trans (hb.mono hB3.size)
   go_wp2_with fail
   go_ret
   exact⟨by rw[HD.out];rfl,hB4⟩
open Go Go.RowKit Sx
abbrev wcc (o:Bool) (c:Nat→Int) (n cap j k:Nat) (tm st:Int):Chunk:=⟨o,15,[(0,15,.agg #[.int .i64 (c 0),.int .i64 (c 1),.int .i64 (c 2),.int .i64 (c 3),.int .i64 (c 4),.int .i64 (c 5),.int .i64 (c 6),.int .i64 (c 7),.int .i64 (c 8),.int .i64 (c 9),.int .i64 (c 10),.slice (some ⟨j,0,some 0⟩) n cap,.slice (some ⟨k,0,some 0⟩) n n,.int .i64 tm,.int .i64 st])]⟩
theorem qch {ix:List (Nat×Nat)} {o o':Bool} {c:Nat→Int} {n cap j k j' k':Nat} {tm st:Int} (h1:ixK ix j'=some j) (h2:ixK ix k'=some k):qb2 ix (wcc o c n cap j k tm st) (wcc o' c n cap j' k' tm st):=
 (by first|(refine lt15 ?_ ?_ ?_ ?_ ?_ ?_ ?_ ?_ ?_ ?_ ?_ ?_ ?_ ?_ ?_<;>first|exact Re1.plain rfl|exact Re1.slice (by assumption))|fail)
theorem qa8 {ix:List (Nat×Nat)} {o o':Bool} {n:Nat} {P:Nat→Int}:qb2 ix (ptP o n P) (ptP o' n P):=fun j hj=>by
 have hj:j<n*2:=hj
 rw[qbp hj,qbp hj];exact .plain rfl
theorem qay {ix:List (Nat×Nat)} {o o':Bool} {n:Nat} {M:Nat→Bool}:qb2 ix (mvP o n M) (mvP o' n M):=fun j hj=>by
 have hj:j<n:=hj
 rw[qbp hj,qbp hj];exact .plain rfl
theorem qld {o:Bool} {n p:Nat} {P:Nat→Int} (h:p<n):Reads (ptP o n P) (p*2) true (1*2) (.agg ⟨[.int .i64 (P (p*2)),.int .i64 (P (p*2+1))]⟩):=
 ⟨by show p*2+1*2≤n*2;omega,_,rfl,rfl,fun j hj=>by
  match j,hj with
  | 0,_=>rw[qbp (by omega)];rfl
  | 1,_=>rw[qbp (by omega)];rfl⟩
theorem cHas (c:Nat→Int) (n cap i j k:Nat) (P:Nat→Int) (M:Nat→Bool) (tm st:Int) (o1 o2 o3:Bool) (x:Int) (h:Hp) (hi:h[i]?=some (some (wcc o1 c n cap j k tm st))) (hj:h[j]?=some (some (ptP o2 n P))) (hk:h[k]?=some (some (mvP o3 n M)))  :
  qad Tryz.prog 39 [.pointer (some ⟨i,0,some 0⟩),.int .i64 x] h (.bool (decide (0≤x∧x<(n:Int)))) [] [i,j,k]:=by
 refine qar (G:=tys) [⟨i,_,wcc false c n cap 1 2 tm st,⟨false,0,[]⟩⟩,⟨j,_,ptP false n P,⟨false,0,[]⟩⟩,⟨k,_,mvP false n M,⟨false,0,[]⟩⟩] [] [.pointer (some ⟨0,0,some 0⟩),.int .i64 x] tysOK mixed Tryz.func39 (by rfl) (Tryz.call39) ⟨hi,hj,hk,trivial⟩ ⟨⟨fun h=>(by cases h),nlr _,qch rfl rfl⟩,⟨fun h=>(by cases h),nlr _,qa8⟩,⟨fun h=>(by cases h),nlr _,qay⟩,trivial⟩ (by simp[Apart]) trivial ⟨.ptr rfl,.plain rfl,trivial⟩ ?_
 repeat' (refine N.go ?_;first|with_reducible (first|refine N.forkT ?_|refine N.forkF ?_)|with_reducible refine N.fork (fun hb=>?_) (fun hb=>?_)|fail)
 all_goals
  refine N.obl (qqc (boolD ?_).symm rfl) ?_
  ·simp only[decide_eq_true_eq,decide_eq_false_iff_not,Bool.false_eq_true,false_iff,true_iff,iff_true,iff_false,reduceCtorEq,not_true_eq_false,not_false_eq_true,ge_iff_le,gt_iff_lt] at *
   omega
  ·repeat' (refine N.go ?_;first|refine N.obl trivial ?_|exact N.true|fail)
theorem qg8 (c:Nat→Int) (n cap i j k:Nat) (P:Nat→Int) (M:Nat→Bool) (tm st:Int) (o1 o2 o3:Bool) (p:Nat) (h:Hp) (hi:h[i]?=some (some (wcc o1 c n cap j k tm st))) (hj:h[j]?=some (some (ptP o2 n P))) (hk:h[k]?=some (some (mvP o3 n M))) (hp:p<n) :
  qad Tryz.prog 22 [.pointer (some ⟨i,0,some 0⟩),.int .i64 (p:Int)] h (.tuple #[.agg #[.int .i64 (P (p*2)),.int .i64 (P (p*2+1))],.bool true]) [] [i,j,k]:=by
 refine qar (G:=tys) [⟨i,_,wcc false c n cap 1 2 tm st,⟨false,0,[]⟩⟩,⟨j,_,ptP false n P,⟨false,0,[]⟩⟩,⟨k,_,mvP false n M,⟨false,0,[]⟩⟩] [] [.pointer (some ⟨0,0,some 0⟩),.int .i64 (p:Int)] tysOK mixed Tryz.func22 (by rfl) (Tryz.call22) ⟨hi,hj,hk,trivial⟩ ⟨⟨fun h=>(by cases h),nlr _,qch rfl rfl⟩,⟨fun h=>(by cases h),nlr _,qa8⟩,⟨fun h=>(by cases h),nlr _,qay⟩,trivial⟩ (by simp[Apart]) trivial ⟨.ptr rfl,.plain rfl,trivial⟩ ?_
 repeat' (refine N.go ?_;first|with_reducible refine N.obl rfl ?_|refine N.call (cHas c n cap _ _ _ P M tm st _ _ _ _ _ (by rfl) (by rfl) (by rfl)) ?_|refine N.forkNo (by simp only[decide_eq_true_eq,decide_eq_false_iff_not,Bool.not_eq_eq_eq_not,Bool.not_true,Bool.not_false];omega) ?_|refine N.idx p 1 rfl hp ?_|refine N.load _ (qld hp) ?_|refine N.obl trivial ?_|exact N.true|refine N.obl (.plain rfl) ?_|fail)
def offN (p:Nat) (b m:Int):Int:=(b*(p:Int))%(2*m+1)-m
theorem q2q (p:Nat) (b m:Int) (hm:0≤m) : -m≤offN p b m∧offN p b m≤m:=by
 unfold offN
 have h1:=Int.emod_nonneg (b*(p:Int)) (show 2*m+1≠0 by omega)
 have h2:=Int.emod_lt_of_pos (b*(p:Int)) (show 0<2*m+1 by omega)
 omega
theorem q49 {p:Nat} {b m:Int} (hp:p<64) (hb:0≤b∧b≤13) (hm:0≤m∧m≤1000):(IntKind.i64.wrap (b*(p:Int))).tmod (IntKind.i64.wrap (IntKind.i64.wrap (2*m)+1))-m=offN p b m∧0≤b*(p:Int)∧b*(p:Int)≤13*63:=by
 have k0:0≤b*(p:Int):=Int.mul_nonneg (by omega) (by omega)
 have k1:b*(p:Int)≤13*63:=Int.mul_le_mul (by omega) (by omega) (by omega) (by omega)
 refine⟨?_,k0,k1⟩
 rw[i64s (2*m) (by omega) (by omega),i64s (2*m+1) (by omega) (by omega),i64s (b*(p:Int)) (by omega) (by omega),Int.tmod_eq_emod_of_nonneg k0]
 have h1:=Int.emod_nonneg (b*(p:Int)) (show 2*m+1≠0 by omega)
 rfl
theorem q5a (p:Nat) (b m:Int) (hp:p<64) (hb:0≤b∧b≤13) (hm:0≤m∧m≤1000) (w:World):Calls Tryz.prog 69 #[.int .i64 (p:Int),.int .i64 b,.int .i64 m] w fun e w'=>e=.returned (.int .i64 (offN p b m))∧Below w.heap.size w w':=by
 refine qaf (G:=tys) w tysOK mixed Tryz.func69 (by rfl) (by first|rfl|(simp only[List.all_cons,List.all_nil,qaa,qab,qac];rfl)) (by first|exact qag _|exact qak _ _ _|rfl|(simp only[qap,List.all_cons,List.all_nil,qaa,qab,qac];rfl)) ?_
 repeat' (refine N.go ?_;first|with_reducible refine N.eq ?_|refine N.obl (by simp only[IntKind.wrap_i64];omega) ?_|fail)
 obtain⟨k1,k2,k3⟩:=q49 hp hb hm
 have:=q2q p b m (by omega)
 exact qla ((congrArg IntKind.i64.wrap k1).trans (i64s _ (by omega) (by omega)))
theorem cOff (p:Nat) (b m:Int) (h:Hp) (hp:p<64) (hb:0≤b∧b≤13) (hm:0≤m∧m≤1000):qad Tryz.prog 69 [.int .i64 (p:Int),.int .i64 b,.int .i64 m] h (.int .i64 (offN p b m)) [] []:=
 qai rfl rfl (Tryz.call69 _) (q5a p b m hp hb hm)
theorem cDist (px py qx qy:Int) (h:Hp):qad Tryz.prog 111 [.agg #[.int .i64 px,.int .i64 py],.agg #[.int .i64 qx,.int .i64 qy]] h (.int .i64 (distN px py qx qy)) [] []:=qai (by rfl) (by rfl) (Tryz.call111 _) (fun w=>qye px py qx qy w)
theorem cTime (c:Nat→Int) (n cap i j k:Nat) (P:Nat→Int) (M:Nat→Bool) (tm st:Int) (o1 o2 o3:Bool)  (h:Hp) (hi:h[i]?=some (some (wcc o1 c n cap j k tm st))) (hj:h[j]?=some (some (ptP o2 n P))) (hk:h[k]?=some (some (mvP o3 n M)))  :
  qad Tryz.prog 36 [.pointer (some ⟨i,0,some 0⟩)] h (.int .i64 tm) [] [i,j,k]:=by
 refine qar (G:=tys) [⟨i,_,wcc false c n cap 1 2 tm st,⟨false,0,[]⟩⟩,⟨j,_,ptP false n P,⟨false,0,[]⟩⟩,⟨k,_,mvP false n M,⟨false,0,[]⟩⟩] [] [.pointer (some ⟨0,0,some 0⟩)] tysOK mixed Tryz.func36 (by rfl) (Tryz.call36) ⟨hi,hj,hk,trivial⟩ ⟨⟨fun h=>(by cases h),nlr _,qch rfl rfl⟩,⟨fun h=>(by cases h),nlr _,qa8⟩,⟨fun h=>(by cases h),nlr _,qay⟩,trivial⟩ (by simp[Apart]) trivial ⟨.ptr rfl,trivial⟩ ?_
 repeat' (refine N.go ?_;first|with_reducible refine N.forkF ?_|refine N.obl trivial ?_|exact N.true|refine N.obl (.plain rfl) ?_|fail)
theorem cNowY (c:Nat→Int) (n cap i j k:Nat) (P:Nat→Int) (M:Nat→Bool) (tm st:Int) (o1 o2 o3:Bool) (p:Nat) (h:Hp) (hi:h[i]?=some (some (wcc o1 c n cap j k tm st))) (hj:h[j]?=some (some (ptP o2 n P))) (hk:h[k]?=some (some (mvP o3 n M))) (hp:p<n) (h64:n≤64) (hs:0≤c 4∧c 4≤100) :
  qad Tryz.prog 37 [.pointer (some ⟨i,0,some 0⟩),.int .i64 (p:Int)] h (.int .i64 (locN (offN p 7 (c 4)) tm)) [] [i,j,k]:=by
 refine qar (G:=tys) [⟨i,_,wcc false c n cap 1 2 tm st,⟨false,0,[]⟩⟩,⟨j,_,ptP false n P,⟨false,0,[]⟩⟩,⟨k,_,mvP false n M,⟨false,0,[]⟩⟩] [] [.pointer (some ⟨0,0,some 0⟩),.int .i64 (p:Int)] tysOK mixed Tryz.func37 (by rfl) (Tryz.call37) ⟨hi,hj,hk,trivial⟩ ⟨⟨fun h=>(by cases h),nlr _,qch rfl rfl⟩,⟨fun h=>(by cases h),nlr _,qa8⟩,⟨fun h=>(by cases h),nlr _,qay⟩,trivial⟩ (by simp[Apart]) trivial ⟨.ptr rfl,.plain rfl,trivial⟩ ?_
 repeat' (refine N.go ?_;first|with_reducible (first|refine N.obl (by decide) ?_|refine N.alt ?_)|refine N.call (cHas c n cap _ _ _ P M tm st _ _ _ _ _ (by rfl) (by rfl) (by rfl)) ?_|refine N.forkNo (by simp only[decide_eq_true_eq,decide_eq_false_iff_not,Bool.not_eq_eq_eq_not,Bool.not_true,Bool.not_false];omega) ?_|with_reducible (first|refine N.call (cOff _ _ _ _ (by omega) (by omega) (by omega)) ?_|refine N.call (q43 _ _ _) ?_)|refine N.obl trivial ?_|exact N.true|refine N.obl (.plain rfl) ?_|fail)
theorem qoj (c:Nat→Int) (n cap i j k:Nat) (P:Nat→Int) (M:Nat→Bool) (tm st:Int) (o1 o2 o3:Bool) (p:Nat) (g:Int) (h:Hp) (hi:h[i]?=some (some (wcc o1 c n cap j k tm st))) (hj:h[j]?=some (some (ptP o2 n P))) (hk:h[k]?=some (some (mvP o3 n M))) (hp:p<n) (h64:n≤64) (hs:0≤c 5∧c 5≤1000) :
  qad Tryz.prog 58 [.pointer (some ⟨i,0,some 0⟩),.int .i64 (p:Int),.int .i64 g] h (.int .i64 (if qix (offN p 13 (c 5)) (IntKind.i64.wrap (12345*(p:Int))) g then fineN (offN p 13 (c 5)) (IntKind.i64.wrap (12345*(p:Int))) g else 0)) [] [i,j,k]:=by
 refine qar (G:=tys) [⟨i,_,wcc false c n cap 1 2 tm st,⟨false,0,[]⟩⟩,⟨j,_,ptP false n P,⟨false,0,[]⟩⟩,⟨k,_,mvP false n M,⟨false,0,[]⟩⟩] [] [.pointer (some ⟨0,0,some 0⟩),.int .i64 (p:Int),.int .i64 g] tysOK mixed Tryz.func58 (by rfl) (Tryz.call58) ⟨hi,hj,hk,trivial⟩ ⟨⟨fun h=>(by cases h),nlr _,qch rfl rfl⟩,⟨fun h=>(by cases h),nlr _,qa8⟩,⟨fun h=>(by cases h),nlr _,qay⟩,trivial⟩ (by simp[Apart]) trivial ⟨.ptr rfl,.plain rfl,.plain rfl,trivial⟩ ?_
 repeat' (refine N.go ?_;first|refine N.call (cHas c n cap _ _ _ P M tm st _ _ _ _ _ (by rfl) (by rfl) (by rfl)) ?_|refine N.forkNo (by simp only[decide_eq_true_eq,decide_eq_false_iff_not,Bool.not_eq_eq_eq_not,Bool.not_true,Bool.not_false];omega) ?_|with_reducible (first|refine N.call (cOff _ _ _ _ (by omega) (by omega) (by omega)) ?_|refine N.call (cFine _ _ _ _) ?_)|refine N.obl trivial ?_|exact N.true|refine N.obl (.plain rfl) ?_|fail)
theorem qyf (c:Nat→Int) (n cap i j k:Nat) (P:Nat→Int) (M:Nat→Bool) (tm st:Int) (o1 o2 o3:Bool) (p q:Nat) (h:Hp) (hi:h[i]?=some (some (wcc o1 c n cap j k tm st))) (hj:h[j]?=some (some (ptP o2 n P))) (hk:h[k]?=some (some (mvP o3 n M))) (hp:p<n) (hq:q<n) :
  qad Tryz.prog 83 [.pointer (some ⟨i,0,some 0⟩),.int .i64 (p:Int),.int .i64 (q:Int)] h (.int .i64 (distN (P (p*2)) (P (p*2+1)) (P (q*2)) (P (q*2+1)))) [] [i,j,k]:=by
 refine qar (G:=tys) [⟨i,_,wcc false c n cap 1 2 tm st,⟨false,0,[]⟩⟩,⟨j,_,ptP false n P,⟨false,0,[]⟩⟩,⟨k,_,mvP false n M,⟨false,0,[]⟩⟩] [] [.pointer (some ⟨0,0,some 0⟩),.int .i64 (p:Int),.int .i64 (q:Int)] tysOK mixed Tryz.func83 (by rfl) (Tryz.call83) ⟨hi,hj,hk,trivial⟩ ⟨⟨fun h=>(by cases h),nlr _,qch rfl rfl⟩,⟨fun h=>(by cases h),nlr _,qa8⟩,⟨fun h=>(by cases h),nlr _,qay⟩,trivial⟩ (by simp[Apart]) trivial ⟨.ptr rfl,.plain rfl,.plain rfl,trivial⟩ ?_
 repeat' (refine N.go ?_;first|with_reducible (first|refine N.obl (by decide) ?_|refine N.alt ?_|refine N.forkF ?_)|refine N.call (cHas c n cap _ _ _ P M tm st _ _ _ _ _ (by rfl) (by rfl) (by rfl)) ?_|refine N.forkNo (by simp only[decide_eq_true_eq,decide_eq_false_iff_not,Bool.not_eq_eq_eq_not,Bool.not_true,Bool.not_false];omega) ?_|refine N.idx p 1 rfl hp ?_|refine N.load _ (qld hp) ?_|refine N.idx q 1 rfl hq ?_|refine N.load _ (qld hq) ?_|with_reducible refine N.call (cDist _ _ _ _ _) ?_|refine N.obl trivial ?_|exact N.true|refine N.obl (.plain rfl) ?_|fail)
open Go.RowKit
def geR (b:Nat):Bool:=FloatKind.f64.format.order b 13929633647456944128==some .gt||FloatKind.f64.format.order b 13929633647456944128==some .eq
def leR (b:Nat):Bool:=FloatKind.f64.format.order b 4706261610602168320==some .lt||FloatKind.f64.format.order b 4706261610602168320==some .eq
def cutN (b:Nat):Int:=(floatToIntVal .f64 b .i64).getD 0
def qdk (b:Nat):Int:=if (geR b&&leR b)=true then cutN b else 0
def qd9 (b:Nat):Bool:=geR b&&leR b&&(FloatKind.f64.format.order (floatOfInt .f64 (cutN b)) b==some .eq)
theorem q5b (b:Nat) (h1:geR b=true) (h2:leR b=true):floatToIntVal .f64 b .i64=some (cutN b)∧-4194304≤cutN b∧cutN b≤4194304:=by
 obtain⟨n,hn,h3,h4⟩:=FZ.order_whole (a:=b) (B:=4194304) FZ.range_lo FZ.range_hi (by simpa[geR] using h1) (by simpa[leR] using h2) (by decide)
 have:cutN b=n:=by unfold cutN;rw[hn];rfl
 rw[this]
 exact⟨hn,by omega,by omega⟩
theorem ret2 {n n':Int} {b b':Bool} (h:n=n') (k:b=b'):Ending.returned (.tuple #[.int .i64 n,.bool b])=.returned (.tuple #[.int .i64 n',.bool b']):=by rw[h,k]
theorem qi0 (b:Nat) (w:World) :
  Calls Tryz.prog 106 #[.float .f64 b] w fun e w'=>e=.returned (.tuple #[.int .i64 (qdk b),.bool (qd9 b)])∧w=w':=by
 have q1:(FloatKind.f64.format.order b 13929633647456944128==some .gt||FloatKind.f64.format.order b 13929633647456944128==some .eq)=geR b:=rfl
 have q2:(FloatKind.f64.format.order b 4706261610602168320==some .lt||FloatKind.f64.format.order b 4706261610602168320==some .eq)=leR b:=rfl
 by_cases h1:geR b=true
 ·by_cases h2:leR b=true
  ·obtain⟨hc,_,_⟩:=q5b b h1 h2
   have hcv:=fun w:World=>run_convert_float_int (P:=Tryz.prog) w 147 2 _ _ _ _ (by rw[Tryz.underlying147];rfl) Tryz.underlying2 hc
   have hn:cutN b=qdk b:=by unfold qdk;rw[h1,h2];rfl
   have hb:(FloatKind.f64.format.order (floatOfInt .f64 (cutN b)) b==some .eq)=qd9 b:=by unfold qd9;rw[h1,h2];rfl
   have HN:=Lib.hid hn
   have HB:=Lib.hid hb
   clear hc hn hb
   rw[h1] at q1
   rw[h2] at q2
   generalize cutN b=c at *
   go_enter Tryz.func106,Tryz.ntmps106
   go_wp2
   go_ret2
   exact⟨ret2 HN.out HB.out,rfl⟩
  ·have h2':leR b=false:=by simpa using h2
   have hn:0=qdk b:=by unfold qdk;rw[h1,h2'];rfl
   have hb:false=qd9 b:=by unfold qd9;rw[h1,h2'];rfl
   have HN:=Lib.hid hn
   have HB:=Lib.hid hb
   clear hn hb
   rw[h1] at q1
   rw[h2'] at q2
   go_enter Tryz.func106,Tryz.ntmps106
   go_wp2
   go_ret2
   exact⟨ret2 HN.out HB.out,rfl⟩
 ·have h1':geR b=false:=by simpa using h1
  have hn:0=qdk b:=by unfold qdk;rw[h1'];rfl
  have hb:false=qd9 b:=by unfold qd9;rw[h1'];rfl
  have HN:=Lib.hid hn
  have HB:=Lib.hid hb
  clear hn hb
  rw[h1'] at q1
  go_enter Tryz.func106,Tryz.ntmps106
  go_wp2
  go_ret2
  exact⟨ret2 HN.out HB.out,rfl⟩
def toB (a b:Nat):Bool:=qd9 a&&qd9 b
def toX (a b:Nat):Int:=if toB a b=true then qdk a else 0
def toY (a b:Nat):Int:=if toB a b=true then qdk b else 0
theorem q5c (a b:Nat) (w:World) :
  Calls Tryz.prog 77 #[.complex .f64 a b] w fun e w'=>e=.returned (.tuple #[.agg #[.int .i64 (toX a b),.int .i64 (toY a b)],.bool (toB a b)])∧Below w.heap.size w w':=by
 have hB:Below w.heap.size w w:=Below.refl _ _
 cases h1:qd9 a
 ·have e1:toB a b=false:=by unfold toB;rw[h1];rfl
  have e2:toX a b=0:=by unfold toX;rw[e1];rfl
  have e3:toY a b=0:=by unfold toY;rw[e1];rfl
  rw[e1,e2,e3]
  clear e1 e2 e3
  go_enter Tryz.func77,Tryz.ntmps77
  go_wp2_with (go_at_call 106;refine(qi0 _ _).mono ?_;rintro e w' ⟨rfl,rfl⟩)
  exact bodyPost_ret (v:=.tuple #[.agg #[.int .i64 0,.int .i64 0],.bool false]) (by simp[results,Tryz.results77,go_sem]) rfl ⟨rfl,(by repeat (first|exact Below.refl _ _|exact hB|apply Below.drew|refine Below.alloc ?_ (by first|(simp;done)|(simp;omega)|omega) _|refine Below.setCell ?_ (by first|(simp;done)|(simp;omega)|omega) _))⟩
 ·cases h2:qd9 b
  ·have e1:toB a b=false:=by unfold toB;rw[h1,h2];rfl
   have e2:toX a b=0:=by unfold toX;rw[e1];rfl
   have e3:toY a b=0:=by unfold toY;rw[e1];rfl
   rw[e1,e2,e3]
   clear e1 e2 e3
   go_enter Tryz.func77,Tryz.ntmps77
   go_wp2_with (go_at_call 106;refine(qi0 _ _).mono ?_;rintro e w' ⟨rfl,rfl⟩)
   exact bodyPost_ret (v:=.tuple #[.agg #[.int .i64 0,.int .i64 0],.bool false]) (by simp[results,Tryz.results77,go_sem]) rfl ⟨rfl,(by repeat (first|exact Below.refl _ _|exact hB|apply Below.drew|refine Below.alloc ?_ (by first|(simp;done)|(simp;omega)|omega) _|refine Below.setCell ?_ (by first|(simp;done)|(simp;omega)|omega) _))⟩
  ·have e1:toB a b=true:=by unfold toB;rw[h1,h2];rfl
   have e2:toX a b=qdk a:=by unfold toX;rw[e1];rfl
   have e3:toY a b=qdk b:=by unfold toY;rw[e1];rfl
   rw[e1,e2,e3]
   clear e1 e2 e3
   go_enter Tryz.func77,Tryz.ntmps77
   go_wp2_with (go_at_call 106;refine(qi0 _ _).mono ?_;rintro e w' ⟨rfl,rfl⟩)
   exact bodyPost_ret (v:=.tuple #[.agg #[.int .i64 (qdk a),.int .i64 (qdk b)],.bool true]) (by simp[results,Tryz.results77,go_sem]) rfl ⟨rfl,(by repeat (first|exact Below.refl _ _|exact hB|apply Below.drew|refine Below.alloc ?_ (by first|(simp;done)|(simp;omega)|omega) _|refine Below.setCell ?_ (by first|(simp;done)|(simp;omega)|omega) _))⟩
theorem geR_w {b:Nat} {z:Int} (h:FZ.W b z):geR b=decide (-4194304≤z):=by
 unfold geR
 rw[h.order FZ.range_lo]
 rcases Int.lt_trichotomy z (-4194304) with g|g|g
 ·rw[Int.compare_eq_lt.2 g];simp;omega
 ·subst g;rfl
 ·rw[Int.compare_eq_gt.2 g];simp;omega
theorem leR_w {b:Nat} {z:Int} (h:FZ.W b z):leR b=decide (z≤4194304):=by
 unfold leR
 rw[h.order FZ.range_hi]
 rcases Int.lt_trichotomy z 4194304 with g|g|g
 ·rw[Int.compare_eq_lt.2 g];simp;omega
 ·subst g;rfl
 ·rw[Int.compare_eq_gt.2 g];simp;omega
theorem q0y {b:Nat} {z:Int} (h:FZ.W b z) (hz : -9223372036854775808≤z∧z≤9223372036854775807):cutN b=z:=by unfold cutN;rw[h.toInt hz];rfl
theorem qqg {b:Nat} {z:Int} (h:FZ.W b z) (hz : -9007199254740992<z∧z<9007199254740992):qd9 b=decide (-4194304≤z∧z≤4194304):=by
 unfold qd9
 rw[geR_w h,leR_w h,q0y h (by omega),(FZ.W.of_int hz).order h]
 simp
theorem qqh {b:Nat} {z:Int} (h:FZ.W b z) (hz : -4194304≤z∧z≤4194304):qdk b=z:=by
 unfold qdk
 rw[geR_w h,leR_w h,q0y h (by omega),if_pos (by simp;omega)]
theorem to_w {a b:Nat} {x y:Int} (ha:FZ.W a x) (hb:FZ.W b y) (hx : -9007199254740992<x∧x<9007199254740992) (hy : -9007199254740992<y∧y<9007199254740992) :
  toB a b=stp x y∧toX a b=cx x y∧toY a b=cy x y:=by
 have h1:toB a b=stp x y:=by
  unfold toB
  rw[qqg ha hx,qqg hb hy]
  unfold stp
  rw[←Bool.decide_and]
  congr 1
  simp only[eq_iff_iff];omega
 refine⟨h1,?_,?_⟩
 ·unfold toX cx
  rw[h1]
  split
  ·rename_i h;have:=stp_iff.1 h;exact qqh ha (by omega)
  ·rfl
 ·unfold toY cy
  rw[h1]
  split
  ·rename_i h;have:=stp_iff.1 h;exact qqh hb (by omega)
  ·rfl
def normN (x y:Int):Int:=cx x y*cx x y+cy x y*cy x y
theorem qyg (x y:Int) (w:World) :
  Calls Tryz.prog 78 #[.agg #[.int .i64 x,.int .i64 y]] w fun e w'=>e=.returned (.int .i64 (normN x y))∧Below w.heap.size w w':=by
 have hB:Below w.heap.size w w:=Below.refl _ _
 cases h:stp x y
 ·have hn:0=normN x y:=by unfold normN cx cy;rw[h];rfl
  have HN:=Lib.hid hn
  clear hn
  go_enter Tryz.func78,Tryz.ntmps78
  go_wp2_with (first|(go_at_call 76;refine(qlc _ _ _).mono ?_;rintro e w1 ⟨rfl,hb⟩;have hz:=hb.size;(try simp at hz);have hB':Below w.heap.size w w1:=Below.trans (by repeat (first|exact Below.refl _ _|exact hB|apply Below.drew|refine Below.alloc ?_ (by first|(simp;done)|(simp;omega)|omega) _|refine Below.setCell ?_ (by first|(simp;done)|(simp;omega)|omega) _)) (hb.mono (by first|(simp;done)|(simp;omega)|omega));have hB:=hB';clear hB'))
  go_ret
  exact⟨qnu HN.out,(by repeat (first|exact Below.refl _ _|exact hB|apply Below.drew|refine Below.alloc ?_ (by first|(simp;done)|(simp;omega)|omega) _|refine Below.setCell ?_ (by first|(simp;done)|(simp;omega)|omega) _))⟩
 ·have hn:x*x+y*y=normN x y:=by unfold normN cx cy;rw[h];rfl
  have HN:=Lib.hid hn
  have hs:=stp_iff.1 h
  have b1:=q0x 4194304 (a:=x) (b:=x) (by omega) 4194304 (by omega)
  have b2:=q0x 4194304 (a:=y) (b:=y) (by omega) 4194304 (by omega)
  clear hn hs
  go_enter Tryz.func78,Tryz.ntmps78
  go_wp2_with (first|(go_at_call 76;refine(qlc _ _ _).mono ?_;rintro e w1 ⟨rfl,hb⟩;have hz:=hb.size;(try simp at hz);have hB':Below w.heap.size w w1:=Below.trans (by repeat (first|exact Below.refl _ _|exact hB|apply Below.drew|refine Below.alloc ?_ (by first|(simp;done)|(simp;omega)|omega) _|refine Below.setCell ?_ (by first|(simp;done)|(simp;omega)|omega) _)) (hb.mono (by first|(simp;done)|(simp;omega)|omega));have hB:=hB';clear hB';have k0:w1.cell? ⟨w.heap.size,0,none⟩=some (.int .i64 x):=(hb.cell (by first|(simp;done)|(simp;omega)|omega)).trans (by first|(go_keep;done)|(go_simp;done));have k1:w1.cell? ⟨w.heap.size,1,none⟩=some (.int .i64 y):=(hb.cell (by first|(simp;done)|(simp;omega)|omega)).trans (by first|(go_keep;done)|(go_simp;done))))
  go_ret
  exact⟨qnu HN.out,(by repeat (first|exact Below.refl _ _|exact hB|apply Below.drew|refine Below.alloc ?_ (by first|(simp;done)|(simp;omega)|omega) _|refine Below.setCell ?_ (by first|(simp;done)|(simp;omega)|omega) _))⟩
open Go Go.RowKit Sx
theorem qej (x y:Operand) (a b c d:Int):BinIs Tryz.prog .neq 34 x y (.agg #[.int .i64 a,.int .i64 b]) (.agg #[.int .i64 c,.int .i64 d]) (.bool !(a==c&&b==d)):=
 ⟨rfl,rfl,rfl,fun w=>by go_simp;by_cases h1:a=c<;>by_cases h2:b=d<;>simp[h1,h2]⟩
theorem qqi (u:Int):((some (compare u 0)==some Ordering.eq):Bool)=decide (u=0):=by
 rcases Int.lt_trichotomy u 0 with g|g|g
 ·rw[Int.compare_eq_lt.2 g,decide_eq_false (by omega)];rfl
 ·subst g;rfl
 ·rw[Int.compare_eq_gt.2 g,decide_eq_false (by omega)];rfl
theorem eq_cx (t:TypeId) (x y:Operand) {a b:Nat} {u v:Int} (ha:FZ.W a u) (hb:FZ.W b v):BinIs Tryz.prog .eql 102 x y (.complex .f64 a b) (.complex .f64 0 0) (.bool (decide (u=0)&&decide (v=0))):=
 ⟨rfl,rfl,rfl,fun w=>by
  go_simp
  rw[ha.order qqe,hb.order qqe,qqi,qqi]⟩
theorem cTOf (x y:Int) (h:Hp):qad Tryz.prog 51 [.agg #[.int .i64 x,.int .i64 y]] h (.complex .f64 (ofR x y) (ofI x y)) [] []:=qai (by rfl) (by rfl) (Tryz.call51 _) (fun w=>q48 x y w)
theorem cTo (a b:Nat) (h:Hp):qad Tryz.prog 77 [.complex .f64 a b] h (.tuple #[.agg #[.int .i64 (toX a b),.int .i64 (toY a b)],.bool (toB a b)]) [] []:=qai (by rfl) (by rfl) (Tryz.call77 _) (fun w=>q5c a b w)
theorem cNorm (x y:Int) (h:Hp):qad Tryz.prog 78 [.agg #[.int .i64 x,.int .i64 y]] h (.int .i64 (normN x y)) [] []:=qai (by rfl) (by rfl) (Tryz.call78 _) (fun w=>qyg x y w)
theorem q5d {a b:Bool} (h:a=true↔b=true):Value.bool a=.bool b:=by
 congr 1
 cases b with
 | true=>exact h.2 rfl
 | false=>rw[←Bool.not_eq_true];exact fun e=>Bool.noConfusion (h.1 e)
def qcw (x y most:Int):Bool:=decide (stp x y=true∧x*x+y*y≤most*most)
theorem qbs {x y:Int} (h:stp x y=true):cx x y=x∧cy x y=y:=by unfold cx cy;rw[if_pos h,if_pos h];exact⟨rfl,rfl⟩
theorem qyh (a b:Nat) (x y most:Int) (ha:FZ.W a x) (hb:FZ.W b y) (hx : -9007199254740992<x∧x<9007199254740992) (hy : -9007199254740992<y∧y<9007199254740992) (hm:0≤most∧most≤1000) (w:World):Calls Tryz.prog 52 #[.complex .f64 a b,.int .i64 most] w fun e w'=>e=.returned (.bool (qcw x y most))∧Below w.heap.size w w':=by
 obtain⟨e1,e2,e3⟩:=to_w ha hb hx hy
 refine qaf (G:=tys) w tysOK mixed Tryz.func52 (by rfl) (by first|rfl|(simp only[List.all_cons,List.all_nil,qaa,qab,qac];rfl)) (by first|exact qag _|exact qak _ _ _|rfl|(simp only[qap,List.all_cons,List.all_nil,qaa,qab,qac];rfl)) ?_
 repeat' (refine N.go ?_;first|with_reducible (first|refine N.eq ?_|refine N.obl rfl ?_|refine N.forkT ?_|refine N.forkF ?_|refine N.call (cTo _ _ _) ?_|refine N.call (cNorm _ _ _) ?_)|with_reducible refine N.fork (fun hb=>?_) (fun hb=>?_)|fail)
 ·refine q5d ?_
  have h1:stp x y=true:=e1.symm.trans hb
  have h2:stp (cx x y) (cy x y)=true:=by rw[(qbs h1).1,(qbs h1).2];exact h1
  have h3:0≤most*most:=Int.mul_nonneg hm.1 hm.1
  have h4:most*most≤1000*1000:=Int.mul_le_mul hm.2 hm.2 hm.1 (by omega)
  rw[e2,e3,i64s _ (by omega) (by omega)]
  unfold normN qcw
  rw[(qbs h2).1,(qbs h2).2,(qbs h1).1,(qbs h1).2,h1,decide_eq_true_eq,decide_eq_true_eq]
  exact⟨fun g=>⟨rfl,g⟩,fun g=>g.2⟩
 ·unfold qcw
  rw[←e1,hb];rfl
theorem qgl (a b:Nat) (x y most:Int) (h:Hp) (ha:FZ.W a x) (hb:FZ.W b y) (hx : -9007199254740992<x∧x<9007199254740992) (hy : -9007199254740992<y∧y<9007199254740992) (hm:0≤most∧most≤1000):qad Tryz.prog 52 [.complex .f64 a b,.int .i64 most] h (.bool (qcw x y most)) [] []:=
 qai rfl rfl (Tryz.call52 _) (qyh a b x y most ha hb hx hy hm)
def wiB (x y m:Int):Prop:=-m≤x∧x≤m∧-m≤y∧y≤m
instance (x y m:Int):Decidable (wiB x y m):=by unfold wiB;infer_instance
theorem qvc (x y m:Int) (hm:0≤m∧m≤1000000000) (w:World):Calls Tryz.prog 71 #[.agg #[.int .i64 x,.int .i64 y],.int .i64 m] w fun e w'=>e=.returned (.bool (decide (wiB x y m)))∧Below w.heap.size w w':=by
 have hneg:IntKind.i64.wrap (0-m) = -m:=by rw[i64s _ (by omega) (by omega)];omega
 refine qaf (G:=tys) w tysOK mixed Tryz.func71 (by rfl) (by first|rfl|(simp only[List.all_cons,List.all_nil,qaa,qab,qac];rfl)) (by first|exact qag _|exact qak _ _ _|rfl|(simp only[qap,List.all_cons,List.all_nil,qaa,qab,qac];rfl)) ?_
 repeat' (refine N.go ?_;first|with_reducible (first|refine N.eq ?_|refine N.obl rfl ?_|refine N.forkT ?_|refine N.forkF ?_)|with_reducible refine N.fork (fun hb=>?_) (fun hb=>?_)|fail)
 all_goals
  refine boolD ?_
  try rw[hneg] at *
  unfold wiB
  simp only[decide_eq_true_eq,decide_eq_false_iff_not,Bool.false_eq_true,false_iff,true_iff,iff_true,iff_false,reduceCtorEq,not_true_eq_false,not_false_eq_true,ge_iff_le,gt_iff_lt] at *
  omega
theorem qyi (x y m:Int) (h:Hp) (hm:0≤m∧m≤1000000000):qad Tryz.prog 71 [.agg #[.int .i64 x,.int .i64 y],.int .i64 m] h (.bool (decide (wiB x y m))) [] []:=
 qai rfl rfl (Tryz.call71 _) (qvc x y m hm)
theorem qok (x y:Int)  (w:World):Calls Tryz.prog 40 #[.agg #[.int .i64 x,.int .i64 y]] w fun e w'=>e=.returned (.bool (decide (wiB x y 4194304)))∧Below w.heap.size w w':=by
 refine qaf (G:=tys) w tysOK mixed Tryz.func40 (by rfl) (by first|rfl|(simp only[List.all_cons,List.all_nil,qaa,qab,qac];rfl)) (by first|exact qag _|exact qak _ _ _|rfl|(simp only[qap,List.all_cons,List.all_nil,qaa,qab,qac];rfl)) ?_
 repeat' (refine N.go ?_;first|with_reducible (first|refine N.eq ?_|refine N.obl rfl ?_|refine N.call (qyi _ _ _ _ (by omega)) ?_)|fail)
 all_goals rfl
theorem qj0 (x y:Int) (h:Hp):qad Tryz.prog 40 [.agg #[.int .i64 x,.int .i64 y]] h (.bool (decide (wiB x y 4194304))) [] []:=
 qai rfl rfl (Tryz.call40 _) (qok x y)
theorem qqj (x y:Operand) {a b c d r s:Nat} (hr:floatBits .sub .f64 a c=some r) (hs:floatBits .sub .f64 b d=some s):BinIs Tryz.prog .sub 102 x y (.complex .f64 a b) (.complex .f64 c d) (.complex .f64 r s):=
 ⟨rfl,rfl,rfl,fun w=>by
  go_simp
  exact run_complex_sum _ _ (.inr rfl) _ _ _ _ _ _ _ _ (by unfold cSumBits;rw[hr,hs];rfl)⟩
theorem qex {x y:Int} (h:stp x y=true) (hn:(!(x==0&&y==0))=true):(decide (cx x y=0)&&decide (cy x y=0))=false:=by
 rw[(qbs h).1,(qbs h).2]
 cases e:(decide (x=0)&&decide (y=0)) with
 | false=>rfl
 | true=>
  rw[Bool.and_eq_true,decide_eq_true_eq,decide_eq_true_eq] at e
  obtain⟨rfl,rfl⟩:=e
  exact absurd hn (by decide)
theorem qle {x y:Int} (h:stp x y=false):(decide (cx x y=0)&&decide (cy x y=0))=true∧(!(x==0&&y==0))=true:=by
 have e1:cx x y=0:=by unfold cx;rw[h];rfl
 have e2:cy x y=0:=by unfold cy;rw[h];rfl
 refine⟨by rw[e1,e2];rfl,?_⟩
 cases e:(x==0&&y==0) with
 | false=>rfl
 | true=>
  rw[Bool.and_eq_true,beq_iff_eq,beq_iff_eq] at e
  obtain⟨rfl,rfl⟩:=e
  exact absurd h (by decide)
theorem qfd {o:Bool} {n p:Nat} {M:Nat→Bool} (h:p<n):Reads (mvP o n M) p false 1 (.bool (M p)):=
 ⟨h,rfl,qbp h⟩
theorem qqk {o:Bool} {n p:Nat} {P:Nat→Int} (h:p<n):Reads (ptP o n P) (p*2+0) false 1 (.int .i64 (P (p*2))):=
 ⟨by show p*2+0<n*2;omega,rfl,qbp (by omega)⟩
theorem qql {o:Bool} {n p:Nat} {P:Nat→Int} (h:p<n):Reads (ptP o n P) (p*2+1) false 1 (.int .i64 (P (p*2+1))):=
 ⟨by show p*2+1<n*2;omega,rfl,qbp (by omega)⟩
theorem q5e (c:Nat→Int) (n cap i j k:Nat) (P:Nat→Int) (M:Nat→Bool) (tm st:Int) (o1 o2 o3:Bool) (p:Nat) (px py qx qy:Int) (h:Hp) (hi:h[i]?=some (some (wcc o1 c n cap j k tm st))) (hj:h[j]?=some (some (ptP o2 n P))) (hk:h[k]?=some (some (mvP o3 n M))) (hp:p<n) (hc2:0≤c 2∧c 2≤1000) (hc3:0≤c 3∧c 3≤1000) (hsp:stp px py=false) :
  qad Tryz.prog 25 [.pointer (some ⟨i,0,some 0⟩),.int .i64 (p:Int),.agg #[.int .i64 px,.int .i64 py],.agg #[.int .i64 qx,.int .i64 qy]] h (.int .i64 1) [] [i,j,k]:=by
 have bx:=cx_b px py
 have bY:=cy_b px py
 have dx:=cx_b qx qy
 have dy:=cy_b qx qy
 obtain⟨r,hr,wr⟩:=FZ.W.sub (w_ofR qx qy) (w_ofR px py) (by omega)
 obtain⟨s,hs,ws⟩:=FZ.W.sub (w_ofI qx qy) (w_ofI px py) (by omega)
 refine qar (G:=tys) [⟨i,_,wcc false c n cap 1 2 tm st,⟨false,0,[]⟩⟩,⟨j,_,ptP false n P,⟨false,0,[]⟩⟩,⟨k,_,mvP false n M,⟨false,0,[]⟩⟩] [] [.pointer (some ⟨0,0,some 0⟩),.int .i64 (p:Int),.agg #[.int .i64 px,.int .i64 py],.agg #[.int .i64 qx,.int .i64 qy]] tysOK mixed Tryz.func25 (by rfl) (Tryz.call25) ⟨hi,hj,hk,trivial⟩ ⟨⟨fun h=>(by cases h),nlr _,qch rfl rfl⟩,⟨fun h=>(by cases h),nlr _,qa8⟩,⟨fun h=>(by cases h),nlr _,qay⟩,trivial⟩ (by simp[Apart]) trivial ⟨.ptr rfl,.plain rfl,.plain rfl,.plain rfl,trivial⟩ ?_
 repeat' (refine N.go ?_;first|with_reducible (first|refine N.obl (by decide) ?_|refine N.obl rfl ?_|refine N.forkT ?_|refine N.bin _ (qej _ _ _ _ _ _) ?_|refine N.bin _ (eq_cx 0 _ _ (w_ofR _ _) (w_ofI _ _)) ?_|refine N.call (cTOf _ _ _) ?_)|refine N.call (cHas c n cap _ _ _ P M tm st _ _ _ _ _ (by rfl) (by rfl) (by rfl)) ?_|refine N.forkNo (by simp only[decide_eq_true_eq,decide_eq_false_iff_not,Bool.not_eq_eq_eq_not,Bool.not_true,Bool.not_false];omega) ?_|refine N.forkYes ((qle hsp).1) ?_|refine N.forkYes ((qle hsp).2) ?_|refine N.obl trivial ?_|exact N.true|refine N.obl (.plain rfl) ?_|fail)
theorem q5f (c:Nat→Int) (n cap i j k:Nat) (P:Nat→Int) (M:Nat→Bool) (tm st:Int) (o1 o2 o3:Bool) (p:Nat) (px py qx qy:Int) (h:Hp) (hi:h[i]?=some (some (wcc o1 c n cap j k tm st))) (hj:h[j]?=some (some (ptP o2 n P))) (hk:h[k]?=some (some (mvP o3 n M))) (hp:p<n) (hc2:0≤c 2∧c 2≤1000) (hc3:0≤c 3∧c 3≤1000) (hsp:stp px py=true) (hsq:stp qx qy=false) :
  qad Tryz.prog 25 [.pointer (some ⟨i,0,some 0⟩),.int .i64 (p:Int),.agg #[.int .i64 px,.int .i64 py],.agg #[.int .i64 qx,.int .i64 qy]] h (.int .i64 1) [] [i,j,k]:=by
 have bx:=cx_b px py
 have bY:=cy_b px py
 have dx:=cx_b qx qy
 have dy:=cy_b qx qy
 obtain⟨r,hr,wr⟩:=FZ.W.sub (w_ofR qx qy) (w_ofR px py) (by omega)
 obtain⟨s,hs,ws⟩:=FZ.W.sub (w_ofI qx qy) (w_ofI px py) (by omega)
 refine qar (G:=tys) [⟨i,_,wcc false c n cap 1 2 tm st,⟨false,0,[]⟩⟩,⟨j,_,ptP false n P,⟨false,0,[]⟩⟩,⟨k,_,mvP false n M,⟨false,0,[]⟩⟩] [] [.pointer (some ⟨0,0,some 0⟩),.int .i64 (p:Int),.agg #[.int .i64 px,.int .i64 py],.agg #[.int .i64 qx,.int .i64 qy]] tysOK mixed Tryz.func25 (by rfl) (Tryz.call25) ⟨hi,hj,hk,trivial⟩ ⟨⟨fun h=>(by cases h),nlr _,qch rfl rfl⟩,⟨fun h=>(by cases h),nlr _,qa8⟩,⟨fun h=>(by cases h),nlr _,qay⟩,trivial⟩ (by simp[Apart]) trivial ⟨.ptr rfl,.plain rfl,.plain rfl,.plain rfl,trivial⟩ ?_
 repeat' (refine N.go ?_;first|with_reducible (first|refine N.obl (by decide) ?_|refine N.obl rfl ?_|refine N.forkT ?_|refine N.forkF ?_|refine N.bin _ (qej _ _ _ _ _ _) ?_|refine N.bin _ (eq_cx 0 _ _ (w_ofR _ _) (w_ofI _ _)) ?_|refine N.call (cTOf _ _ _) ?_)|refine N.call (cHas c n cap _ _ _ P M tm st _ _ _ _ _ (by rfl) (by rfl) (by rfl)) ?_|refine N.forkNo (by simp only[decide_eq_true_eq,decide_eq_false_iff_not,Bool.not_eq_eq_eq_not,Bool.not_true,Bool.not_false];omega) ?_|refine N.forkNo (qex hsp (by assumption)) ?_|refine N.forkYes ((qle hsq).1) ?_|refine N.forkYes ((qle hsq).2) ?_|with_reducible refine N.fork (fun hb=>?_) (fun hb=>?_)|refine N.obl trivial ?_|exact N.true|refine N.obl (.plain rfl) ?_|fail)
theorem q5g (c:Nat→Int) (n cap i j k:Nat) (P:Nat→Int) (M:Nat→Bool) (tm st:Int) (o1 o2 o3:Bool) (p:Nat) (px py qx qy:Int) (h:Hp) (hi:h[i]?=some (some (wcc o1 c n cap j k tm st))) (hj:h[j]?=some (some (ptP o2 n P))) (hk:h[k]?=some (some (mvP o3 n M))) (hp:p<n) (hc2:0≤c 2∧c 2≤1000) (hc3:0≤c 3∧c 3≤1000) (hsp:stp px py=true) (hsq:stp qx qy=true) (hsh:qcw (cx px py) (cy px py) (c 2)=false) :
  qad Tryz.prog 25 [.pointer (some ⟨i,0,some 0⟩),.int .i64 (p:Int),.agg #[.int .i64 px,.int .i64 py],.agg #[.int .i64 qx,.int .i64 qy]] h (.int .i64 1) [] [i,j,k]:=by
 have bx:=cx_b px py
 have bY:=cy_b px py
 have dx:=cx_b qx qy
 have dy:=cy_b qx qy
 obtain⟨r,hr,wr⟩:=FZ.W.sub (w_ofR qx qy) (w_ofR px py) (by omega)
 obtain⟨s,hs,ws⟩:=FZ.W.sub (w_ofI qx qy) (w_ofI px py) (by omega)
 refine qar (G:=tys) [⟨i,_,wcc false c n cap 1 2 tm st,⟨false,0,[]⟩⟩,⟨j,_,ptP false n P,⟨false,0,[]⟩⟩,⟨k,_,mvP false n M,⟨false,0,[]⟩⟩] [] [.pointer (some ⟨0,0,some 0⟩),.int .i64 (p:Int),.agg #[.int .i64 px,.int .i64 py],.agg #[.int .i64 qx,.int .i64 qy]] tysOK mixed Tryz.func25 (by rfl) (Tryz.call25) ⟨hi,hj,hk,trivial⟩ ⟨⟨fun h=>(by cases h),nlr _,qch rfl rfl⟩,⟨fun h=>(by cases h),nlr _,qa8⟩,⟨fun h=>(by cases h),nlr _,qay⟩,trivial⟩ (by simp[Apart]) trivial ⟨.ptr rfl,.plain rfl,.plain rfl,.plain rfl,trivial⟩ ?_
 repeat' (refine N.go ?_;first|with_reducible (first|refine N.obl (by decide) ?_|refine N.obl rfl ?_|refine N.alt ?_|refine N.forkT ?_|refine N.forkF ?_|refine N.bin _ (qej _ _ _ _ _ _) ?_|refine N.bin _ (eq_cx 0 _ _ (w_ofR _ _) (w_ofI _ _)) ?_|refine N.call (cTOf _ _ _) ?_)|refine N.call (qgl _ _ _ _ _ _ (w_ofR _ _) (w_ofI _ _) (by omega) (by omega) hc2) ?_|refine N.call (cHas c n cap _ _ _ P M tm st _ _ _ _ _ (by rfl) (by rfl) (by rfl)) ?_|refine N.forkNo (by simp only[decide_eq_true_eq,decide_eq_false_iff_not,Bool.not_eq_eq_eq_not,Bool.not_true,Bool.not_false];omega) ?_|refine N.forkYes (by simp only[decide_eq_true_eq,decide_eq_false_iff_not,Bool.not_eq_eq_eq_not,Bool.not_true,Bool.not_false];omega) ?_|refine N.forkNo (qex hsp (by assumption)) ?_|refine N.forkNo (qex hsq (by assumption)) ?_|with_reducible refine N.fork (fun hb=>?_) (fun hb=>?_)|refine N.obl trivial ?_|exact N.true|refine N.obl (.plain rfl) ?_|fail)
theorem q5h (c:Nat→Int) (n cap i j k:Nat) (P:Nat→Int) (M:Nat→Bool) (tm st:Int) (o1 o2 o3:Bool) (p:Nat) (px py qx qy:Int) (h:Hp) (hi:h[i]?=some (some (wcc o1 c n cap j k tm st))) (hj:h[j]?=some (some (ptP o2 n P))) (hk:h[k]?=some (some (mvP o3 n M))) (hp:p<n) (hc2:0≤c 2∧c 2≤1000) (hc3:0≤c 3∧c 3≤1000) (hsp:stp px py=true) (hsq:stp qx qy=true) (hsh:qcw (cx px py) (cy px py) (c 2)=true) (hsg:qcw (cx qx qy-cx px py) (cy qx qy-cy px py) (c 3)=false) :
  qad Tryz.prog 25 [.pointer (some ⟨i,0,some 0⟩),.int .i64 (p:Int),.agg #[.int .i64 px,.int .i64 py],.agg #[.int .i64 qx,.int .i64 qy]] h (.int .i64 1) [] [i,j,k]:=by
 have bx:=cx_b px py
 have bY:=cy_b px py
 have dx:=cx_b qx qy
 have dy:=cy_b qx qy
 obtain⟨r,hr,wr⟩:=FZ.W.sub (w_ofR qx qy) (w_ofR px py) (by omega)
 obtain⟨s,hs,ws⟩:=FZ.W.sub (w_ofI qx qy) (w_ofI px py) (by omega)
 refine qar (G:=tys) [⟨i,_,wcc false c n cap 1 2 tm st,⟨false,0,[]⟩⟩,⟨j,_,ptP false n P,⟨false,0,[]⟩⟩,⟨k,_,mvP false n M,⟨false,0,[]⟩⟩] [] [.pointer (some ⟨0,0,some 0⟩),.int .i64 (p:Int),.agg #[.int .i64 px,.int .i64 py],.agg #[.int .i64 qx,.int .i64 qy]] tysOK mixed Tryz.func25 (by rfl) (Tryz.call25) ⟨hi,hj,hk,trivial⟩ ⟨⟨fun h=>(by cases h),nlr _,qch rfl rfl⟩,⟨fun h=>(by cases h),nlr _,qa8⟩,⟨fun h=>(by cases h),nlr _,qay⟩,trivial⟩ (by simp[Apart]) trivial ⟨.ptr rfl,.plain rfl,.plain rfl,.plain rfl,trivial⟩ ?_
 repeat' (refine N.go ?_;first|with_reducible (first|refine N.obl (by decide) ?_|refine N.obl rfl ?_|refine N.alt ?_|refine N.forkT ?_|refine N.forkF ?_|refine N.bin _ (qej _ _ _ _ _ _) ?_|refine N.bin _ (eq_cx 0 _ _ (w_ofR _ _) (w_ofI _ _)) ?_)|refine N.bin _ (qqj _ _ hr hs) ?_|with_reducible refine N.call (cTOf _ _ _) ?_|refine N.call (qgl _ _ _ _ _ _ (w_ofR _ _) (w_ofI _ _) (by omega) (by omega) hc2) ?_|refine N.call (qgl _ _ _ _ _ _ wr ws (by omega) (by omega) hc3) ?_|refine N.call (cHas c n cap _ _ _ P M tm st _ _ _ _ _ (by rfl) (by rfl) (by rfl)) ?_|refine N.forkNo (by simp only[decide_eq_true_eq,decide_eq_false_iff_not,Bool.not_eq_eq_eq_not,Bool.not_true,Bool.not_false];omega) ?_|refine N.forkYes (by simp only[decide_eq_true_eq,decide_eq_false_iff_not,Bool.not_eq_eq_eq_not,Bool.not_true,Bool.not_false];omega) ?_|refine N.forkNo (qex hsp (by assumption)) ?_|refine N.forkNo (qex hsq (by assumption)) ?_|with_reducible refine N.fork (fun hb=>?_) (fun hb=>?_)|refine N.obl trivial ?_|exact N.true|refine N.obl (.plain rfl) ?_|fail)
theorem q5i (c:Nat→Int) (n cap i j k:Nat) (P:Nat→Int) (M:Nat→Bool) (tm st:Int) (o1 o2 o3:Bool) (p:Nat) (px py qx qy:Int) (h:Hp) (hi:h[i]?=some (some (wcc o1 c n cap j k tm st))) (hj:h[j]?=some (some (ptP o2 n P))) (hk:h[k]?=some (some (mvP o3 n M))) (hp:p<n) (hc2:0≤c 2∧c 2≤1000) (hc3:0≤c 3∧c 3≤1000) (hsp:stp px py=true) (hsq:stp qx qy=true) (hsh:qcw (cx px py) (cy px py) (c 2)=true) (hsg:qcw (cx qx qy-cx px py) (cy qx qy-cy px py) (c 3)=true) (hM:M p=true) :
  qad Tryz.prog 25 [.pointer (some ⟨i,0,some 0⟩),.int .i64 (p:Int),.agg #[.int .i64 px,.int .i64 py],.agg #[.int .i64 qx,.int .i64 qy]] h (.int .i64 10) [] [i,j,k]:=by
 have bx:=cx_b px py
 have bY:=cy_b px py
 have dx:=cx_b qx qy
 have dy:=cy_b qx qy
 obtain⟨r,hr,wr⟩:=FZ.W.sub (w_ofR qx qy) (w_ofR px py) (by omega)
 obtain⟨s,hs,ws⟩:=FZ.W.sub (w_ofI qx qy) (w_ofI px py) (by omega)
 refine qar (G:=tys) [⟨i,_,wcc false c n cap 1 2 tm st,⟨false,0,[]⟩⟩,⟨j,_,ptP false n P,⟨false,0,[]⟩⟩,⟨k,_,mvP false n M,⟨false,0,[]⟩⟩] [] [.pointer (some ⟨0,0,some 0⟩),.int .i64 (p:Int),.agg #[.int .i64 px,.int .i64 py],.agg #[.int .i64 qx,.int .i64 qy]] tysOK mixed Tryz.func25 (by rfl) (Tryz.call25) ⟨hi,hj,hk,trivial⟩ ⟨⟨fun h=>(by cases h),nlr _,qch rfl rfl⟩,⟨fun h=>(by cases h),nlr _,qa8⟩,⟨fun h=>(by cases h),nlr _,qay⟩,trivial⟩ (by simp[Apart]) trivial ⟨.ptr rfl,.plain rfl,.plain rfl,.plain rfl,trivial⟩ ?_
 repeat' (refine N.go ?_;first|with_reducible (first|refine N.obl (by decide) ?_|refine N.obl rfl ?_|refine N.alt ?_|refine N.forkT ?_|refine N.forkF ?_|refine N.bin _ (qej _ _ _ _ _ _) ?_|refine N.bin _ (eq_cx 0 _ _ (w_ofR _ _) (w_ofI _ _)) ?_)|refine N.bin _ (qqj _ _ hr hs) ?_|with_reducible refine N.call (cTOf _ _ _) ?_|refine N.call (qgl _ _ _ _ _ _ (w_ofR _ _) (w_ofI _ _) (by omega) (by omega) hc2) ?_|refine N.call (qgl _ _ _ _ _ _ wr ws (by omega) (by omega) hc3) ?_|refine N.call (cHas c n cap _ _ _ P M tm st _ _ _ _ _ (by rfl) (by rfl) (by rfl)) ?_|refine N.forkNo (by simp only[decide_eq_true_eq,decide_eq_false_iff_not,Bool.not_eq_eq_eq_not,Bool.not_true,Bool.not_false];omega) ?_|refine N.idx p 1 rfl hp ?_|refine N.forkNo (qex hsp (by assumption)) ?_|refine N.forkNo (qex hsq (by assumption)) ?_|refine N.forkYes (hM) ?_|refine N.load _ (qfd hp) ?_|with_reducible refine N.fork (fun hb=>?_) (fun hb=>?_)|refine N.obl trivial ?_|exact N.true|refine N.obl (.plain rfl) ?_|fail)
theorem q5j (c:Nat→Int) (n cap i j k:Nat) (P:Nat→Int) (M:Nat→Bool) (tm st:Int) (o1 o2 o3:Bool) (p:Nat) (px py qx qy:Int) (h:Hp) (hi:h[i]?=some (some (wcc o1 c n cap j k tm st))) (hj:h[j]?=some (some (ptP o2 n P))) (hk:h[k]?=some (some (mvP o3 n M))) (hp:p<n) (hc2:0≤c 2∧c 2≤1000) (hc3:0≤c 3∧c 3≤1000) (hsp:stp px py=true) (hsq:stp qx qy=true) (hsh:qcw (cx px py) (cy px py) (c 2)=true) (hsg:qcw (cx qx qy-cx px py) (cy qx qy-cy px py) (c 3)=true) (hM:M p=false) (hto:¬ wiB (P (p*2)+px) (P (p*2+1)+py) 4194304) (hPb:wiB (P (p*2)) (P (p*2+1)) 4194304) :
  qad Tryz.prog 25 [.pointer (some ⟨i,0,some 0⟩),.int .i64 (p:Int),.agg #[.int .i64 px,.int .i64 py],.agg #[.int .i64 qx,.int .i64 qy]] h (.int .i64 2) [] [i,j,k]:=by
 have bx:=cx_b px py
 have bY:=cy_b px py
 have dx:=cx_b qx qy
 have dy:=cy_b qx qy
 obtain⟨r,hr,wr⟩:=FZ.W.sub (w_ofR qx qy) (w_ofR px py) (by omega)
 obtain⟨s,hs,ws⟩:=FZ.W.sub (w_ofI qx qy) (w_ofI px py) (by omega)
 have sp:=stp_iff.1 hsp
 have e1:IntKind.i64.wrap (P (p*2)+px)=P (p*2)+px:=i64s _ (by have:=hPb.1;omega) (by have:=hPb.2.1;omega)
 have e2:IntKind.i64.wrap (P (p*2+1)+py)=P (p*2+1)+py:=i64s _ (by have:=hPb.2.2.1;omega) (by have:=hPb.2.2.2;omega)
 refine qar (G:=tys) [⟨i,_,wcc false c n cap 1 2 tm st,⟨false,0,[]⟩⟩,⟨j,_,ptP false n P,⟨false,0,[]⟩⟩,⟨k,_,mvP false n M,⟨false,0,[]⟩⟩] [] [.pointer (some ⟨0,0,some 0⟩),.int .i64 (p:Int),.agg #[.int .i64 px,.int .i64 py],.agg #[.int .i64 qx,.int .i64 qy]] tysOK mixed Tryz.func25 (by rfl) (Tryz.call25) ⟨hi,hj,hk,trivial⟩ ⟨⟨fun h=>(by cases h),nlr _,qch rfl rfl⟩,⟨fun h=>(by cases h),nlr _,qa8⟩,⟨fun h=>(by cases h),nlr _,qay⟩,trivial⟩ (by simp[Apart]) trivial ⟨.ptr rfl,.plain rfl,.plain rfl,.plain rfl,trivial⟩ ?_
 repeat' (refine N.go ?_;first|with_reducible (first|refine N.obl (by decide) ?_|refine N.obl rfl ?_|refine N.obl ⟨by kernel_rfl,by kernel_rfl⟩ ?_|refine N.alt ?_|refine N.forkT ?_|refine N.forkF ?_|refine N.bin _ (qej _ _ _ _ _ _) ?_|refine N.bin _ (eq_cx 0 _ _ (w_ofR _ _) (w_ofI _ _)) ?_)|refine N.bin _ (qqj _ _ hr hs) ?_|with_reducible refine N.call (cTOf _ _ _) ?_|refine N.call (qgl _ _ _ _ _ _ (w_ofR _ _) (w_ofI _ _) (by omega) (by omega) hc2) ?_|refine N.call (qgl _ _ _ _ _ _ wr ws (by omega) (by omega) hc3) ?_|with_reducible refine N.call (qj0 _ _ _) ?_|refine N.call (cHas c n cap _ _ _ P M tm st _ _ _ _ _ (by rfl) (by rfl) (by rfl)) ?_|refine N.forkNo (by simp only[decide_eq_true_eq,decide_eq_false_iff_not,Bool.not_eq_eq_eq_not,Bool.not_true,Bool.not_false];omega) ?_|refine N.idx p 1 rfl hp ?_|refine N.forkNo (qex hsp (by assumption)) ?_|refine N.forkNo (qex hsq (by assumption)) ?_|refine N.forkNo (hM) ?_|refine N.load _ (qfd hp) ?_|refine N.load _ (qqk hp) ?_|refine N.load _ (qql hp) ?_|refine N.forkYes (by rw[e1,e2,decide_eq_false hto];rfl) ?_|with_reducible refine N.fork (fun hb=>?_) (fun hb=>?_)|refine N.obl trivial ?_|exact N.true|refine N.obl (.plain rfl) ?_|fail)
def movP (P:Nat→Int) (p:Nat) (x y:Int) (j:Nat):Int:=if j=p*2 then x else if j=p*2+1 then y else P j
def movM (M:Nat→Bool) (p:Nat) (j:Nat):Bool:=if j=p then true else M j
theorem qvd {n p:Nat} {P:Nat→Int} {x y:Int} (h:p<n):Writes (ptP true n P) (p*2) (1*2) (.agg ⟨[.int .i64 x,.int .i64 y]⟩) (ptP true n (movP P p x y)):=by
 refine⟨rfl,by show p*2+1*2≤n*2;omega,rfl,fun j hj=>?_⟩
 have hj:j<n*2:=hj
 rw[qbp hj,qbp hj]
 unfold movP
 by_cases h1:j=p*2
 ·subst h1;rw[if_pos rfl,if_pos (by omega),Nat.sub_self];rfl
 ·by_cases h2:j=p*2+1
  ·subst h2;rw[if_neg h1,if_pos rfl,if_pos (by omega),show p*2+1-p*2=1 from by omega];rfl
  ·rw[if_neg h1,if_neg h2,if_neg (by omega)]
theorem qve {n p:Nat} {M:Nat→Bool} (h:p<n):Writes (mvP true n M) p 1 (.bool true) (mvP true n (movM M p)):=by
 refine⟨rfl,by show p+1≤n;omega,rfl,fun j hj=>?_⟩
 have hj:j<n:=hj
 rw[qbp hj,qbp hj]
 unfold movM
 by_cases h1:j=p
 ·subst h1;rw[if_pos rfl,if_pos (by omega),Nat.sub_self];rfl
 ·rw[if_neg h1,if_neg (by omega)]
theorem q2r {ix:List (Nat×Nat)} {h:Hp} {k n p:Nat} {P:Nat→Int} {x y x' y':Int} (hh:h[k]?=some (some (ptP true n (movP P p x' y')))) (hx:x'=x) (hy:y'=y):PostC ix h k (ptP true n (movP P p x y)):=by
 subst hx hy;exact⟨_,hh,id,nlr _,qa8⟩
theorem q2s {ix:List (Nat×Nat)} {h:Hp} {k n:Nat} {M:Nat→Bool} (hh:h[k]?=some (some (mvP true n M))):PostC ix h k (mvP true n M):=⟨_,hh,id,nlr _,qay⟩
theorem q5k (c:Nat→Int) (n cap i j k:Nat) (P:Nat→Int) (M:Nat→Bool) (tm st:Int) (o1:Bool) (p:Nat) (px py qx qy:Int) (hij:i≠j) (hik:i≠k) (hjk:j≠k) (h:Hp) (hi:h[i]?=some (some (wcc o1 c n cap j k tm st))) (hj:h[j]?=some (some (ptP true n P))) (hk:h[k]?=some (some (mvP true n M)))
  (hp:p<n) (hc2:0≤c 2∧c 2≤1000) (hc3:0≤c 3∧c 3≤1000) (hsp:stp px py=true) (hsq:stp qx qy=true) (hsh:qcw (cx px py) (cy px py) (c 2)=true) (hsg:qcw (cx qx qy-cx px py) (cy qx qy-cy px py) (c 3)=true) (hM:M p=false) (hto:wiB (P (p*2)+px) (P (p*2+1)+py) 4194304) (hPb:wiB (P (p*2)) (P (p*2+1)) 4194304) :
  qad Tryz.prog 25 [.pointer (some ⟨i,0,some 0⟩),.int .i64 (p:Int),.agg #[.int .i64 px,.int .i64 py],.agg #[.int .i64 qx,.int .i64 qy]] h (.int .i64 0) [(j,ptP true n (movP P p (P (p*2)+px) (P (p*2+1)+py))),(k,mvP true n (movM M p))] [i]:=by
 have bx:=cx_b px py
 have bY:=cy_b px py
 have dx:=cx_b qx qy
 have dy:=cy_b qx qy
 obtain⟨r,hr,wr⟩:=FZ.W.sub (w_ofR qx qy) (w_ofR px py) (by omega)
 obtain⟨s,hs,ws⟩:=FZ.W.sub (w_ofI qx qy) (w_ofI px py) (by omega)
 have sp:=stp_iff.1 hsp
 have e1:IntKind.i64.wrap (P (p*2)+px)=P (p*2)+px:=i64s _ (by have:=hPb.1;omega) (by have:=hPb.2.1;omega)
 have e2:IntKind.i64.wrap (P (p*2+1)+py)=P (p*2+1)+py:=i64s _ (by have:=hPb.2.2.1;omega) (by have:=hPb.2.2.2;omega)
 refine qar (G:=tys) [⟨i,_,wcc false c n cap 1 2 tm st,⟨false,0,[]⟩⟩,⟨j,_,ptP true n P,ptP true n (movP P p (P (p*2)+px) (P (p*2+1)+py))⟩,⟨k,_,mvP true n M,mvP true n (movM M p)⟩] [] [.pointer (some ⟨0,0,some 0⟩),.int .i64 (p:Int),.agg #[.int .i64 px,.int .i64 py],.agg #[.int .i64 qx,.int .i64 qy]] tysOK mixed Tryz.func25 (by rfl) (Tryz.call25) ⟨hi,hj,hk,trivial⟩ ⟨⟨fun h=>(by cases h),nlr _,qch rfl rfl⟩,⟨fun h=>⟨rfl,nlr _⟩,nlr _,qa8⟩,⟨fun h=>⟨rfl,nlr _⟩,nlr _,qay⟩,trivial⟩ (by simp[Apart,hij,hik,hjk]) trivial ⟨.ptr rfl,.plain rfl,.plain rfl,.plain rfl,trivial⟩ ?_
 repeat' (refine N.go ?_;first|with_reducible (first|refine N.obl (by decide) ?_|refine N.obl rfl ?_|refine N.obl ⟨by kernel_rfl,by kernel_rfl⟩ ?_|refine N.alt ?_|refine N.forkT ?_|refine N.forkF ?_|refine N.bin _ (qej _ _ _ _ _ _) ?_|refine N.bin _ (eq_cx 0 _ _ (w_ofR _ _) (w_ofI _ _)) ?_)|refine N.bin _ (qqj _ _ hr hs) ?_|with_reducible refine N.call (cTOf _ _ _) ?_|refine N.call (qgl _ _ _ _ _ _ (w_ofR _ _) (w_ofI _ _) (by omega) (by omega) hc2) ?_|refine N.call (qgl _ _ _ _ _ _ wr ws (by omega) (by omega) hc3) ?_|with_reducible refine N.call (qj0 _ _ _) ?_|refine N.call (cHas c n cap _ _ _ P M tm st _ _ _ _ _ (by rfl) (by rfl) (by rfl)) ?_|refine N.forkNo (by simp only[decide_eq_true_eq,decide_eq_false_iff_not,Bool.not_eq_eq_eq_not,Bool.not_true,Bool.not_false];omega) ?_|refine N.idx p 1 rfl hp ?_|refine N.forkNo (qex hsp (by assumption)) ?_|refine N.forkNo (qex hsq (by assumption)) ?_|refine N.forkNo (hM) ?_|refine N.load _ (qfd hp) ?_|refine N.load _ (qqk hp) ?_|refine N.load _ (qql hp) ?_|refine N.forkNo (by rw[e1,e2,decide_eq_true hto];rfl) ?_|refine N.store _ (qvd hp) ?_|refine N.store _ (qve hp) ?_|with_reducible refine N.fork (fun hb=>?_) (fun hb=>?_)|refine N.obl (.plain rfl) ?_|refine N.obl ⟨q2r (by rfl) e1 e2,q2s (by rfl),trivial⟩ ?_|refine N.obl trivial ?_|exact N.true|fail)
open Go Go.RowKit Sx
theorem qa1 {ix:List (Nat×Nat)} {k:IntKind} {a b:Int} (h:a=b):Re1 ix (.int k a) (.int k b):=by subst h;exact .plain rfl
theorem cStep (c:Nat→Int) (n cap i j k:Nat) (P:Nat→Int) (M:Nat→Bool) (tm st:Int) (o2 o3:Bool) (h:Hp) (hi:h[i]?=some (some (wcc true c n cap j k tm st))) (hj:h[j]?=some (some (ptP o2 n P))) (hk:h[k]?=some (some (mvP o3 n M))) (hij:i≠j) (hik:i≠k) (ht:0≤tm∧tm≤1000000) (hst:0≤st∧st≤16777215) :
  qad Tryz.prog 55 [.pointer (some ⟨i,0,some 0⟩)] h (.int .i64 (tm*16777216+min (st+1) 16777215)) [(i,wcc true c n cap j k tm (min (st+1) 16777215))] [j,k]:=by
 have e1:IntKind.i64.wrap (st+1)=st+1:=i64s _ (by omega) (by omega)
 have e2:IntKind.i64.wrap (tm*16777216)=tm*16777216:=i64s _ (by omega) (by omega)
 have e3:IntKind.i64.wrap (tm*16777216+min (st+1) 16777215)=tm*16777216+min (st+1) 16777215:=i64s _ (by omega) (by omega)
 refine qar (G:=tys) [⟨i,_,wcc true c n cap 1 2 tm st,wcc true c n cap j k tm (min (st+1) 16777215)⟩,⟨j,_,ptP false n P,⟨false,0,[]⟩⟩,⟨k,_,mvP false n M,⟨false,0,[]⟩⟩] [] [.pointer (some ⟨0,0,some 0⟩)] tysOK mixed Tryz.func55 (by rfl) (Tryz.call55) ⟨hi,hj,hk,trivial⟩ ⟨⟨fun h=>⟨rfl,nlr _⟩,nlr _,qch rfl rfl⟩,⟨fun h=>(by cases h),nlr _,qa8⟩,⟨fun h=>(by cases h),nlr _,qay⟩,trivial⟩ (by simp[Apart,hij,hik]) trivial ⟨.ptr rfl,trivial⟩ ?_
 repeat' (refine N.go ?_;first|with_reducible (first|refine N.obl (by decide) ?_|refine N.forkF ?_|refine N.min2 ?_)|refine N.obl (qqc (qla (by rw[e1,e2,e3])) rfl) ?_|refine N.obl ⟨⟨_,rfl,id,nlr _,(by first|(refine lt15 ?_ ?_ ?_ ?_ ?_ ?_ ?_ ?_ ?_ ?_ ?_ ?_ ?_ ?_ ?_<;>first|exact Re1.plain rfl|exact Re1.slice rfl|exact qa1 (by rw[e1]))|fail)⟩,trivial⟩ ?_|refine N.obl trivial ?_|exact N.true|fail)
abbrev ndX (s:NSt):Ext:=packX (fun _:Nat→Nat×Nat=>True) (ndH s)
theorem qdt:∀ s,Selfish (ndX s):=fun s=>qah
theorem qbn {P:Program} {g:FuncId} {vs:List Value} {h:Hp} {v:Value} {ms:List (Nat×Chunk)} {rh:List Nat} (hc:qad P g vs h v ms rh):CallAll P g vs h fun v' ms'=>v'=v∧ms'=ms:=fun X ρ w xs H hx=>by
 rcases hc h (fun _ _=>rfl) (fun _ _=>rfl) X ρ w xs H hx with ⟨x,w',h1,ρ',h2,h3,h4⟩|⟨h1,h2⟩
 ·exact .inl ⟨x,w',h1,v,ms,ρ',⟨rfl,rfl⟩,h2,h3,h4⟩
 ·refine .inr ⟨h1,h2.mono ?_⟩
  rintro e w' ⟨x,he,ρ',h3,h4,h5⟩
  exact⟨x,he,v,ms,ρ',⟨rfl,rfl⟩,h3,h4,h5⟩
def prF (g:Nat→Nat×Nat) (k j:Nat):Value:=if j<k then realP (g j) else .pointer none
abbrev prC (cap:Nat) (f:Nat→Value):Chunk:=⟨true,cap,[(0,cap,.agg ⟨segL cap f⟩)]⟩
theorem q0z (g:Nat→Nat×Nat) {k j:Nat} (h:j<k):prF g k j=realP (g j):=if_pos h
theorem qm9 (g:Nat→Nat×Nat) (k j:Nat):qa3 (prF g k j)=true:=by
 unfold prF
 split<;>rfl
theorem qvf (g:Nat→Nat×Nat) (k:Nat) (q:Nat×Nat) (j:Nat):prF (upd g k q) (k+1) j=if j=k then realP q else prF g k j:=by
 unfold prF
 by_cases e:j=k
 ·subst e;rw[if_pos (Nat.lt_succ_self _),qb7,if_pos rfl]
 ·rw[if_neg e,qbz _ _ e]
  by_cases h:j<k
  ·rw[if_pos h,if_pos (by omega)]
  ·rw[if_neg h,if_neg (by omega)]
theorem wr_pr {cap k p:Nat} {g:Nat→Nat×Nat} {q:Nat×Nat} {v:Value} (hv:v=.agg ⟨[realP q]⟩) (h:k<cap) (hp:p=k):Writes (prC cap (prF g k)) p 1 v (prC cap (prF (upd g k q) (k+1))):=by
 subst hp hv
 refine⟨rfl,h,rfl,fun j hj=>?_⟩
 have hj:j<cap:=hj
 rw[qaq hj,qaq hj,qvf]
 by_cases e:j=p
 ·subst e
  rw[if_pos rfl,if_pos (by omega),Nat.sub_self]
  rfl
 ·rw[if_neg e,if_neg (by omega)]
theorem gr_pr {ix:List (Nat×Nat)} {ci:Chunk} {cap k:Nat} {g:Nat→Nat×Nat} {q:Nat×Nat} {z:Value} (hz:z=.pointer none) (hc:∀ j,j<k→ci.f j=prF g k j) (h:k+1≤cap):ChunkReLe ix (prC cap (prF (upd g k q) (k+1))) (grown ci k 1 1 (.agg ⟨[realP q]⟩) z cap):=by
 subst hz
 refine⟨fun _=>rfl,by show cap≤cap*1;omega,fun j hj=>?_⟩
 have hj:j<cap:=hj
 have e:(grown ci k 1 1 (.agg ⟨[realP q]⟩) (.pointer none) cap).f j=(prC cap (prF (upd g k q) (k+1))).f j:=by
  rw[qaq hj,qvf]
  by_cases h1:j<k
  ·rw[qeo (by omega),hc j h1,if_neg (by omega)]
  ·by_cases h2:j=k
   ·subst h2
    have:=qep (ci:=ci) (l:=j) (m:=1) (size:=1) (cap:=cap) (v:=.agg ⟨[realP q]⟩) (z:=.pointer none) (j:=0) (by omega)
    rw[show j*1+0=j from by omega] at this
    rw[this,if_pos rfl];rfl
   ·rw[qd4 (by omega) (by omega),if_neg h2]
    unfold prF repZ
    rw[if_neg h1,Nat.mod_one];rfl
 rw[e,qaq hj]
 exact .plain (qm9 _ _ _)
theorem pr_ren {ix:List (Nat×Nat)} {cap k:Nat} {g:Nat→Nat×Nat}:ChunkReLe ix (prC cap (prF g k)) (prC cap (prF g k)):=
 ⟨id,nlr _,fun j hj=>.plain (by rw[qaq hj];exact qm9 _ _ _)⟩
theorem rd_pr {cap k j p:Nat} {g:Nat→Nat×Nat} (h:j<k) (hc:k≤cap) (hp:p=j):Reads (prC cap (prF g k)) p false 1 (realP (g j)):=by
 subst hp
 exact qgy (by omega) rfl (q0z g h)
theorem qrp (k:Nat) (q:Nat×Nat):FreeV k (realP q):=fun r r' _=>by rw[qic,qic]
def nodeS (C:Nat→Int) (i:Nat):NSt:=if i<3 then nsNew C (i:Int) 0 true (pos0 (i*2)) (pos0 (i*2+1)) 100 0 100 else nsNew C (i:Int) 0 false 0 0 0 0 0
theorem qol {g:FuncId} {vs:List Value} {h:Hp} (i k n m n2:Nat) (gg:Nat→Nat×Nat) (s:Nat→NSt) (a:NSt) {o:Bool} {c:Nat} {ps:List (Nat×Nat×Value)} {Y0:Ext} (hY:Y0=manyX ndX n gg s) (hm:m<n2) (hn:∀ j,j<n2→j≠m→j<n) (hi:h[i]?=some (some (@Chunk.mk Y0 o c ps))) (hk:h[k]?=some none)
  (hc:qad Tryz.prog g vs h (.pointer (some ⟨k,0,some 0⟩)) [(k,ndP a)] []):CallAll Tryz.prog g vs h fun v ms=>∃ q:Nat×Nat,v=realP q∧ms=[(i,@Chunk.mk (manyX ndX n2 (upd gg m q) (upd s m a)) o c ps)]:=by
 subst hY
 refine qtv (Y:=fun q a=>manyX ndX n2 (upd gg m q) (upd s m a)) (Z:=ndX) i k hi hk qdt (fun p q S T a w h1 h2 h3 h4 h5=>qw9 ndX gg s hm hn p q S T a w h1 h2 h3 h4 h5) (qbn hc) fun v ms hR=>?_
 obtain⟨rfl,rfl⟩:=hR
 exact .inr ⟨a,[],realP,rfl,(fun m hm=>by cases hm),(fun r=>by simp[den,den2,den1,den0,denA,realP]),qrp k,fun q=>⟨q,rfl,rfl⟩⟩
open Go Go.RowKit Sx
theorem qa2 {ix:List (Nat×Nat)} {v u:Value} (h:v=u) (hp:qap v=true):Re ix v u:=by subst h;exact .plain hp
theorem qem [ZW] {ix:List (Nat×Nat)} {R R':List Rw}:∀ j,j<0→Re1 ix ((rvC R).f j) ((rvC R').f j):=nzj
theorem qg9 [ZW] {ix:List (Nat×Nat)} {R:List Rw}:ChunkReLe ix (rvC R) (rvC R):=⟨id,nlr _,qem⟩
theorem qaz {k:IntKind} {a b:Int} (h:a=b):Value.int k a=.int k b:=by rw[h]
theorem qi1 {o:Bool} {n m:Nat} {l:List Value} (hl:l.length=n) (hm:m=n):Reads ⟨o,n,[(0,n,.agg ⟨l⟩)]⟩ 0 true m (.agg ⟨l⟩):=by
 subst hl hm
 refine⟨Nat.le_of_eq (Nat.zero_add _),_,rfl,rfl,fun j hj=>?_⟩
 show qa5 _ _=_
 rw[qao,if_pos (by omega),Nat.zero_add,Nat.sub_zero];rfl
def q00 (n:Int) (i:Nat):Int:=n / 256^i%256
def beK (n:Int) (w:Nat):Nat→List Int
 | 0=>[]
 | k+1=>beK n w k++[q00 n (w-1-k)]
abbrev be (n:Int) (w:Nat):List Int:=beK n w w
theorem qom (n:Int) (w:Nat):∀ k,(beK n w k).length=k
 | 0=>rfl
 | k+1=>by rw[beK,List.length_append,qom n w k];rfl
structure BufOK (r:Rw) (bs:List Int):Prop where
 w:r.w=true
 e:r.e=5
 k:r.k=1
 n:r.n=bs.length
 xs:r.xs=bs.map (Value.int .u8)
theorem BufOK.grew {r r':Rw} {bs cs:List Int} (h:BufOK r bs) (hg:Grew (some r) (some r') 5 1 cs.length (cs.map (Value.int .u8))):BufOK r' (bs++cs):=by
 obtain⟨h1,h2,h3⟩:=hg.ty r' rfl
 exact⟨h3,h1,h2,by have:=hg.n;show rowN (some r')=_;rw[this,List.length_append];show r.n+_=_;rw[h.n],by have:=hg.xs;show rowXs (some r')=_;rw[this,List.map_append];show r.xs++_=_;rw[h.xs]⟩
theorem q2t:∃ ei z,Tryz.prog.info? 5=some ei∧ei.size=1∧ei.bytes≤1000∧ei.zero=some z∧z.cells.size=1:=by
 obtain⟨ei,d,h1,h2,h3⟩:=qal tysOK (t:=5) (K:=fun ei _=>ei.size=1∧ei.bytes≤1000∧∃ z,ei.zero=some z∧z.cells.size=1) ⟨rfl,by decide,_,rfl,rfl⟩
 obtain⟨h3,h4,z,h5,h6⟩:=h3
 exact⟨ei,z,h1,h3,h4,h5,h6⟩
theorem qyj (n:Int) (m:Nat) (hm:m≤7):IntKind.u8.wrap (n.fdiv (2^sh ((8*m:Nat):Int) IntKind.i64))=q00 n m:=by
 have h1:sh ((8*m:Nat):Int) IntKind.i64=8*m:=by
  unfold sh
  rw[Int.toNat_natCast]
  show min (8*m) 64=8*m
  omega
 have h2:(2:Int)^(8*m)=256^m:=by rw[Int.pow_mul];rfl
 rw[h1,h2,IntKind.wrap_u8,Int.fdiv_eq_ediv_of_nonneg _ (Int.pow_nonneg (by decide))]
 rfl
theorem qvg (M:List Int):∀ u∈M.map (Value.int .u8),u.oneCell'=true:=fun u hu=>by
 obtain⟨e,_,rfl⟩:=List.mem_map.1 hu
 rfl
theorem appB [ZW] {o:Oper} {st:St} {x y:Operand} {p:Value} {own:Bool} {n:Nat} {ps:List (Nat×Nat×Value)} {K:Value→List (Nat×Chunk)→Prop} (r:Rw) (R:List Rw) (bs cs:List Int) (i:Nat) (hs:List Nat) (hr:BufOK r bs)
  (ho:o.op=.call ⟨.builtin .append,#[x,y],#[39,39]⟩) (hx:EvTo x st p) (hp:∀ ρ,den ρ p=uR (some r.sl)) (hi:st.h[i]?=some (some (@Chunk.mk (rvX (r::R)) own n ps)))
  (hsrc:SrcN y st hs cs.length 1 (cs.map (Value.int .u8))) (hl:bs.length+cs.length≤100000) (hK:∀ r',BufOK r' (bs++cs)→K (uV (some r'.sl)) [(i,@Chunk.mk (rvX (r'::R)) own n ps)]):N (EffAll Tryz.prog o st K):=by
 obtain⟨ei,z,h1,h2,h3,h4,h5⟩:=q2t
 have hn:rowN (some r)=bs.length:=hr.n
 have hb:(rowN (some r)+cs.length)*ei.bytes≤100000*1000:=Nat.mul_le_mul (by rw[hn];exact hl) h3
 refine qtr (e:=5) (ei:=ei) (z:=z) (some r) R i cs.length (cs.map (Value.int .u8)) ho hx hp Tryz.underlying39 h1 h4 (by rw[h5,h2]) (by rw[h2];decide) hi (fun q hq=>by cases hq;rw[h2];exact⟨hr.e,hr.k,hr.w⟩) hs (by rw[h2];exact hsrc) (qvg cs) (by rw[hn];omega) (by omega) fun oe' hg=>?_
 rw[h2] at hg
 cases oe' with
 | none=>exact absurd (hg.nil.1 rfl).1 (by simp)
 | some r'=>exact hK r' (hr.grew hg)
theorem cPut [ZW] (r:Rw) (R:List Rw) (bs:List Int) (hr:BufOK r bs) (n:Int) (hn : -9223372036854775808≤n∧n≤9223372036854775807) (w:Nat) (hw:1≤w∧w≤8) (hl:bs.length≤1000) (i:Nat) (h:Hp) (hi:h[i]?=some (some (rvC (r::R)))) :
  CallAll Tryz.prog 109 [uV (some r.sl),.int .i64 n,.int .i64 (w:Nat)] h (fun v ms=>∃ r':Rw,BufOK r' (bs++be n w)∧v=uV (some r'.sl)∧ms=[(i,rvC (r'::R))]):=by
 have key:=qaj (G:=tys) (h:=h) (vs:=[uV (some r.sl),.int .i64 n,.int .i64 (w:Nat)]) (fun _:Unit=>True) (fun _=>_) (α:=Rw) (fun κ=>BufOK κ (bs++be n w)) (fun κ=>uV (some κ.sl)) [⟨i,rvC (r::R),rvC (r::R),rvC (r::R)⟩] (fun κ=>[rvC (κ::R)]) (fun κ=>[]) [uV (some r.sl),.int .i64 n,.int .i64 (w:Nat)] tysOK mixed Tryz.func109 (by rfl) (Tryz.call109) ⟨hi,trivial⟩ ⟨⟨fun h=>⟨rfl,nlr _⟩,nlr _,qem⟩,trivial⟩ (fun κ _=>⟨⟨fun h=>⟨rfl,nlr _⟩,nlr _,qem⟩,trivial⟩) (by simp[Apart]) ⟨.inr ⟨rfl,rfl⟩,trivial⟩ (fun κ _=>trivial) ⟨.quo,.plain rfl,.plain rfl,trivial⟩ Opens.same ?_
 ·intro X ρ w2 xs H hx
  rcases key X ρ w2 xs H hx with ⟨v,w',hr',u,ms,ρ',⟨κ,hκ,rfl,rfl⟩,ha⟩|⟨hr',hcl⟩
  ·exact .inl ⟨v,w',hr',_,_,ρ',⟨κ,hκ,rfl,rfl⟩,ha⟩
  ·refine .inr ⟨hr',hcl.mono ?_⟩
   rintro e w' ⟨y,he,u,ms,ρ',⟨κ,hκ,rfl,rfl⟩,ha⟩
   exact⟨y,he,_,_,ρ',⟨κ,hκ,rfl,rfl⟩,ha⟩
 rintro⟨⟩ -
 have e0:IntKind.i64.wrap ((w:Int)-1)=(w:Int)-1:=i64s _ (by omega) (by omega)
 have ek:(w:Int)-1-((0:Nat):Int)=IntKind.i64.wrap ((w:Int)-1):=by rw[e0];omega
 skip
 refine N.go ?_
 refine N.loopR (α:=Nat×Rw) (fun q=>q.1≤w∧BufOK q.2 (bs++beK n w q.1)) (fun q=>w-q.1) (fun q=>[(0,uV (some q.2.sl)),(7,.int .i64 ((w:Int)-1-(q.1:Int)))]) (fun q=>[(0,rvC (q.2::R))]) (0,r) [(0,0)] ⟨Nat.zero_le _,by show BufOK r (bs++[]);rw[List.append_nil];exact hr⟩ ?_ ?_
 ·repeat' (refine N.go ?_;first|exact N.true|refine N.obl (.plain (by rfl)) ?_|refine N.obl (qa2 (qaz ek) rfl) ?_|refine N.obl qg9 ?_|refine N.obl (.one .quo) ?_|fail)
 rintro⟨k,q⟩ ⟨hk,hq⟩
 have hk:k≤w:=hk
 have hq:BufOK q (bs++beK n w k):=hq
 have hql:(bs++beK n w k).length=bs.length+k:=by rw[List.length_append,qom]
 by_cases hkw:k<w
 ·have e8:IntKind.i64.wrap (8*((w:Int)-1-(k:Int)))=((8*(w-1-k):Nat):Int):=by rw[i64s _ (by omega) (by omega)];omega
  have ev:=qyj n (w-1-k) (by omega)
  rw[←e8] at ev
  have ek:(w:Int)-1-((k+1:Nat):Int)=IntKind.i64.wrap ((w:Int)-1-(k:Int)-1):=by rw[i64s _ (by omega) (by omega)];omega
  repeat' (refine N.go ?_;first|with_reducible refine N.alt ?_|refine N.forkYes (decide_eq_true (by omega)) ?_|refine N.obl (by rw[e8];omega) ?_|fail)
  refine N.go ?_
  refine appB q R (bs++beK n w k) [_] 0 [_] hq rfl rfl (fun ρ=>qfm _ ρ) (by rfl) (qms [_] (List.mem_singleton.2 rfl) rfl (by rfl) (qi1 (by rfl) (by rfl)) rfl) (by rw[hql];show _+1≤_;omega) fun q' hq'=>?_
  rw[ev,List.append_assoc] at hq'
  skip
  refine N.go ?_
  refine N.nextR (α:=Nat×Rw) (k+1,q') [(0,0)] ⟨⟨hkw,hq'⟩,by show w-(k+1)<w-k;omega⟩ ?_
  repeat' (refine N.go ?_;first|exact N.true|refine N.obl (.plain (by rfl)) ?_|refine N.obl (qa2 (qaz ek) rfl) ?_|refine N.obl qg9 ?_|refine N.obl (.one .quo) ?_|fail)
 ·obtain rfl:k=w:=by omega
  repeat' (refine N.go ?_;first|refine N.forkNo (decide_eq_false (by omega)) ?_|refine N.endSame ?_|refine N.some q ⟨hq,?_⟩|refine N.obl (.one .quo) ?_|refine N.obl ⟨⟨_,rfl,fun h=>h,nlr _,qem⟩,trivial⟩ ?_|refine N.obl trivial ?_|refine N.obl ⟨⟨.inr ⟨_,rfl,rfl⟩,trivial⟩,trivial⟩ ?_|exact N.true|fail)
abbrev oddB (n:Int):Bool:=IntKind.u32.wrap ((BitVec.ofInt IntKind.u32.bits n &&& BitVec.ofInt IntKind.u32.bits 1).toNat:Int)==1
abbrev xor32 (a b:Int):Int:=IntKind.u32.wrap ((BitVec.ofInt IntKind.u32.bits a ^^^ BitVec.ofInt IntKind.u32.bits b).toNat:Int)
abbrev shr32 (n k:Int):Int:=n.fdiv (2^sh k IntKind.u32)
def crcS (n:Int):Int:=if oddB n=true then xor32 (shr32 n 1) 3988292384 else shr32 n 1
def crcK (n:Int):Nat→Int
 | 0=>n
 | k+1=>crcS (crcK n k)
def entN (i:Nat):Int:=crcK (IntKind.u32.wrap (i:Int)) 8
structure TabOK (oe:Option Rw) (l:List Int):Prop where
 n:rowN oe=l.length
 xs:rowXs oe=l.map (Value.int .u32)
 ty:∀ r,oe=some r→r.e=187∧r.k=1∧r.w=true
theorem TabOK.nil:TabOK none []:=⟨rfl,rfl,(fun r h=>by cases h)⟩
theorem TabOK.grew {oe oe':Option Rw} {M M2:List Int} (h:TabOK oe M) (hg:Grew oe oe' 187 1 M2.length (M2.map (Value.int .u32))):TabOK oe' (M++M2):=
 ⟨by rw[hg.n,h.n,List.length_append],by rw[hg.xs,h.xs,List.map_append],hg.ty⟩
theorem qyk:∃ ei z,Tryz.prog.info? 187=some ei∧ei.size=1∧ei.bytes≤1000∧ei.zero=some z∧z.cells.size=1:=by
 obtain⟨ei,d,h1,h2,h3⟩:=qal tysOK (t:=187) (K:=fun ei _=>ei.size=1∧ei.bytes≤1000∧∃ z,ei.zero=some z∧z.cells.size=1) ⟨rfl,by decide,_,rfl,rfl⟩
 obtain⟨h3,h4,z,h5,h6⟩:=h3
 exact⟨ei,z,h1,h3,h4,h5,h6⟩
theorem qyl (M:List Int):∀ u∈M.map (Value.int .u32),u.oneCell'=true:=fun u hu=>by
 obtain⟨e,_,rfl⟩:=List.mem_map.1 hu
 rfl
theorem appT [ZW] {o:Oper} {st:St} {x y:Operand} {p:Value} {own:Bool} {n:Nat} {ps:List (Nat×Nat×Value)} {K:Value→List (Nat×Chunk)→Prop} (oe:Option Rw) (R:List Rw) (M M2:List Int) (i:Nat) (hs:List Nat) (hoe:TabOK oe M)
  (ho:o.op=.call ⟨.builtin .append,#[x,y],#[215,215]⟩) (hx:EvTo x st p) (hp:∀ ρ,den ρ p=uR (rowO oe)) (hi:st.h[i]?=some (some (@Chunk.mk (rvX (rowL oe R)) own n ps)))
  (hsrc:SrcN y st hs M2.length 1 (M2.map (Value.int .u32))) (hl:M.length+M2.length≤100000) (hK:∀ oe',TabOK oe' (M++M2)→K (uV (rowO oe')) [(i,@Chunk.mk (rvX (rowL oe' R)) own n ps)]):N (EffAll Tryz.prog o st K):=by
 obtain⟨ei,z,h1,h2,h3,h4,h5⟩:=qyk
 have hb:(rowN oe+M2.length)*ei.bytes≤100000*1000:=Nat.mul_le_mul (by rw[hoe.n];exact hl) h3
 exact qtr (e:=187) (ei:=ei) (z:=z) oe R i M2.length (M2.map (Value.int .u32)) ho hx hp Tryz.underlying215 h1 h4 (by rw[h5,h2]) (by rw[h2];decide) hi (fun r hr=>by rw[h2];exact hoe.ty r hr) hs (by rw[h2];exact hsrc) (qyl M2) (by rw[hoe.n];omega) (by omega) fun oe' hg=>hK oe' (hoe.grew (by rw[h2] at hg;exact hg))
def tabL (k:Nat):List Int:=(List.range k).map entN
theorem qlf (k:Nat):(tabL k).length=k:=by unfold tabL;rw[List.length_map,List.length_range]
theorem q5l [ZW] (R:List Rw) (i:Nat) (h:Hp) (hi:h[i]?=some (some (rvC R))) :
  CallAll Tryz.prog 138 [] h (fun v ms=>∃ r:Rw,TabOK (some r) (tabL 256)∧v=uV (some r.sl)∧ms=[(i,rvC (r::R))]):=by
 have key:=qaj (G:=tys) (h:=h) (vs:=[]) (fun _:Unit=>True) (fun _=>_) (α:=Rw) (fun κ=>TabOK (some κ) (tabL 256)) (fun κ=>uV (some κ.sl)) [⟨i,rvC R,rvC R,rvC R⟩] (fun κ=>[rvC (κ::R)]) (fun κ=>[]) [] tysOK mixed Tryz.func138 (by rfl) (Tryz.call138) ⟨hi,trivial⟩ ⟨⟨fun h=>⟨rfl,nlr _⟩,nlr _,qem⟩,trivial⟩ (fun κ _=>⟨⟨fun h=>⟨rfl,nlr _⟩,nlr _,qem⟩,trivial⟩) (by simp[Apart]) ⟨.inr ⟨rfl,rfl⟩,trivial⟩ (fun κ _=>trivial) trivial Opens.same ?_
 ·intro X ρ w2 xs H hx
  rcases key X ρ w2 xs H hx with ⟨v,w',hr',u,ms,ρ',⟨κ,hκ,rfl,rfl⟩,ha⟩|⟨hr',hcl⟩
  ·exact .inl ⟨v,w',hr',_,_,ρ',⟨κ,hκ,rfl,rfl⟩,ha⟩
  ·refine .inr ⟨hr',hcl.mono ?_⟩
   rintro e w' ⟨y,he,u,ms,ρ',⟨κ,hκ,rfl,rfl⟩,ha⟩
   exact⟨y,he,_,_,ρ',⟨κ,hκ,rfl,rfl⟩,ha⟩
 rintro⟨⟩ -
 skip
 refine N.go ?_
 refine N.loopR (α:=Nat×Option Rw) (fun q=>q.1≤256∧TabOK q.2 (tabL q.1)) (fun q=>256-q.1) (fun q=>[(1,uV (rowO q.2)),(5,.int .i64 (q.1:Int))]) (fun q=>[(0,rvC (rowL q.2 R))]) (0,none) [(0,0)] ⟨by decide,TabOK.nil⟩ ?_ ?_
 ·repeat' (refine N.go ?_;first|exact N.true|refine N.obl (.plain (by rfl)) ?_|refine N.obl qg9 ?_|refine N.obl (.one (.any (fun _ _=>rfl) fun _ _=>rfl)) ?_|fail)
 rintro⟨k,oe⟩ ⟨hk,hoe⟩
 have hk:k≤256:=hk
 have hoe:TabOK oe (tabL k):=hoe
 by_cases hkl:k<256
 ·repeat' (refine N.go ?_;first|refine N.forkYes (decide_eq_true (by omega)) ?_|fail)
  refine N.go ?_
  refine N.loop (α:=Nat) (fun m=>m≤8) (fun m=>8-m) (fun m=>[(3,.int .u32 (crcK (IntKind.u32.wrap (k:Int)) m)),(10,.int .i64 (m:Int))]) (fun m=>[]) 0 (by decide) ?_ ?_
  ·repeat' (refine N.go ?_;first|with_reducible refine N.obl rfl ?_|exact N.true|refine N.obl (ChunkLe.refl _) ?_|fail)
  intro m hm
  have hm:m≤8:=hm
  by_cases hm8:m<8
  ·generalize hx:crcK (IntKind.u32.wrap (k:Int)) m=x
   have em:IntKind.i64.wrap ((m:Int)+1)=((m+1:Nat):Int):=by rw[i64s _ (by omega) (by omega)];rfl
   by_cases ho:oddB x=true
   ·have es:xor32 (shr32 x 1) 3988292384=crcK (IntKind.u32.wrap (k:Int)) (m+1):=by rw[crcK,hx,crcS,if_pos ho]
    repeat' (refine N.go ?_;first|with_reducible refine N.obl (by decide) ?_|refine N.forkYes ho ?_|refine N.forkYes (decide_eq_true (by omega)) ?_|fail)
    refine N.go ?_
    refine N.next (α:=Nat) (m+1) ⟨hm8,by show 8-(m+1)<8-m;omega⟩ ?_
    repeat' (refine N.go ?_;first|with_reducible refine N.obl rfl ?_|exact N.true|refine N.obl (congrArg (Value.int .u32) es) ?_|refine N.obl (congrArg (Value.int .i64) em) ?_|refine N.obl (ChunkLe.refl _) ?_|fail)
   ·have es:shr32 x 1=crcK (IntKind.u32.wrap (k:Int)) (m+1):=by rw[crcK,hx,crcS,if_neg ho]
    repeat' (refine N.go ?_;first|with_reducible refine N.obl (by decide) ?_|refine N.forkNo (eq_false_of_ne_true ho) ?_|refine N.forkYes (decide_eq_true (by omega)) ?_|fail)
    refine N.go ?_
    refine N.next (α:=Nat) (m+1) ⟨hm8,by show 8-(m+1)<8-m;omega⟩ ?_
    repeat' (refine N.go ?_;first|with_reducible refine N.obl rfl ?_|exact N.true|refine N.obl (congrArg (Value.int .u32) es) ?_|refine N.obl (congrArg (Value.int .i64) em) ?_|refine N.obl (ChunkLe.refl _) ?_|fail)
  ·obtain rfl:m=8:=by omega
   have ek:((k+1:Nat):Int)=IntKind.i64.wrap ((k:Int)+1):=by rw[i64s _ (by omega) (by omega)];rfl
   repeat' (refine N.go ?_;first|with_reducible refine N.alt ?_|refine N.forkNo (decide_eq_false (by omega)) ?_|fail)
   refine N.go ?_
   refine appT oe R (tabL k) [_] 0 [_] hoe rfl rfl (fun ρ=>qfm _ ρ) (by rfl) (qms [_] (List.mem_singleton.2 rfl) rfl (by rfl) (qi1 (by rfl) (by rfl)) rfl) (by rw[qlf];show _+1≤_;omega) fun oe' hoe'=>?_
   have hoe2:TabOK oe' (tabL (k+1)):=by
    unfold tabL
    rw[List.range_succ,List.map_append]
    exact hoe'
   skip
   refine N.go ?_
   refine N.nextR (α:=Nat×Option Rw) (k+1,oe') [(0,0)] ⟨⟨hkl,hoe2⟩,by show 256-(k+1)<256-k;omega⟩ ?_
   repeat' (refine N.go ?_;first|exact N.true|refine N.obl (.plain (by rfl)) ?_|refine N.obl (qa2 (qaz ek) rfl) ?_|refine N.obl qg9 ?_|refine N.obl (.one .quo) ?_|fail)
 ·obtain rfl:k=256:=by omega
  cases oe with
  | none=>have:=hoe.n;rw[qlf] at this;exact absurd this (by decide)
  | some r=>
   repeat' (refine N.go ?_;first|refine N.forkNo (decide_eq_false (by omega)) ?_|refine N.endSame ?_|refine N.some r ⟨hoe,?_⟩|refine N.obl (.one .quo) ?_|refine N.obl ⟨⟨_,rfl,fun h=>h,nlr _,qem⟩,trivial⟩ ?_|refine N.obl trivial ?_|refine N.obl ⟨⟨.inr ⟨_,rfl,rfl⟩,trivial⟩,trivial⟩ ?_|exact N.true|fail)
abbrev xor8 (a b:Int):Int:=IntKind.u8.wrap ((BitVec.ofInt IntKind.u8.bits a ^^^ BitVec.ofInt IntKind.u8.bits b).toNat:Int)
theorem q2u (a b:Int):0≤xor8 a b∧xor8 a b<256:=by
 unfold xor8
 rw[IntKind.wrap_u8]
 omega
def qvh (s c:Int):Int:=xor32 (shr32 s 8) (entN (xor8 (IntKind.u8.wrap s) c).toNat)
def sumK (bs:List Int) (k:Nat):Int:=(bs.take k).foldl qvh 4294967295
def sumN (bs:List Int):Int:=xor32 4294967295 (sumK bs bs.length)
theorem N.notU {x:Int} {K:Value→Prop} (h:K (.int .u32 (xor32 4294967295 x))):N (UnN Tryz.prog .xor (.int .u32 x) K):=N.mk ⟨.int .u32 (xor32 4294967295 x),⟨rfl,rfl,fun w=>by go_simp;rfl⟩,h⟩
theorem qvi {bs:List Int} {k:Nat} {c:Int} (h:bs[k]?=some c):sumK bs (k+1)=qvh (sumK bs k) c:=by
 unfold sumK
 rw[List.take_add_one,h,List.foldl_append];rfl
theorem cWith [ZW] (rt rb:Rw) (R:List Rw) (bs:List Int) (hT:TabOK (some rt) (tabL 256)) (hB:BufOK rb bs) (hl:bs.length≤1000) (ht:rt∈R) (hb:rb∈R) (i:Nat) (h:Hp) (hi:h[i]?=some (some (rvC R))) :
  qad Tryz.prog 137 [uV (some rt.sl),uV (some rb.sl)] h (.int .u32 (sumN bs)) [(i,rvC R)] []:=by
 refine qax (G:=tys) (fun _:Unit=>True) (fun _=>_) [⟨i,rvC R,rvC R,rvC R⟩] [] [uV (some rt.sl),uV (some rb.sl)] tysOK mixed Tryz.func137 (by rfl) (Tryz.call137) ⟨hi,trivial⟩ ⟨⟨fun h=>⟨rfl,nlr _⟩,nlr _,qem⟩,trivial⟩ (by simp[Apart]) ⟨.inr ⟨rfl,rfl⟩,trivial⟩ trivial ⟨.quo,.quo,trivial⟩ Opens.same ?_
 rintro⟨⟩ -
 have hbn:=hB.n
 have htn:rt.n=256:=by have:=hT.n;rw[qlf] at this;exact this
 have hTx:rt.xs=(tabL 256).map (Value.int .u32):=hT.xs
 have hlb:((uN (some rb.sl):Nat):Int)=((bs.length:Nat):Int):=by show((rb.n:Nat):Int)=_;rw[hbn]
 have hlt:((uN (some rt.sl):Nat):Int)=256:=by show((rt.n:Nat):Int)=_;rw[htn];rfl
 repeat' (refine N.go ?_;first|refine N.op (qed rfl rfl ⟨_,rfl,_,Tryz.underlying39⟩) ?_|fail)
 refine N.go ?_
 refine N.loopR (α:=Nat) (fun k=>k≤bs.length) (fun k=>bs.length-k) (fun k=>[(5,.int .u32 (sumK bs k)),(11,.int .i64 (k:Int))]) (fun k=>[]) 0 [(0,0)] (Nat.zero_le _) ?_ ?_
 ·repeat' (refine N.go ?_;first|exact N.true|refine N.obl (.plain (by rfl)) ?_|refine N.obl qg9 ?_|refine N.obl (.one .quo) ?_|fail)
 intro k hk
 have hk:k≤bs.length:=hk
 by_cases hkl:k<bs.length
 ·obtain⟨c,hc⟩:∃ c,bs[k]?=some c:=⟨_,List.getElem?_eq_getElem hkl⟩
  have hs:=qvi hc
  generalize sumK bs k=s0 at hs
  obtain⟨x0,x1⟩:=q2u (IntKind.u8.wrap s0) c
  have es:sumK bs (k+1)=xor32 (shr32 s0 8) (entN (xor8 (IntKind.u8.wrap s0) c).toNat):=hs
  have ex:IntKind.i64.wrap (xor8 (IntKind.u8.wrap s0) c)=(xor8 (IntKind.u8.wrap s0) c):=i64s _ (by omega) (by omega)
  have hxe:(tabL 256)[(xor8 (IntKind.u8.wrap s0) c).toNat]?=some (entN (xor8 (IntKind.u8.wrap s0) c).toNat):=by
   unfold tabL
   rw[List.getElem?_map,List.getElem?_range (by omega)];rfl
  have ek:((k+1:Nat):Int)=IntKind.i64.wrap ((k:Int)+1):=by rw[i64s _ (by omega) (by omega)];rfl
  repeat' (refine N.go ?_;first|with_reducible refine N.obl (by decide) ?_|refine N.forkYes (decide_eq_true (show _<_ from by rw[hlt,ex];exact x1)) ?_|refine N.op (qed rfl rfl ⟨_,rfl,_,Tryz.underlying215⟩) ?_|refine N.op (qec (sz:=1) (g:=rb.o+k) tysOK rfl rfl (fun ρ=>by rw[qfm];rfl) rfl (by exact rfl) (by omega) (by show((k:Nat):Int)<((rb.n:Nat):Int);omega) (by show rb.o+((k:Nat):Int).toNat*1=_;rw[Int.toNat_natCast,Nat.mul_one])) ?_|refine N.op (qpt (i:=0) rb (v:=.int .u8 c) k tysOK rfl rfl rfl (by rfl) hb (by exact rfl) rfl (by rw[hB.xs,List.getElem?_map,hc];rfl)) ?_|refine N.op (qec (sz:=1) (g:=rt.o+(xor8 (IntKind.u8.wrap s0) c).toNat) tysOK rfl rfl (fun ρ=>by rw[qfm];rfl) rfl (by exact rfl) (by rw[ex];omega) (by rw[ex];show(xor8 (IntKind.u8.wrap s0) c)<((rt.n:Nat):Int);omega) (by rw[ex,Nat.mul_one])) ?_|refine N.op (qpt (i:=0) rt (v:=.int .u32 (entN (xor8 (IntKind.u8.wrap s0) c).toNat)) (xor8 (IntKind.u8.wrap s0) c).toNat tysOK rfl rfl rfl (by rfl) ht (by exact rfl) rfl (by rw[hTx,List.getElem?_map,hxe];rfl)) ?_|refine N.forkYes (decide_eq_true (by omega)) ?_|fail)
  refine N.go ?_
  refine N.nextR (α:=Nat) (k+1) [(0,0)] ⟨hkl,by show bs.length-(k+1)<bs.length-k;omega⟩ ?_
  repeat' (refine N.go ?_;first|exact N.true|refine N.obl (.plain (by rfl)) ?_|refine N.obl (qa2 (qaz ek) rfl) ?_|refine N.obl (qa2 (qaz es) rfl) ?_|refine N.obl qg9 ?_|refine N.obl (.one .quo) ?_|fail)
 ·obtain rfl:k=bs.length:=by omega
  repeat' (refine N.go ?_;first|refine N.notU ?_|refine N.forkNo (decide_eq_false (by omega)) ?_|refine N.endSame ?_|refine N.obl (.plain rfl) ?_|refine N.obl ⟨⟨_,rfl,fun h=>h,nlr _,qem⟩,trivial⟩ ?_|refine N.obl trivial ?_|refine N.obl ⟨⟨.inr ⟨_,rfl,rfl⟩,trivial⟩,trivial⟩ ?_|exact N.true|fail)
theorem cSum [ZW] (rb:Rw) (R:List Rw) (bs:List Int) (hB:BufOK rb bs) (hl:bs.length≤1000) (hb:rb∈R) (i:Nat) (h:Hp) (hi:h[i]?=some (some (rvC R))) :
  CallAll Tryz.prog 110 [uV (some rb.sl)] h (fun v ms=>v=.int .u32 (sumN bs)∧ms=[(i,rvC R)]):=by
 have hil:=(List.getElem?_eq_some_iff.1 hi).1
 have key:=qaj (G:=tys) (h:=h) (vs:=[uV (some rb.sl)]) (fun _:Unit=>True) (fun _=>_) (α:=Rw) (fun κ=>True) (fun κ=>.int .u32 (sumN bs)) [⟨i,rvC R,rvC R,rvC R⟩] (fun κ=>[rvC (κ::R)]) (fun κ=>[]) [uV (some rb.sl)] tysOK mixed Tryz.func110 (by rfl) (Tryz.call110) ⟨hi,trivial⟩ ⟨⟨fun h=>⟨rfl,nlr _⟩,nlr _,qem⟩,trivial⟩ (fun κ _=>⟨⟨fun h=>⟨rfl,nlr _⟩,nlr _,qem⟩,trivial⟩) (by simp[Apart]) ⟨.inr ⟨rfl,rfl⟩,trivial⟩ (fun κ _=>trivial) ⟨.quo,trivial⟩ Opens.same ?_
 ·refine CallAll.soft key fun v ms hR=>?_
  obtain⟨κ,_,rfl,rfl⟩:=hR
  refine⟨i,rvX (κ::R),rvX R,true,0,[],[(i,rvC R)],?_,q1k (List.sublist_cons_self ..),?_,rfl,rfl⟩
  ·show(h.set i _)[i]?=_
   rw[List.getElem?_set_self hil]
  ·show(h.set i _).set i _=h.set i _
   rw[List.set_set]
 rintro⟨⟩ -
 skip
 refine N.go ?_
 refine N.callAll (q5l R 0 _ (by rfl)) fun v ms hR=>?_
 obtain⟨rt,hT,rfl,rfl⟩:=hR
 repeat' (refine N.go ?_;first|refine N.call (cWith rt rb (rt::R) bs hT hB hl (List.mem_cons_self ..) (List.mem_cons_of_mem _ hb) 0 _ (by rfl)) ?_|refine N.endSame ?_|refine N.some rt ⟨trivial,?_⟩|refine N.obl (.plain rfl) ?_|refine N.obl ⟨⟨_,rfl,fun h=>h,nlr _,qem⟩,trivial⟩ ?_|refine N.obl trivial ?_|refine N.obl ⟨⟨.inr ⟨_,rfl,rfl⟩,trivial⟩,trivial⟩ ?_|exact N.true|fail)
theorem q5m (n m:Int)  (w:World):Calls Tryz.prog 136 #[.int .i64 n,.int .i64 m] w fun e w'=>e=.returned (.bool (decide (0≤n∧n≤m)))∧Below w.heap.size w w':=by
 refine qaf (G:=tys) w tysOK mixed Tryz.func136 (by rfl) (by first|rfl|(simp only[List.all_cons,List.all_nil,qaa,qab,qac];rfl)) (by first|exact qag _|exact qak _ _ _|rfl|(simp only[qap,List.all_cons,List.all_nil,qaa,qab,qac];rfl)) ?_
 repeat' (refine N.go ?_;first|with_reducible (first|refine N.eq ?_|refine N.forkT ?_|refine N.forkF ?_)|with_reducible refine N.fork (fun hb=>?_) (fun hb=>?_)|fail)
 all_goals
  refine boolD ?_
  simp only[decide_eq_true_eq,decide_eq_false_iff_not,Bool.false_eq_true,false_iff,true_iff,iff_true,iff_false,reduceCtorEq,not_true_eq_false,not_false_eq_true,ge_iff_le,gt_iff_lt] at *
  omega
theorem cFrIn (n m:Int) (h:Hp):qad Tryz.prog 136 [.int .i64 n,.int .i64 m] h (.bool (decide (0≤n∧n≤m))) [] []:=qai rfl rfl (Tryz.call136 _) (q5m n m)
theorem qym (n:Int)  (w:World):Calls Tryz.prog 135 #[.int .i64 n] w fun e w'=>e=.returned (.bool (decide (0≤n∧n<64)))∧Below w.heap.size w w':=by
 refine qaf (G:=tys) w tysOK mixed Tryz.func135 (by rfl) (by first|rfl|(simp only[List.all_cons,List.all_nil,qaa,qab,qac];rfl)) (by first|exact qag _|exact qak _ _ _|rfl|(simp only[qap,List.all_cons,List.all_nil,qaa,qab,qac];rfl)) ?_
 repeat' (refine N.go ?_;first|with_reducible (first|refine N.eq ?_|refine N.forkT ?_|refine N.forkF ?_)|with_reducible refine N.fork (fun hb=>?_) (fun hb=>?_)|fail)
 all_goals
  refine boolD ?_
  simp only[decide_eq_true_eq,decide_eq_false_iff_not,Bool.false_eq_true,false_iff,true_iff,iff_true,iff_false,reduceCtorEq,not_true_eq_false,not_false_eq_true,ge_iff_le,gt_iff_lt] at *
  omega
theorem qon (n:Int) (h:Hp):qad Tryz.prog 135 [.int .i64 n] h (.bool (decide (0≤n∧n<64))) [] []:=qai rfl rfl (Tryz.call135 _) (qym n)
theorem tupD {v:Value} {b:Bool} {p:Prop} [Decidable p] (h:b=true↔p):Value.tuple #[v,.bool b]=.tuple #[v,.bool (decide p)]:=by
 by_cases hp:p
 ·rw[h.2 hp,decide_eq_true hp]
 ·rw[decide_eq_false hp]
  cases b with
  | false=>rfl
  | true=>exact absurd (h.1 rfl) hp
abbrev frF (k s b q st ds t1 t2 wh wn x y a c d:Int):Value:=.agg ⟨[.int .i64 k,.int .i64 s,.int .i64 b,.int .i64 q,.int .i64 st,.int .i64 ds,.int .i64 t1,.int .i64 t2,.int .i64 wh,.int .i64 wn,.int .i64 x,.int .i64 y,.int .i64 a,.int .i64 c,.int .i64 d]⟩
theorem q2v (s b q st ds t1 t2 wh wn x y a c d:Int)  (w:World):Calls Tryz.prog 134 #[frF 1 s b q st ds t1 t2 wh wn x y a c d] w fun e w'=>e=.returned (.tuple #[frF 1 s b q st ds t1 t2 wh wn x y a c d,.bool (decide (True))])∧Below w.heap.size w w':=by
 refine qaf (G:=tys) w tysOK mixed Tryz.func134 (by rfl) (by first|rfl|(simp only[List.all_cons,List.all_nil,qaa,qab,qac];rfl)) (by first|exact qag _|exact qak _ _ _|rfl|(simp only[qap,List.all_cons,List.all_nil,qaa,qab,qac];rfl)) ?_
 repeat' (refine N.go ?_;first|with_reducible (first|refine N.eq ?_|refine N.obl rfl ?_|refine N.forkT ?_)|refine N.forkYes (by decide) ?_|fail)
 all_goals
  refine tupD ?_
  simp only[decide_eq_true_eq,decide_eq_false_iff_not,Bool.false_eq_true,false_iff,true_iff,iff_true,iff_false,reduceCtorEq,not_true_eq_false,not_false_eq_true,ge_iff_le,gt_iff_lt,bne_iff_ne,ne_eq,bne_eq_false_iff_eq] at *
  try first|omega|exact⟨fun hh=>⟨by assumption,by assumption,by assumption,hh⟩,fun hh=>hh.2.2.2⟩
theorem q2w (s b q st ds t1 t2 wh wn x y a c d:Int)  (w:World):Calls Tryz.prog 134 #[frF 7 s b q st ds t1 t2 wh wn x y a c d] w fun e w'=>e=.returned (.tuple #[frF 7 s b q st ds t1 t2 wh wn x y a c d,.bool (decide (True))])∧Below w.heap.size w w':=by
 refine qaf (G:=tys) w tysOK mixed Tryz.func134 (by rfl) (by first|rfl|(simp only[List.all_cons,List.all_nil,qaa,qab,qac];rfl)) (by first|exact qag _|exact qak _ _ _|rfl|(simp only[qap,List.all_cons,List.all_nil,qaa,qab,qac];rfl)) ?_
 repeat' (refine N.go ?_;first|with_reducible (first|refine N.eq ?_|refine N.obl rfl ?_)|refine N.forkNo (by decide) ?_|refine N.forkYes (by decide) ?_|fail)
 all_goals
  refine tupD ?_
  simp only[decide_eq_true_eq,decide_eq_false_iff_not,Bool.false_eq_true,false_iff,true_iff,iff_true,iff_false,reduceCtorEq,not_true_eq_false,not_false_eq_true,ge_iff_le,gt_iff_lt,bne_iff_ne,ne_eq,bne_eq_false_iff_eq] at *
  try first|omega|exact⟨fun hh=>⟨by assumption,by assumption,by assumption,hh⟩,fun hh=>hh.2.2.2⟩
theorem q2x (s b q st ds t1 t2 wh wn x y a c d:Int)  (w:World):Calls Tryz.prog 134 #[frF 5 s b q st ds t1 t2 wh wn x y a c d] w fun e w'=>e=.returned (.tuple #[frF 5 s b q st ds t1 t2 wh wn 0 0 0 0 0,.bool (decide (mayP x y a c d))])∧Below w.heap.size w w':=by
 refine qaf (G:=tys) w tysOK mixed Tryz.func134 (by rfl) (by first|rfl|(simp only[List.all_cons,List.all_nil,qaa,qab,qac];rfl)) (by first|exact qag _|exact qak _ _ _|rfl|(simp only[qap,List.all_cons,List.all_nil,qaa,qab,qac];rfl)) ?_
 repeat' (refine N.go ?_;first|with_reducible (first|refine N.obl (by decide) ?_|refine N.eq ?_|refine N.obl rfl ?_)|refine N.forkNo (by decide) ?_|refine N.forkYes (by decide) ?_|refine N.call (cEMay _ _ _ _ _ _) ?_|fail)
 all_goals
  refine tupD ?_
  simp only[decide_eq_true_eq,decide_eq_false_iff_not,Bool.false_eq_true,false_iff,true_iff,iff_true,iff_false,reduceCtorEq,not_true_eq_false,not_false_eq_true,ge_iff_le,gt_iff_lt,bne_iff_ne,ne_eq,bne_eq_false_iff_eq] at *
  try first|omega|exact⟨fun hh=>⟨by assumption,by assumption,by assumption,hh⟩,fun hh=>hh.2.2.2⟩
theorem qoo (x y:Operand):BinIs Tryz.prog .eql 38 x y (.agg ⟨[.int .i64 0,.int .i64 0,.int .i64 0,.int .i64 0,.int .i64 0]⟩) (.agg ⟨[.int .i64 0,.int .i64 0,.int .i64 0,.int .i64 0,.int .i64 0]⟩) (.bool true):=⟨rfl,rfl,rfl,fun w=>by go_simp⟩
theorem q2y (s b q st:Int)  (h:Hp):qad Tryz.prog 134 [frF 1 s b q st 0 0 0 0 0 0 0 0 0 0] h (.tuple #[frF 1 s b q st 0 0 0 0 0 0 0 0 0 0,.bool true]) [] []:=qai rfl rfl (Tryz.call134 _) fun w=>(q2v s b q st 0 0 0 0 0 0 0 0 0 0 w).mono fun e w' ⟨he,hB⟩=>⟨by rw[he,decide_eq_true (show True from trivial)],hB⟩
theorem qyn (s b q st:Int)  (hs:0≤s∧s<64) (hb:0≤b∧b≤65535) (hq:0≤q∧q≤65535) (hst:0≤st∧st≤1000000) (w:World):Calls Tryz.prog 108 #[frF 1 s b q st 0 0 0 0 0 0 0 0 0 0] w fun e w'=>e=.returned (.bool true)∧Below w.heap.size w w':=by
 refine qaf (G:=tys) w tysOK mixed Tryz.func108 (by rfl) (by first|rfl|(simp only[List.all_cons,List.all_nil,qaa,qab,qac];rfl)) (by first|exact qag _|exact qak _ _ _|rfl|(simp only[qap,List.all_cons,List.all_nil,qaa,qab,qac];rfl)) ?_
 repeat' (refine N.go ?_;first|with_reducible (first|refine N.obl (by decide) ?_|refine N.eq ?_|refine N.obl rfl ?_|refine N.forkT ?_)|refine N.forkYes (by decide) ?_|refine N.call (q2y s b q st _) ?_|refine N.call (qon _ _) ?_|refine N.call (cFrIn _ _ _) ?_|refine N.forkYes (decide_eq_true hs) ?_|refine N.forkYes (decide_eq_true hb) ?_|refine N.forkYes (decide_eq_true hq) ?_|refine N.forkYes (decide_eq_true hst) ?_|refine N.bin _ (qoo _ _) ?_|fail)
 all_goals rfl
theorem q2z (s b q st:Int) (hs:0≤s∧s<64) (hb:0≤b∧b≤65535) (hq:0≤q∧q≤65535) (hst:0≤st∧st≤1000000)  (h:Hp):qad Tryz.prog 108 [frF 1 s b q st 0 0 0 0 0 0 0 0 0 0] h (.bool true) [] []:=qai rfl rfl (Tryz.call108 _) (qyn s b q st hs hb hq hst)
theorem q20 (s b q st:Int)  (h:Hp):qad Tryz.prog 134 [frF 7 s b q st 0 0 0 0 0 0 0 0 0 0] h (.tuple #[frF 7 s b q st 0 0 0 0 0 0 0 0 0 0,.bool true]) [] []:=qai rfl rfl (Tryz.call134 _) fun w=>(q2w s b q st 0 0 0 0 0 0 0 0 0 0 w).mono fun e w' ⟨he,hB⟩=>⟨by rw[he,decide_eq_true (show True from trivial)],hB⟩
theorem qyo (s b q st:Int)  (hs:0≤s∧s<64) (hb:0≤b∧b≤65535) (hq:0≤q∧q≤65535) (hst:0≤st∧st≤1000000) (w:World):Calls Tryz.prog 108 #[frF 7 s b q st 0 0 0 0 0 0 0 0 0 0] w fun e w'=>e=.returned (.bool true)∧Below w.heap.size w w':=by
 refine qaf (G:=tys) w tysOK mixed Tryz.func108 (by rfl) (by first|rfl|(simp only[List.all_cons,List.all_nil,qaa,qab,qac];rfl)) (by first|exact qag _|exact qak _ _ _|rfl|(simp only[qap,List.all_cons,List.all_nil,qaa,qab,qac];rfl)) ?_
 repeat' (refine N.go ?_;first|with_reducible (first|refine N.obl (by decide) ?_|refine N.eq ?_|refine N.obl rfl ?_|refine N.forkT ?_)|refine N.forkYes (by decide) ?_|refine N.call (q20 s b q st _) ?_|refine N.call (qon _ _) ?_|refine N.call (cFrIn _ _ _) ?_|refine N.forkYes (decide_eq_true hs) ?_|refine N.forkYes (decide_eq_true hb) ?_|refine N.forkYes (decide_eq_true hq) ?_|refine N.forkYes (decide_eq_true hst) ?_|refine N.bin _ (qoo _ _) ?_|fail)
 all_goals rfl
theorem q21 (s b q st:Int) (hs:0≤s∧s<64) (hb:0≤b∧b≤65535) (hq:0≤q∧q≤65535) (hst:0≤st∧st≤1000000)  (h:Hp):qad Tryz.prog 108 [frF 7 s b q st 0 0 0 0 0 0 0 0 0 0] h (.bool true) [] []:=qai rfl rfl (Tryz.call108 _) (qyo s b q st hs hb hq hst)
theorem q22 (s b q st:Int) (x y a c d:Int) (hm:mayP x y a c d) (h:Hp):qad Tryz.prog 134 [frF 5 s b q st 0 0 0 0 0 x y a c d] h (.tuple #[frF 5 s b q st 0 0 0 0 0 0 0 0 0 0,.bool true]) [] []:=qai rfl rfl (Tryz.call134 _) fun w=>(q2x s b q st 0 0 0 0 0 x y a c d w).mono fun e w' ⟨he,hB⟩=>⟨by rw[he,decide_eq_true (show mayP x y a c d from hm)],hB⟩
theorem qyp (s b q st:Int) (x y a c d:Int)  (hs:0≤s∧s<64) (hb:0≤b∧b≤65535) (hq:0≤q∧q≤65535) (hst:0≤st∧st≤1000000)(hm:mayP x y a c d) (w:World):Calls Tryz.prog 108 #[frF 5 s b q st 0 0 0 0 0 x y a c d] w fun e w'=>e=.returned (.bool true)∧Below w.heap.size w w':=by
 refine qaf (G:=tys) w tysOK mixed Tryz.func108 (by rfl) (by first|rfl|(simp only[List.all_cons,List.all_nil,qaa,qab,qac];rfl)) (by first|exact qag _|exact qak _ _ _|rfl|(simp only[qap,List.all_cons,List.all_nil,qaa,qab,qac];rfl)) ?_
 repeat' (refine N.go ?_;first|with_reducible (first|refine N.obl (by decide) ?_|refine N.eq ?_|refine N.obl rfl ?_|refine N.forkT ?_)|refine N.forkYes (by decide) ?_|refine N.call (q22 s b q st x y a c d hm _) ?_|refine N.call (qon _ _) ?_|refine N.call (cFrIn _ _ _) ?_|refine N.forkYes (decide_eq_true hs) ?_|refine N.forkYes (decide_eq_true hb) ?_|refine N.forkYes (decide_eq_true hq) ?_|refine N.forkYes (decide_eq_true hst) ?_|refine N.bin _ (qoo _ _) ?_|fail)
 all_goals rfl
theorem q23 (s b q st:Int) (x y a c d:Int) (hs:0≤s∧s<64) (hb:0≤b∧b≤65535) (hq:0≤q∧q≤65535) (hst:0≤st∧st≤1000000) (hm:mayP x y a c d) (h:Hp):qad Tryz.prog 108 [frF 5 s b q st 0 0 0 0 0 x y a c d] h (.bool true) [] []:=qai rfl rfl (Tryz.call108 _) (qyp s b q st x y a c d hs hb hq hst hm)
theorem qyq:∃ ei,Tryz.prog.info? 5=some ei∧ei.size=1∧ei.zero=some (.int .u8 0):=by
 obtain⟨ei,d,h1,h2,h3⟩:=qal tysOK (t:=5) (K:=fun ei _=>ei.size=1∧ei.zero=some (.int .u8 0)) ⟨rfl,rfl⟩
 exact⟨ei,h1,h3⟩
def encH (k s b q st ds t1 t2 wh wn x y a c d:Int):List Int:=[97,108,105,49]++be k 1++be s 1++be ds 1++be wh 1++be b 2++be q 2++be st 8++be t1 8++be t2 8++be wn 8++be x 4++be y 4++be a 8++be c 8++be d 8
def encB (k s b q st ds t1 t2 wh wn x y a c d:Int):List Int:=encH k s b q st ds t1 t2 wh wn x y a c d++be (IntKind.i64.wrap (sumN (encH k s b q st ds t1 t2 wh wn x y a c d))) 4
theorem qci (n:Int) (w:Nat):(be n w).length=w:=qom n w w
def Fi (n:Int):Prop:=-9223372036854775808≤n∧n≤9223372036854775807
theorem qyr (k s b q st ds t1 t2 wh wn x y a c d:Int) (hk:Fi k) (hs:Fi s) (hb:Fi b) (hq:Fi q) (hst:Fi st) (hds:Fi ds) (ht1:Fi t1) (ht2:Fi t2) (hwh:Fi wh) (hwn:Fi wn) (hx:Fi x) (hy:Fi y) (ha:Fi a) (hc:Fi c) (hd:Fi d) (hM:∀ h,qad Tryz.prog 108 [frF k s b q st ds t1 t2 wh wn x y a c d] h (.bool true) [] []) (W:World) (hW:0<W.heap.size) :
  Calls Tryz.prog 82 #[frF k s b q st ds t1 t2 wh wn x y a c d] W fun e w'=>∃ r:Rw,BufOK r (encB k s b q st ds t1 t2 wh wn x y a c d)∧e=.returned (den (fun _=>(0,0)) (.tuple #[uV (some r.sl),.int .i64 0]))∧Below W.heap.size W w'∧∀ q∈[r],RwAt w' q∧W.heap.size≤q.b:=by
 letI:ZW:=⟨some W⟩
 refine qts (vs:=[frF k s b q st ds t1 t2 wh wn x y a c d]) W rfl (fun(r:Rw)=>.tuple #[uV (some r.sl),.int .i64 0]) (fun r=>[r]) (fun r=>BufOK r (encB k s b q st ds t1 t2 wh wn x y a c d)) tysOK mixed Tryz.func82 (by rfl) hW rfl (fun(κ:Rw) r r'=>by
  have e:∀ r,den2 r (uV (some κ.sl))=uR (some κ.sl):=fun r=>qkr (some κ.sl) r
  have e2:∀ r,den r (.tuple #[uV (some κ.sl),.int .i64 0])=.tuple #[uR (some κ.sl),.int .i64 0]:=fun r=>by
   show Value.tuple (#[uV (some κ.sl),.int .i64 0].map (den2 r))=_
   simp only[List.map_toArray,List.map_cons,List.map_nil,e];rfl
  rw[e2,e2]) ?_
 repeat' (refine N.go ?_;first|with_reducible refine N.obl rfl ?_|refine N.call (hM _) ?_|refine N.forkNo (by decide) ?_|fail)
 refine N.go ?_
 refine N.altP ?_
 obtain⟨ei,h1,h2,h3⟩:=qyq
 refine qrb (ei:=ei) (z:=.int .u8 0) (out:=[.int .u8 97,.int .u8 108,.int .u8 105,.int .u8 49]) (R:=[]) (i:=0) rfl (by exact⟨_,_,rfl,⟨rfl,rfl⟩,_,_,rfl,⟨rfl,rfl⟩,_,_,rfl,⟨rfl,rfl⟩,_,_,rfl,⟨rfl,rfl⟩,rfl⟩) Tryz.underlying39 h1 h3 rfl (by rw[h2];rfl) (by rw[h2];decide) (by rw[h2];decide) (by rw[h2];rfl) (by rw[h2];rfl) rfl (by rw[h2];decide) (by rfl) fun bb=>?_
 have hr0:BufOK ⟨true,5,ei.size,bb,0,4,4,[.int .u8 97,.int .u8 108,.int .u8 105,.int .u8 49]⟩ [97,108,105,49]:=⟨rfl,rfl,h2,rfl,rfl⟩
 generalize hg0:(⟨true,5,ei.size,bb,0,4,4,[.int .u8 97,.int .u8 108,.int .u8 105,.int .u8 49]⟩:Rw)=r0 at hr0
 have hg1:(some ⟨bb,0,4,4,none⟩:Option Sl)=some r0.sl:=by rw[←hg0]
 rw[hg1]
 repeat' (refine N.go ?_;first|refine N.op (q1j (i:=0) r0 rfl rfl Tryz.underlying39 Tryz.underlying5 hr0.w (List.mem_singleton.2 rfl) (by rfl)) ?_|refine N.roll 5 ?_|refine N.idx 0 0 (by decide) (by decide) ?_|refine N.forkYes (by decide) ?_|fail)
 refine N.go ?_
 refine N.callAll (cPut r0 [] _ hr0 k hk 1 (by decide) (by simp only[List.length_append,qci,List.length_cons,List.length_nil];omega) 0 _ (by rfl)) fun v ms hR=>?_
 obtain⟨r1,hr1,rfl,rfl⟩:=hR
 repeat' (refine N.go ?_;first|refine N.idx 1 0 (by decide) (by decide) ?_|refine N.forkYes (by decide) ?_|fail)
 refine N.go ?_
 refine N.callAll (cPut r1 [] _ hr1 s hs 1 (by decide) (by simp only[List.length_append,qci,List.length_cons,List.length_nil];omega) 0 _ (by rfl)) fun v ms hR=>?_
 obtain⟨r2,hr2,rfl,rfl⟩:=hR
 repeat' (refine N.go ?_;first|refine N.idx 2 0 (by decide) (by decide) ?_|refine N.forkYes (by decide) ?_|fail)
 refine N.go ?_
 refine N.callAll (cPut r2 [] _ hr2 ds hds 1 (by decide) (by simp only[List.length_append,qci,List.length_cons,List.length_nil];omega) 0 _ (by rfl)) fun v ms hR=>?_
 obtain⟨r3,hr3,rfl,rfl⟩:=hR
 repeat' (refine N.go ?_;first|refine N.idx 3 0 (by decide) (by decide) ?_|refine N.forkYes (by decide) ?_|fail)
 refine N.go ?_
 refine N.callAll (cPut r3 [] _ hr3 wh hwh 1 (by decide) (by simp only[List.length_append,qci,List.length_cons,List.length_nil];omega) 0 _ (by rfl)) fun v ms hR=>?_
 obtain⟨r4,hr4,rfl,rfl⟩:=hR
 repeat' (refine N.go ?_;first|refine N.forkNo (by decide) ?_|fail)
 refine N.go ?_
 refine N.altP ?_
 refine N.plan [0,1,2,4,5] [(3,[]),(6,[7])] (by kernel_rfl) ?_
 skip
 refine N.go ?_
 refine qa4 [0] _ (by show midB _ _ _ _=Bool.true;kernel_rfl) (fun h₂ hh=>cPut r4 [] _ hr4 b hb 2 (by decide) (by simp only[List.length_append,qci,List.length_cons,List.length_nil];omega) 0 h₂ ((hh 0 (by simp)).trans rfl)) fun v ms hM_=>?_
 obtain⟨r5,hr5,rfl,rfl⟩:=hM_
 refine⟨by simp,?_⟩
 skip
 refine N.go ?_
 refine qa4 [0] _ (by show midB _ _ _ _=Bool.true;kernel_rfl) (fun h₂ hh=>cPut r5 [] _ hr5 q hq 2 (by decide) (by simp only[List.length_append,qci,List.length_cons,List.length_nil];omega) 0 h₂ ((hh 0 (by simp)).trans rfl)) fun v ms hM_=>?_
 obtain⟨r6,hr6,rfl,rfl⟩:=hM_
 refine⟨by simp,?_⟩
 repeat' (refine N.go ?_;first|with_reducible refine N.obl (by decide) ?_|refine N.roll 5 ?_|refine N.idx 0 0 (by decide) (by decide) ?_|refine N.forkYes (by decide) ?_|fail)
 skip
 refine N.go ?_
 refine N.callAll (cPut r6 [] _ hr6 st hst 8 (by decide) (by simp only[List.length_append,qci,List.length_cons,List.length_nil];omega) 0 _ (by rfl)) fun v ms hR=>?_
 obtain⟨r7,hr7,rfl,rfl⟩:=hR
 repeat' (refine N.go ?_;first|refine N.idx 1 0 (by decide) (by decide) ?_|refine N.forkYes (by decide) ?_|fail)
 refine N.go ?_
 refine N.callAll (cPut r7 [] _ hr7 t1 ht1 8 (by decide) (by simp only[List.length_append,qci,List.length_cons,List.length_nil];omega) 0 _ (by rfl)) fun v ms hR=>?_
 obtain⟨r8,hr8,rfl,rfl⟩:=hR
 repeat' (refine N.go ?_;first|refine N.idx 2 0 (by decide) (by decide) ?_|refine N.forkYes (by decide) ?_|fail)
 refine N.go ?_
 refine N.callAll (cPut r8 [] _ hr8 t2 ht2 8 (by decide) (by simp only[List.length_append,qci,List.length_cons,List.length_nil];omega) 0 _ (by rfl)) fun v ms hR=>?_
 obtain⟨r9,hr9,rfl,rfl⟩:=hR
 repeat' (refine N.go ?_;first|refine N.idx 3 0 (by decide) (by decide) ?_|refine N.forkYes (by decide) ?_|fail)
 refine N.go ?_
 refine N.callAll (cPut r9 [] _ hr9 wn hwn 8 (by decide) (by simp only[List.length_append,qci,List.length_cons,List.length_nil];omega) 0 _ (by rfl)) fun v ms hR=>?_
 obtain⟨r10,hr10,rfl,rfl⟩:=hR
 repeat' (refine N.go ?_;first|refine N.forkNo (by decide) ?_|fail)
 refine N.go ?_
 refine N.altP ?_
 refine N.plan [0,1,2,3,4,6,7,8,9] [(5,[]),(10,[11])] (by kernel_rfl) ?_
 skip
 refine N.go ?_
 refine qa4 [0] _ (by show midB _ _ _ _=Bool.true;kernel_rfl) (fun h₂ hh=>cPut r10 [] _ hr10 x hx 4 (by decide) (by simp only[List.length_append,qci,List.length_cons,List.length_nil];omega) 0 h₂ ((hh 0 (by simp)).trans rfl)) fun v ms hM_=>?_
 obtain⟨r11,hr11,rfl,rfl⟩:=hM_
 refine⟨by simp,?_⟩
 skip
 refine N.go ?_
 refine qa4 [0] _ (by show midB _ _ _ _=Bool.true;kernel_rfl) (fun h₂ hh=>cPut r11 [] _ hr11 y hy 4 (by decide) (by simp only[List.length_append,qci,List.length_cons,List.length_nil];omega) 0 h₂ ((hh 0 (by simp)).trans rfl)) fun v ms hM_=>?_
 obtain⟨r12,hr12,rfl,rfl⟩:=hM_
 refine⟨by simp,?_⟩
 repeat' (refine N.go ?_;first|with_reducible refine N.obl (by decide) ?_|refine N.roll 5 ?_|refine N.idx 0 0 (by decide) (by decide) ?_|refine N.forkYes (by decide) ?_|fail)
 skip
 refine N.go ?_
 refine N.callAll (cPut r12 [] _ hr12 a ha 8 (by decide) (by simp only[List.length_append,qci,List.length_cons,List.length_nil];omega) 0 _ (by rfl)) fun v ms hR=>?_
 obtain⟨r13,hr13,rfl,rfl⟩:=hR
 repeat' (refine N.go ?_;first|refine N.idx 1 0 (by decide) (by decide) ?_|refine N.forkYes (by decide) ?_|fail)
 refine N.go ?_
 refine N.callAll (cPut r13 [] _ hr13 c hc 8 (by decide) (by simp only[List.length_append,qci,List.length_cons,List.length_nil];omega) 0 _ (by rfl)) fun v ms hR=>?_
 obtain⟨r14,hr14,rfl,rfl⟩:=hR
 repeat' (refine N.go ?_;first|refine N.idx 2 0 (by decide) (by decide) ?_|refine N.forkYes (by decide) ?_|fail)
 refine N.go ?_
 refine N.callAll (cPut r14 [] _ hr14 d hd 8 (by decide) (by simp only[List.length_append,qci,List.length_cons,List.length_nil];omega) 0 _ (by rfl)) fun v ms hR=>?_
 obtain⟨r15,hr15,rfl,rfl⟩:=hR
 repeat' (refine N.go ?_;first|refine N.forkNo (by decide) ?_|fail)
 refine N.go ?_
 refine N.callAll (cSum r15 [r15] _ hr15 (by simp only[List.length_append,qci,List.length_cons,List.length_nil];omega) (List.mem_singleton.2 rfl) 0 _ (by rfl)) fun v ms hR=>?_
 obtain⟨rfl,rfl⟩:=hR
 skip
 have hsum:Fi (IntKind.i64.wrap (sumN (encH k s b q st ds t1 t2 wh wn x y a c d))):=by
  unfold Fi
  rw[IntKind.wrap_i64]
  omega
 refine N.go ?_
 refine N.callAll (cPut r15 [] _ hr15 (IntKind.i64.wrap (sumN (encH k s b q st ds t1 t2 wh wn x y a c d))) hsum 4 (by decide) (by simp only[List.length_append,qci,List.length_cons,List.length_nil];omega) 0 _ (by rfl)) fun v ms hR=>?_
 obtain⟨r16,hr16,rfl,rfl⟩:=hR
 skip
 refine N.go ?_
 exact N.mk ⟨r16,hr16,rfl,rfl⟩
open Go Go.RowKit Sx
theorem qqm {h:Hp} {i:Nat} {c:Chunk} (hi:h[i]?=some (some c)):h.set i (some c)=h:=by
 refine List.ext_getElem? fun j=>?_
 by_cases e:i=j
 ·subst e;rw[List.getElem?_set_self (List.getElem?_eq_some_iff.1 hi).1,hi]
 ·rw[List.getElem?_set_ne e]
theorem q5n {w:World} {B g c:Nat} {bs:List Int} (h:w.ownsRow B 5 1 (.slice (some ⟨g,0,none⟩) bs.length c) bs.length (bs.map (Value.int .u8))):ByAt w ⟨g,c,bs⟩:=by
 refine⟨(World.ownsRow.lt h g rfl).2,fun j hj=>?_,fun j hj=>World.ownsRow.frozenAt h j⟩
 have hj:j<bs.length:=hj
 rw[World.ownsRow.cellAt h j (by omega)]
 simp[List.getD_eq_getElem?_getD,hj]
abbrev mailV (to_:Int) (u:Option Sl) (at_ tr:Int) (be:Bool):Value:=.agg ⟨[.int .i64 to_,uV u,.int .i64 at_,.int .i64 tr,.bool be]⟩
abbrev mailR (to_:Int) (u:Option Sl) (at_ tr:Int) (be:Bool):Value:=.agg ⟨[.int .i64 to_,uR u,.int .i64 at_,.int .i64 tr,.bool be]⟩
theorem qgm (to_:Int) (u:Option Sl) (at_ tr:Int) (be:Bool) (ρ:Nat→Nat×Nat):den ρ (mailV to_ u at_ tr be)=mailR to_ u at_ tr be:=by
 show Value.agg (#[.int .i64 to_,uV u,.int .i64 at_,.int .i64 tr,.bool be].map (den1 ρ))=_
 have e:=qtk u ρ
 simp only[List.map_toArray,List.map_cons,List.map_nil]
 rw[e]
 rfl
theorem qgn (to_:Int) (u:Option Sl) (at_ tr:Int) (be:Bool) {ix:List (Nat×Nat)}:Re2 ix (mailV to_ u at_ tr be) (mailV to_ u at_ tr be):=.agg ⟨.plain rfl,qtl u,.plain rfl,.plain rfl,.plain rfl,trivial⟩
theorem cOwnM (W:World) (F:List By) (u:Option Sl) (bs:List Int) (hs:Src W F u bs) (hm:bs.length≤1048576) (to_ at_ tr:Int) (be:Bool) (i:Nat) (h:Hp) (hi:h[i]?=some (some (memC W F))) :
  CallAll Tryz.prog 93 [mailV to_ u at_ tr be] h fun v ms=>∃ u' F',Made F bs u' F'∧v=mailV to_ u' at_ tr be∧ms=[(i,memC W F')]:=fun X ρ w xs H hx=>by
 obtain⟨S,E⟩:=H.ext
 have M:MemOK W F (ρ i) (S i) w:=E.inv i _ hi
 have hb:=M.src hs
 match xs,hx with
 | [x],hx=>
  obtain rfl:mailR to_ u at_ tr be=x:=by have:=hx.1.self;rwa[qgm] at this
  refine .inr ⟨Tryz.call93 _ w,?_⟩
  cases u with
  | none=>
   obtain rfl:bs=[]:=List.length_eq_zero_iff.1 hb.1
   refine(q1h to_ at_ tr be w).mono ?_
   rintro e w' ⟨rfl,hB⟩
   refine⟨_,rfl,mailV to_ none at_ tr be,_,ρ,⟨none,F,.nil rfl,rfl,rfl⟩,AgreeOn.refl _ _,?_,fun r _=>qgm _ _ _ _ _ r⟩
   show HOK X ρ (h.set i (some (memC W F))) w'
   rw[qqm hi];exact H.frame hB
  | some s=>
   have hn:bs.length=s.n:=hb.1
   have hc:∀ j,j<bs.length→w.cell? ((⟨s.b,s.o,s.sp⟩:Addr).add j)=some (.int .u8 (bs.getD j 0)):=fun j hj=>by
    obtain⟨h1,h2⟩:=hb.2 s rfl
    have hsp:s.sp=none:=by rcases h1 with h1|h1;exact h1;omega
    rw[hsp,qb4];exact h2 j hj
   have:=qw4 to_ at_ tr be ⟨s.b,s.o,s.sp⟩ s.c bs w hm hc
   rw[hn] at this
   refine this.mono ?_
   rintro e w' ⟨g,c,rfl,ho,hg,hB⟩
   rw[←hn] at ho
   have hat:=q5n ho
   obtain⟨hno,H'⟩:=qpq (e:=⟨g,c,bs⟩) H hi hB hat hg
   refine⟨_,rfl,mailV to_ (By.mk g c bs).s at_ tr be,_,ρ,⟨_,_,.new hno,rfl,rfl⟩,AgreeOn.refl _ _,H',fun r _=>?_⟩
   rw[qgm]
   show mailR to_ (some ⟨g,0,bs.length,c,none⟩) at_ tr be=_
   rw[hn];rfl
theorem qvj {f:FuncId} {fn:Func} {c:Code} {vs:List Value} {V:Value} (W:World) (hG:TysOK Tryz.prog tys) (hm:Tryz.prog.follows .mixedOrders=true) (hf:Tryz.prog.funcs[f]?=some fn) (hb:fn.body=some c) (hW:0<W.heap.size) (hp:vs.all qam=true) (hV:qap V=true)
  (hwp:initK vs fn.ntmps fun t=>wpC Tryz.prog tys 1 c (bodyQ Tryz.prog tys fn fun v st=>N (v=V∧∃ F,st.h[0]?=some (some (memC W F)))) ⟨t,[some (memC W [])]⟩):Calls Tryz.prog f ⟨vs⟩ W fun e w'=>e=.returned V∧Below W.heap.size W w':=by
 let X:Ctx:=⟨W,fun a=>a.block<W.heap.size,1,fun _=>(0,0)⟩
 have one:∀ (k:Nat) (d:Chunk),[some (memC W [])][k]?=some (some d)→k=0∧d=memC W []:=fun k d hk=>by
  cases k with
  | zero=>exact⟨rfl,by simpa using hk.symm⟩
  | succ k=>simp at hk
 have H:HOK X (fun _=>(0,0)) [some (memC W [])] W:=by
  refine⟨Evo.refl _ _,fun i hi=>⟨⟨_,by
    have hi:i<1:=hi
    obtain rfl:i=0:=by omega
    rfl⟩,rfl⟩,fun k d hk=>hW,fun k d hk j hj=>?_,fun k d hk ho j hj=>?_,fun k d l e hk ho hl hne=>?_,fun i b=>i=0∧b<W.heap.size,fun k d hk=>?_,fun k d b hk hS=>?_,fun k d b l e hk hS hl hne=>?_⟩
  ·obtain⟨rfl,rfl⟩:=one k d hk;exact absurd hj (Nat.not_lt_zero j)
  ·obtain⟨rfl,rfl⟩:=one k d hk;exact absurd hj (Nat.not_lt_zero j)
  ·exact absurd ((one k d hk).1.trans (one l e hl).1.symm) hne
  ·obtain⟨rfl,rfl⟩:=one k d hk
   exact⟨fun _=>hW,fun b=>⟨fun h=>.inl h.2,fun h=>by
    rcases h with h|⟨e,he,_⟩
    ·exact⟨rfl,h⟩
    ·cases he⟩,nlr _,fun _ _=>rfl,List.nodup_nil,fun e he=>by cases he⟩
  ·obtain⟨rfl,rfl⟩:=one k d hk
   exact⟨.inl rfl,hS.2,.inr ⟨hS.2,fun _=>hS.2⟩⟩
  ·exact absurd ((one l e hl).1.trans (one k d hk).1.symm) hne
 have hd:∀ {vs:List Value},vs.all qam=true→All2 (Den (Fil [some (memC W [])]) (fun _=>(0,0))) vs vs:=by
  intro vs
  induction vs with
  | nil=>exact fun _=>trivial
  | cons v r ih=>
   intro hp
   simp only[List.all_cons,Bool.and_eq_true] at hp
   exact⟨Den.plain hp.1,ih hp.2⟩
 refine(qe4 (args:=⟨vs⟩) (X:=X) hG hm hf hb H (hd hp) hwp).mono ?_
 rintro e w' ⟨ρ',v,st,x,rfl,H',hdx,hq⟩
 obtain⟨rfl,F,hF⟩:=hq.out
 obtain⟨S,E⟩:=H'.ext
 have M:MemOK W F (ρ' 0) (S 0) w':=E.inv 0 _ hF
 exact⟨by rw[←hdx.self,qbg hV],H'.evo.os,H'.evo.tape,H'.evo.output,H'.evo.size,fun b hb=>M.old b hb⟩
theorem q5o {w:World} {r:Rw} {bs:List Int} (hr:BufOK r bs) (hA:RwAt w r):r.o=0∧ByAt w ⟨r.b,r.c,bs⟩:=by
 obtain⟨q4,cur,z,hh,hz,hs⟩:=hA.own hr.w
 have hl:r.xs.length=bs.length:=by rw[hr.xs,List.length_map]
 refine⟨q4,hA.lt,fun j hj=>?_,fun j hj=>?_⟩
 ·have hj:j<bs.length:=hj
  have h1:=hA.cell j (by omega)
  rw[q4,Nat.zero_add,hr.xs,List.getElem?_map,List.getElem?_eq_getElem hj] at h1
  show w.cell? ⟨r.b,j,none⟩=some (.int .u8 (bs.getD j 0))
  rw[h1,List.getD_eq_getElem?_getD,List.getElem?_eq_getElem hj];rfl
 ·have hj:j<bs.length:=hj
  have hc:=hA.cap
  have hn:=hr.n
  have hk:=hr.k
  rw[hk,Nat.mul_one] at hs
  exact(qpr hh hz j (by omega)).2
theorem q5p {r:Rw} {bs:List Int} (hr:BufOK r bs) (h0:r.o=0):(some r.sl:Option Sl)=(By.mk r.b r.c bs).s:=by
 show(some ⟨r.b,r.o,r.n,r.c,none⟩:Option Sl)=some ⟨r.b,0,bs.length,r.c,none⟩
 rw[h0,hr.n]
theorem qys (W:World) (F:List By) (k s b q st ds t1 t2 wh wn x y a c d:Int) (hk:Fi k) (hs:Fi s) (hb:Fi b) (hq:Fi q) (hst:Fi st) (hds:Fi ds) (ht1:Fi t1) (ht2:Fi t2) (hwh:Fi wh) (hwn:Fi wn) (hx:Fi x) (hy:Fi y) (ha:Fi a) (hc:Fi c) (hd:Fi d) (hM:∀ h,qad Tryz.prog 108 [frF k s b q st ds t1 t2 wh wn x y a c d] h (.bool true) [] []) (i:Nat) (h:Hp) (hi:h[i]?=some (some (memC W F))) :
  CallAll Tryz.prog 82 [frF k s b q st ds t1 t2 wh wn x y a c d] h fun v ms=>∃ e:By,e.bs=encB k s b q st ds t1 t2 wh wn x y a c d∧e.b∉F.map By.b∧v=.tuple #[uV e.s,.int .i64 0]∧ms=[(i,memC W (e::F))]:=fun X ρ w xs H hxs=>by
 obtain rfl:=qe5 (vs:=[frF k s b q st ds t1 t2 wh wn x y a c d]) rfl hxs
 obtain⟨S,E⟩:=H.ext
 have M:MemOK W F (ρ i) (S i) w:=E.inv i _ hi
 refine .inr ⟨Tryz.call82 _ w,(qyr k s b q st ds t1 t2 wh wn x y a c d hk hs hb hq hst hds ht1 ht2 hwh hwn hx hy ha hc hd hM w (by have:=H.lt _ _ hi;omega)).mono ?_⟩
 rintro e w' ⟨r,hr,rfl,hB,hA⟩
 obtain⟨hA,hge⟩:=hA r (List.mem_singleton.2 rfl)
 obtain⟨h0,hby⟩:=q5o hr hA
 obtain⟨hno,H'⟩:=qpq (e:=⟨r.b,r.c,encB k s b q st ds t1 t2 wh wn x y a c d⟩) H hi hB hby hge
 have e:∀ r2,den2 r2 (uV (some r.sl))=uR (some r.sl):=fun r2=>qkr (some r.sl) r2
 have e2:∀ r2,den r2 (.tuple #[uV (some r.sl),.int .i64 0])=.tuple #[uR (some r.sl),.int .i64 0]:=fun r2=>by
  show Value.tuple (#[uV (some r.sl),.int .i64 0].map (den2 r2))=_
  simp only[List.map_toArray,List.map_cons,List.map_nil,e];rfl
 refine⟨_,rfl,.tuple #[uV (some r.sl),.int .i64 0],_,ρ,⟨⟨r.b,r.c,encB k s b q st ds t1 t2 wh wn x y a c d⟩,rfl,hno,by rw[q5p hr h0],rfl⟩,AgreeOn.refl _ _,H',fun r2 _=>?_⟩
 rw[e2,e2]
open Go Go.RowKit Sx
theorem q24 {ix:List (Nat×Nat)} {h:Hp} {k n:Nat} (hh:h[k]?=some (some ⟨true,n,[(0,n,.agg ⟨segL n (repZ 1 (.bool false))⟩)]⟩)):PostC ix h k (mvP true n (fun _=>false)):=
 ⟨_,hh,id,nlr _,fun j hj=>by
  have hj:j<n:=hj
  rw[qbp hj,qbp hj]
  rw[show repZ 1 (.bool false) j=.bool false from(qiw j).symm]
  exact .plain rfl⟩
theorem q25 (c:Nat→Int) (n cap i j k m:Nat) (P:Nat→Int) (M:Nat→Bool) (tm st:Int) (o2 o3:Bool) (h:Hp) (hi:h[i]?=some (some (wcc true c n cap j k tm st))) (hj:h[j]?=some (some (ptP o2 n P))) (hk:h[k]?=some (some (mvP o3 n M))) (hm:h[m]?=some none) (hij:i≠j) (hik:i≠k) (hn:1≤n∧n≤64) (ht:0≤tm∧tm<750000) :
  qad Tryz.prog 54 [.pointer (some ⟨i,0,some 0⟩)] h (.bool true) [(i,wcc true c n cap j m (tm+1) 0),(m,mvP true n (fun _=>false))] [j,k]:=by
 have e1:IntKind.i64.wrap (tm+1)=tm+1:=i64s _ (by omega) (by omega)
 refine qar (G:=tys) [⟨i,_,wcc true c n cap 1 2 tm st,wcc true c n cap j m (tm+1) 0⟩,⟨j,_,ptP false n P,⟨false,0,[]⟩⟩,⟨k,_,mvP false n M,⟨false,0,[]⟩⟩] [⟨m,7,mvP true n (fun _=>false)⟩] [.pointer (some ⟨0,0,some 0⟩)] tysOK mixed Tryz.func54 (by rfl) (Tryz.call54) ⟨hi,hj,hk,trivial⟩ ⟨⟨fun h=>⟨rfl,nlr _⟩,nlr _,qch rfl rfl⟩,⟨fun h=>(by cases h),nlr _,qa8⟩,⟨fun h=>(by cases h),nlr _,qay⟩,trivial⟩ (by simp[Apart,hij,hik]) ⟨⟨hm,rfl,by show 0<n;omega,by simp⟩,trivial⟩ ⟨.ptr rfl,trivial⟩ ?_
 repeat' (refine N.go ?_;first|with_reducible refine N.forkF ?_|refine MakeN.mk n n rfl rfl (by show 1*n≤_;omega) (by omega) (Nat.mul_one n).symm ?_|refine N.forkNo (by rw[decide_eq_false_iff_not];omega) ?_|refine N.obl (.plain rfl) ?_|refine N.obl ⟨⟨_,rfl,id,nlr _,(by first|(refine lt15 ?_ ?_ ?_ ?_ ?_ ?_ ?_ ?_ ?_ ?_ ?_ ?_ ?_ ?_ ?_<;>first|exact Re1.plain rfl|exact Re1.slice rfl|exact qa1 (by rw[e1]))|fail)⟩,trivial⟩ ?_|refine N.obl ⟨⟨by show 3≤7;decide,q24 (by rfl)⟩,trivial⟩ ?_|exact N.true|fail)
open Go Go.RowKit Sx
theorem App0N.mk1 {cj:Chunk} {g m size bytes:Nat} {z:Value} {slot:Nat} {K:Value→List (Nat×Chunk)→Prop} (v:Value) (hr:Reads cj g true (m*size) v) (h0:0<m) (h1:m≤9223372036854775807) (h2:m*bytes≤140737488355328)
  (k:∀ cap,m≤cap→K (.slice (some ⟨slot,0,some 0⟩) m cap) [(slot,grown ⟨true,0,[]⟩ 0 m size v z cap)]):N (App0N cj g m size bytes z slot K):=N.mk (.inl ⟨v,hr,h0,h1,h2,k⟩)
theorem AppN.mk1 {ci:Chunk} {k s l c:Nat} {cj:Chunk} {g m size bytes:Nat} {z:Value} {slot:Nat} {K:Value→List (Nat×Chunk)→Prop} (v:Value) (hr:Reads cj g true (m*size) v) (hf:flatB v (m*size)=true) (hl:l*size≤ci.n) (h1:l+m≤9223372036854775807) (h2:(l+m)*bytes≤140737488355328)
  (d:Chunk) (hw:l+m≤c→Writes ci (l*size) (m*size) v d) (k1:l+m≤c→K (.slice (some ⟨k,0,some s⟩) (l+m) c) [(k,d)]) (k2:c<l+m→∀ cap,l+m≤cap→K (.slice (some ⟨slot,0,some 0⟩) (l+m) cap) [(slot,grown ci l m size v z cap)]):N (AppN ci k s l c cj g m size bytes z slot K):=
 N.mk ⟨v,hr,hf,hl,h1,h2,fun h=>⟨d,hw h,k1 h⟩,k2⟩
theorem N.callM {P:Program} {g:FuncId} {vs:List Value} {h:Hp} {slot:Nat} {C:List Nat→Prop} {K:List Nat→Value→List (Nat×Chunk)→Prop} (hs:List Nat) (R:Value→List (Nat×Chunk)→Prop) (hC:C hs) (hc:∀ h₂:Hp,(∀ q∈hs,h₂[q]?=h[q]?)→CallAll P g vs h₂ R) (k:∀ v ms,R v ms→(∀ q∈ms.map (·.1),q∈hs)∧K hs v ms):N (CallM P g vs h slot C K):=N.mk ⟨hs,R,hC,hc,k⟩
abbrev airC (o:Bool) (v:Value):Chunk:=⟨o,1,[(0,1,.agg #[v])]⟩
end Go.Proofs.YtdljelmbjdjpjaaGreat


namespace Go.Proofs.YtdljelmbjdjpjaaGreat.Sx
open Go Go.RowKit
def sh2 (l:Nat):Nat:=match l with
 | 0=>0
 | l+1=>l+2
theorem q5q (l:Nat):sh2 l≠1:=by cases l<;>simp[sh2]
theorem qi2 {B:Type} {ok:B→Prop} {h:B→Hp} {i j:Nat} {c d c2 e2 d2:Chunk} (o:B→Hp) (ix:List (Nat×Nat)) (hix:∀ l i,(l,i)∈ix→i=sh2 l) (hn2:e2.n=0) (h1:∀ β,(o β)[1]?=some (some e2))
  (hre:∀ β,ok β→∀ (l:Nat) (dl:Chunk),(h β)[l]?=some (some dl)→∃ d':Chunk,(o β)[sh2 l]?=some (some d')∧d'.n=dl.n∧d'.x=dl.x∧∀ k,k<d'.n→Re1 ix (d'.f k) (dl.f k))
  (hre':∀ β,ok β→∀ (k:Nat) (d':Chunk),(o β)[k]?=some (some d')→k=1∨∃ l,k=sh2 l∧Fil (h β) l):Opens [⟨i,c,packC ok h,d⟩,⟨j,c2,e2,d2⟩] ok o:=fun X ρ w T H=>by
 obtain⟨S,E⟩:=H.ext
 have g0:(partH [⟨i,c,packC ok h,d⟩,⟨j,c2,e2,d2⟩])[0]?=some (some (packC ok h)):=rfl
 have g1:(partH [⟨i,c,packC ok h,d⟩,⟨j,c2,e2,d2⟩])[1]?=some (some e2):=rfl
 have two:∀ (k:Nat) (e:Chunk),(partH [⟨i,c,packC ok h,d⟩,⟨j,c2,e2,d2⟩])[k]?=some (some e)→k=0∨k=1:=fun k e hk=>by
  match k,hk with
  | 0,_=>exact .inl rfl
  | 1,_=>exact .inr rfl
  | k+2,hk=>simp[partH] at hk
 obtain⟨_,β,hβ,ρp,Tp,e0,hf,K⟩:=E.inv 0 _ g0
 have n0:X.n0=2:=T.n0
 let un:Nat→Nat:=fun k=>match k with
  | 0=>0
  | k+1=>k
 have un_sh:∀ l,un (sh2 l)=l:=fun l=>by cases l<;>rfl
 let ρ':Nat→Nat×Nat:=fun k=>if k=1 then ρ 1 else ρp (un k)
 have ρ1:ρ' 1=ρ 1:=if_pos rfl
 have ρs:∀ l,ρ' (sh2 l)=ρp l:=fun l=>by
  show(if sh2 l=1 then ρ 1 else ρp (un (sh2 l)))=_
  rw[if_neg (q5q l),un_sh]
 have ρ0:ρ' 0=ρ 0:=(ρs 0).trans e0
 have fil0:Fil (o β) 0:=by
  obtain⟨dl,hdl⟩:=hf
  obtain⟨d',hd',_⟩:=hre β hβ 0 dl hdl
  exact⟨d',hd'⟩
 have filS:∀ l,Fil (h β) l→Fil (o β) (sh2 l):=fun l ⟨dl,hdl⟩=>by
  obtain⟨d',hd',_⟩:=hre β hβ l dl hdl
  exact⟨d',hd'⟩
 have old:∀ (k:Nat) (d':Chunk),(o β)[k]?=some (some d')→k≠1→∃ (l:Nat) (dl:Chunk),k=sh2 l∧(h β)[l]?=some (some dl)∧d'.n=dl.n∧d'.x=dl.x∧∀ q,q<d'.n→Re1 ix (d'.f q) (dl.f q):=fun k d' hk hne=>by
  rcases hre' β hβ k d' hk with rfl|⟨l,rfl,dl,hdl⟩
  ·exact absurd rfl hne
  ·obtain⟨d2,hd2,r1,r2,r3⟩:=hre β hβ l dl hdl
   rw[hk] at hd2
   obtain rfl:d'=d2:=by simpa using hd2
   exact⟨l,dl,rfl,hdl,r1,r2,r3⟩
 refine⟨β,hβ,ρ',fun k hk=>?_,fun k hk=>?_,?_⟩
 ·obtain⟨e,he⟩:=hk
  rcases two k e he with rfl|rfl
  ·exact ρ0
  ·exact ρ1
 ·obtain⟨e,he⟩:=hk
  rcases two k e he with rfl|rfl
  ·exact fil0
  ·exact⟨_,h1 β⟩
 ·refine H.redo (T:=fun k b=>Tp (un k) b) E (fun k=>k=0) (fun k=>k≠1) (S 0) (fun b hb=>⟨0,_,rfl,g0,.inr hb⟩) (fun b hb=>(E.mine 0 _ b g0 hb).2.2) (fun k hk=>?_) (fun k e hk hA=>?_) (fun k e hk hA=>?_) (fun k e l f hk hA hl hB hne=>?_)
  ·rw[n0] at hk
   have:k=0∨k=1:=by omega
   rcases this with rfl|rfl
   ·exact⟨fil0,ρ0⟩
   ·exact⟨⟨_,h1 β⟩,ρ1⟩
  ·obtain rfl:k=1:=Decidable.not_not.1 hA
   rw[h1 β] at hk
   obtain rfl:e2=e:=by simpa using hk
   exact⟨by decide,ρ1,g1,fun q hq=>by rw[hn2] at hq;exact absurd hq (Nat.not_lt_zero q)⟩
  ·obtain⟨l,dl,rfl,hdl,r1,r2,r3⟩:=old k e hk hA
   have hu:=un_sh l
   refine⟨by rw[ρs];exact K.blk l dl hdl,fun q hq=>?_,fun _ q hq=>by rw[ρs];exact K.own l dl hdl q (by omega),?_,fun b hb=>?_⟩
   ·obtain⟨x,hx,hxd⟩:=K.cell l dl hdl q (by omega)
    rw[ρs]
    refine⟨x,hx,fun r hr=>?_⟩
    rw[(r3 q hq).den (r:=r) (r':=fun k=>r (sh2 k)) (fun a b hab=>by rw[hix a b hab])]
    exact hxd (fun k=>r (sh2 k)) fun k hk=>(hr _ (filS k hk)).trans (ρs k)
   ·rw[r2,ρs]
    have:(fun b=>Tp (un (sh2 l)) b)=Tp l:=by rw[hu]
    rw[this];exact K.inv l dl hdl
   ·rw[hu] at hb
    obtain⟨q1,q2⟩:=K.foot l dl b hdl hb
    exact⟨q1,by rw[r1,ρs];exact q2⟩
  ·obtain⟨a,da,rfl,hda,_⟩:=old k e hk hA
   obtain⟨b,db,rfl,hdb,_⟩:=old l f hl hB
   have hab:a≠b:=fun e=>hne (by rw[e])
   obtain⟨q1,q2⟩:=K.sep a da b db hda hdb hab
   exact⟨fun _=>by rw[ρs,ρs];exact q1,fun x hx=>by rw[un_sh] at hx ⊢;rw[ρs];exact q2 x hx⟩
end Go.Proofs.YtdljelmbjdjpjaaGreat.Sx


namespace Go.Proofs.YtdljelmbjdjpjaaGreat
open Go Go.RowKit Sx
theorem N.bnd {lo hi:Option Value} {len cap:Nat} {K:Nat→Nat→Nat→Prop} (p q s:Nat) (hq:Bnd hi len cap q) (hp:Bnd lo 0 q p) (k:K p q s):N (BndN lo hi len cap K):=N.mk ⟨p,q,s,hq,hp,k⟩
theorem N.bnd3 {lo:Option Value} {hi b:Value} {cap:Nat} {K:Nat→Nat→Nat→Nat→Prop} (p q m s:Nat) (hm:Bnd (some b) 0 cap m) (hq:Bnd (some hi) 0 m q) (hp:Bnd lo 0 q p) (k:K p q m s):N (Bnd3N lo hi b cap K):=N.mk ⟨p,q,m,s,hm,hq,hp,k⟩
theorem N.clr {ci:Chunk} {f l size:Nat} {z:Value} {K:Chunk→Prop} (d:Chunk) (h0:0<l) (hw:Writes ci f (l*size) (.agg ⟨segL (l*size) (repZ size z)⟩) d) (k:K d):N (ClrN ci f l size z K):=N.mk ⟨d,h0,hw,k⟩
structure Ml where
 to_:Int
 u:Option Sl
 at_:Int
 tr:Int
 be:Bool
abbrev Ml.v (m:Ml):Value:=mailV m.to_ m.u m.at_ m.tr m.be
abbrev Ml.z:Ml:=⟨0,none,0,0,false⟩
def mlc (m:Ml):Nat→Value
 | 0=>.int .i64 m.to_
 | 1=>uV m.u
 | 2=>.int .i64 m.at_
 | 3=>.int .i64 m.tr
 | 4=>.bool m.be
 | _=>.int .i64 0
theorem qvk (m:Ml) (k:Nat) {ix:List (Nat×Nat)}:Re1 ix (mlc m k) (mlc m k):=by unfold mlc;split<;>first|exact .plain rfl|exact qtl _
theorem qvl (m:Ml) (k:Nat):(mlc m k).oneCell'=true:=by unfold mlc;split<;>first|rfl|exact q3w _
theorem qvm (m:Ml) {k:Nat} (h:k<5):cellIn m.v k=mlc m k:=by
 match k,h with
 | 0,_=>rfl
 | 1,_=>rfl
 | 2,_=>rfl
 | 3,_=>rfl
 | 4,_=>rfl
def Eqv (v v':Value):Prop:=∀ r r',den1 r v=den1 r' v'
theorem qi3 (m:Ml) (k:Nat):Eqv (mlc m k) (mlc m k):=fun r r'=>by
 have:=(qvk m k (ix:=[])).den (r:=r) (r':=r') (fun a b h=>by cases h)
 exact this
theorem qcx {v:Value} {m:Ml} {k:Nat} (h:v=mlc m k):Eqv v (mlc m k):=by subst h;exact qi3 m k
theorem qqn (j:Nat):Eqv (repZ 5 (.agg #[.int .i64 0,.slice none 0 0,.int .i64 0,.int .i64 0,.bool false]) j) (mlc Ml.z (j%5)):=by
 unfold repZ
 have h:j%5<5:=Nat.mod_lt _ (by decide)
 generalize j%5=k at h
 match k,h with
 | 0,_=>exact qi3 Ml.z 0
 | 1,_=>exact fun r r'=>rfl
 | 2,_=>exact qi3 Ml.z 2
 | 3,_=>exact qi3 Ml.z 3
 | 4,_=>exact qi3 Ml.z 4
abbrev mlA (o:Bool) (c:Nat) (T:Nat→Ml):Chunk:=⟨o,c*5,[(0,c*5,.agg ⟨segL (c*5) (fun j=>mlc (T (j / 5)) (j%5))⟩)]⟩
theorem qqo {ix:List (Nat×Nat)} {o o':Bool} {c:Nat} {T:Nat→Ml}:∀ j,j<c*5→Re1 ix ((mlA o c T).f j) ((mlA o' c T).f j):=fun j hj=>by
 rw[qaq hj,qaq hj];exact qvk _ _
theorem q01 {o:Bool} {c p n:Nat} {T:Nat→Ml} (i:Nat) (hn:n=5) (h:i<c) (e:p=i*5):Reads (mlA o c T) p true n (T i).v:=by
 subst e hn
 refine⟨by show i*5+5≤c*5;omega,_,rfl,rfl,fun j hj=>?_⟩
 rw[qaq (by omega),show(i*5+j) / 5=i from by omega,show(i*5+j)%5=j from by omega]
 exact(qvm _ hj).symm
theorem q5r {o:Bool} {c p n:Nat} {T:Nat→Ml} (i k:Nat) (hk:k<5) (h:i<c) (e:p=i*5+k):Reads (mlA o c T) p false n (mlc (T i) k):=by
 subst e
 refine⟨by show i*5+k<c*5;omega,qvl _ _,?_⟩
 rw[qaq (by omega),show(i*5+k) / 5=i from by omega,show(i*5+k)%5=k from by omega]
def setM1 (T:Nat→Ml) (l:Nat) (x:Ml) (i:Nat):Ml:=if i=l then x else T i
theorem q5s {c l p n:Nat} {T:Nat→Ml} {x:Ml} (hn:n=5) (h:l<c) (e:p=l*5):Writes (mlA true c T) p n x.v (mlA true c (setM1 T l x)):=by
 subst e hn
 refine⟨rfl,by show l*5+5≤c*5;omega,rfl,fun j hj=>?_⟩
 have hj:j<c*5:=hj
 rw[qaq hj,qaq hj]
 unfold setM1
 by_cases e:l*5≤j∧j<l*5+5
 ·rw[if_pos e,if_pos (by omega),qvm _ (by omega)]
  congr 1;omega
 ·rw[if_neg e,if_neg (by omega)]
abbrev Ml.bent (m:Ml):Ml:=⟨m.to_,m.u,m.at_,m.tr,true⟩
theorem qyt {c l p n:Nat} {T:Nat→Ml} (hn:n=1) (h:l<c) (e:p=l*5+4):Writes (mlA true c T) p n (.bool true) (mlA true c (setM1 T l (T l).bent)):=by
 subst e hn
 refine⟨rfl,by show l*5+4+1≤c*5;omega,rfl,fun j hj=>?_⟩
 have hj:j<c*5:=hj
 rw[qaq hj,qaq hj]
 unfold setM1
 by_cases e:l*5+4≤j∧j<l*5+4+1
 ·rw[if_pos e,if_pos (by omega),show j%5=4 from by omega];rfl
 ·rw[if_neg e]
  by_cases e2:j / 5=l
  ·rw[if_pos e2,e2]
   have h4:j%5<4:=by omega
   generalize j%5=k at h4
   match k,h4 with
   | 0,_=>rfl
   | 1,_=>rfl
   | 2,_=>rfl
   | 3,_=>rfl
  ·rw[if_neg e2]
def growM (T:Nat→Ml) (l:Nat) (x:Ml) (i:Nat):Ml:=if i<l then T i else if i=l then x else Ml.z
theorem qna {ci:Chunk} {l cap:Nat} {T:Nat→Ml} {x:Ml} {z:Value} (hz:z=.agg #[.int .i64 0,.slice none 0 0,.int .i64 0,.int .i64 0,.bool false]) (h:l<cap) (hc:∀ j,j<l*5→ci.f j=mlc (T (j / 5)) (j%5)) {j:Nat} (hj:j<cap*5):Eqv ((grown ci l 1 5 x.v z cap).f j) (mlc (growM T l x (j / 5)) (j%5)):=by
 subst hz
 unfold growM
 by_cases h1:j<l*5
 ·rw[qeo h1,if_pos (by omega)];exact qcx (hc j h1)
 ·rw[if_neg (by omega)]
  by_cases h2:j<(l+1)*5
  ·have:=qep (ci:=ci) (l:=l) (m:=1) (size:=5) (cap:=cap) (v:=x.v) (z:=.agg #[.int .i64 0,.slice none 0 0,.int .i64 0,.int .i64 0,.bool false]) (j:=j-l*5) (by omega)
   rw[show l*5+(j-l*5)=j from by omega] at this
   rw[this,if_pos (by omega),qvm _ (by omega)]
   refine qcx ?_
   congr 1;omega
  ·rw[qd4 (by omega) hj,if_neg (by omega)];exact qqn j
def airOK (L:List Ml):Option (Nat×(Nat→Ml))→Prop
 | none=>L=[]
 | some (c,T)=>1≤c∧L.length≤c∧∀ i m,L[i]?=some m→T i=m
abbrev airH (L:List Ml) (β:Option (Nat×(Nat→Ml))):Hp:=match β with
 | none=>[some (airC true (.slice none 0 0)),none]
 | some (c,T)=>[some (airC true (.slice (some ⟨1,0,some 0⟩) L.length c)),some (mlA true c T)]
abbrev airP (L:List Ml):Chunk:=packC (airOK L) (airH L)
theorem qft (L:List Ml):(airP L).x≠Ext.none:=fun e=>by
 have h1:∀ p S w,(airP L).x.inv p S w→S p.1:=qah
 rw[e] at h1
 exact(h1 (0,0) (fun _=>False) default fun _ h=>h).elim
abbrev airO (W:World) (F:List By) (L:List Ml) (β:Option (Nat×(Nat→Ml))):Hp:=match β with
 | none=>[some (airC true (.slice none 0 0)),some (memC W F),none]
 | some (c,T)=>[some (airC true (.slice (some ⟨2,0,some 0⟩) L.length c)),some (memC W F),some (mlA true c T)]
theorem qfe {i j:Nat} {c d c2 d2:Chunk} {W:World} {F:List By} {L:List Ml}:Opens [⟨i,c,airP L,d⟩,⟨j,c2,memC W F,d2⟩] (airOK L) (airO W F L):=by
 refine qi2 (airO W F L) [(0,0),(1,2)] (fun l i hm=>?_) rfl (fun β=>?_) (fun β hβ l dl hl=>?_) (fun β hβ k d' hk=>?_)
 ·simp only[List.mem_cons,Prod.mk.injEq,List.not_mem_nil,or_false] at hm
  rcases hm with ⟨rfl,rfl⟩|⟨rfl,rfl⟩<;>rfl
 ·cases β<;>rfl
 ·cases β with
  | none=>
   match l,hl with
   | 0,hl=>
    obtain rfl:_=dl:=by simpa using hl
    exact⟨_,rfl,rfl,rfl,fun k hk=>by
     match k,hk with
     | 0,_=>exact .plain rfl⟩
   | 1,hl=>simp at hl
   | l+2,hl=>simp at hl
  | some q=>
   obtain⟨cc,T⟩:=q
   match l,hl with
   | 0,hl=>
    obtain rfl:_=dl:=by simpa using hl
    exact⟨_,rfl,rfl,rfl,fun k hk=>by
     match k,hk with
     | 0,_=>exact .slice rfl⟩
   | 1,hl=>
    obtain rfl:_=dl:=by simpa using hl
    exact⟨_,rfl,rfl,rfl,qqo⟩
   | l+2,hl=>simp at hl
 ·cases β with
  | none=>
   match k,hk with
   | 0,_=>exact .inr ⟨0,rfl,_,rfl⟩
   | 1,_=>exact .inl rfl
   | 2,hk=>simp at hk
   | k+3,hk=>simp at hk
  | some q=>
   match k,hk with
   | 0,_=>exact .inr ⟨0,rfl,_,rfl⟩
   | 1,_=>exact .inl rfl
   | 2,_=>exact .inr ⟨1,rfl,_,rfl⟩
   | k+3,hk=>simp at hk
theorem safeM {h:Hp} {W:World} {F:List By} {h':Hp} (h1:h[1]?=some (some (memC W F))):∀ k∈[1],∀ (d:Chunk),h[k]?=some (some d)→∀ j,j<d.n→Safe1 h' (d.f j):=fun k hk d hd j hj=>by
 obtain rfl:=List.mem_singleton.1 hk
 rw[h1] at hd
 obtain rfl:memC W F=d:=by simpa using hd
 exact absurd hj (Nat.not_lt_zero j)
theorem qbx {ss:List Piece} {h:Hp} {v:Value} {K:Value→Hp→Prop} (m:Nat) (keep:List Nat) (L:List Ml) (k c:Nat) (T:Nat→Ml) {a b:Chunk} (hbs:∀ i,i<ss.length→i=m∨i∈keep) (hpc:∀ l,(l=m∨l=k)→l<ss.length→∃ s,ss[l]?=some s∧s.e.x≠Ext.none∧Selfish s.e.x)
  (hc:1≤c) (hl:L.length≤c) (hT:∀ i m,L[i]?=some m→T i=m) (h0:h[m]?=some (some a)) (ha:a.own=true) (hn:1≤a.n) (haf:a.f 0=.slice (some ⟨k,0,some 0⟩) L.length c) (hk:h[k]?=some (some b)) (hkm:m≠k) (hb:b.own=true) (hbn:c*5≤b.n) (hbf:∀ j,j<c*5→Eqv (b.f j) (mlc (T (j / 5)) (j%5)))
  (hkk:∀ x∈keep,x≠m∧x≠k) (hkd:∀ x∈keep,∀ (d:Chunk),h[x]?=some (some d)→∀ j,j<d.n→Safe1 (qa7 (airP L) m keep h 0) (d.f j))
  (hv:∀ ρ ρ',AgreeOn (Fil (qa7 (airP L) m keep h 0)) ρ ρ'→den ρ' v=den ρ v) (kk:K v (qa7 (airP L) m keep h 0)):N (EndN ss h v K):=by
 refine qhc (ok:=airOK L) (hB:=airH L) (some (c,T)) m [(0,m),(1,k)] keep (fun l i hm hi=>hpc i ?_ hi) hbs ⟨hc,hl,hT⟩ rfl ⟨_,rfl⟩ ?_ rfl ?_ (fun x hx l i hm=>?_) hkd hv (List.getElem?_eq_some_iff.1 h0).1 kk
 ·simp only[List.mem_cons,Prod.mk.injEq,List.not_mem_nil,or_false] at hm
  omega
 ·have e2:Nat.beq k m=false:=by
   cases e:Nat.beq k m with
   | false=>rfl
   | true=>exact absurd (Nat.eq_of_beq_eq_true e).symm hkm
  have e1:Nat.beq 1 0=false:=rfl
  simp[ixOne,e1,e2]
 ·intro l d hd
  match l,hd with
  | 0,hd=>
   obtain rfl:_=d:=by simpa using hd
   refine⟨m,a,rfl,h0,ha,hn,fun j hj=>?_,.inl rfl,.inl (by omega)⟩
   match j,hj with
   | 0,_=>rw[haf];exact .slice rfl
  | 1,hd=>
   obtain rfl:_=d:=by simpa using hd
   refine⟨k,b,rfl,hk,hb,hbn,fun j hj=>?_,.inl rfl,.inl (by omega)⟩
   have hj:j<c*5:=hj
   rw[qaq hj];exact .any (hbf j hj)
  | l+2,hd=>simp at hd
 ·have:=hkk x hx
  simp only[List.mem_cons,Prod.mk.injEq,List.not_mem_nil,or_false] at hm
  omega
theorem qc7 {ss:List Piece} {h:Hp} {v:Value} {K:Value→Hp→Prop} (m:Nat) (keep:List Nat) {a:Chunk} (hbs:∀ i,i<ss.length→i=m∨i∈keep) (hpc:m<ss.length→∃ s,ss[m]?=some s∧s.e.x≠Ext.none∧Selfish s.e.x)
  (h0:h[m]?=some (some a)) (ha:a.own=true) (hn:1≤a.n) (haf:a.f 0=.slice none 0 0)
  (hkk:∀ x∈keep,x≠m) (hkd:∀ x∈keep,∀ (d:Chunk),h[x]?=some (some d)→∀ j,j<d.n→Safe1 (qa7 (airP []) m keep h 0) (d.f j))
  (hv:∀ ρ ρ',AgreeOn (Fil (qa7 (airP []) m keep h 0)) ρ ρ'→den ρ' v=den ρ v) (kk:K v (qa7 (airP []) m keep h 0)):N (EndN ss h v K):=by
 refine qhc (ok:=airOK []) (hB:=airH []) none m [(0,m)] keep (fun l i hm hi=>?_) hbs rfl rfl ⟨_,rfl⟩ rfl rfl ?_ (fun x hx l i hm=>?_) hkd hv (List.getElem?_eq_some_iff.1 h0).1 kk
 ·simp only[List.mem_cons,Prod.mk.injEq,List.not_mem_nil,or_false] at hm
  obtain⟨_,rfl⟩:=hm
  exact hpc hi
 ·intro l d hd
  match l,hd with
  | 0,hd=>
   obtain rfl:_=d:=by simpa using hd
   refine⟨m,a,rfl,h0,ha,hn,fun j hj=>?_,.inl rfl,.inl (by omega)⟩
   match j,hj with
   | 0,_=>rw[haf];exact .plain rfl
  | 1,hd=>simp at hd
  | l+2,hd=>simp at hd
 ·have:=hkk x hx
  simp only[List.mem_cons,Prod.mk.injEq,List.not_mem_nil,or_false] at hm
  omega
theorem q5t {ss:List Piece} (hss:ss.length=2):∀ i,i<ss.length→i=0∨i∈[1]:=fun i hi=>by
 rw[hss] at hi
 have:i=0∨i=1:=by omega
 rcases this with rfl|rfl
 ·exact .inl rfl
 ·exact .inr (List.mem_singleton.2 rfl)
theorem qff {ss:List Piece} {h:Hp} {v:Value} {K:Value→Hp→Prop} {W:World} {F:List By} (L:List Ml) (k c:Nat) (T:Nat→Ml) {a b:Chunk} (hss:ss.length=2) (hpc:∀ l,l<1→∃ s,ss[l]?=some s∧s.e.x≠Ext.none∧Selfish s.e.x)
  (hc:1≤c) (hl:L.length≤c) (hT:∀ i m,L[i]?=some m→T i=m) (h0:h[0]?=some (some a)) (ha:a.own=true) (hn:1≤a.n) (haf:a.f 0=.slice (some ⟨k,0,some 0⟩) L.length c) (h1:h[1]?=some (some (memC W F))) (hk:h[k]?=some (some b)) (hk2:2≤k) (hb:b.own=true) (hbn:c*5≤b.n) (hbf:∀ j,j<c*5→Eqv (b.f j) (mlc (T (j / 5)) (j%5)))
  (hv:∀ ρ ρ',AgreeOn (Fil (qa7 (airP L) 0 [1] h 0)) ρ ρ'→den ρ' v=den ρ v) (kk:K v (qa7 (airP L) 0 [1] h 0)):N (EndN ss h v K):=
 qbx 0 [1] L k c T (q5t hss) (fun l _ hl=>hpc l (by omega)) hc hl hT h0 ha hn haf hk (by omega) hb hbn hbf (fun x hx=>by obtain rfl:=List.mem_singleton.1 hx;omega) (safeM h1) hv kk
theorem CallAll.to {P:Program} {g:FuncId} {vs:List Value} {h:Hp} {R R':Value→List (Nat×Chunk)→Prop} (k:CallAll P g vs h R) (hR:∀ v ms,R v ms→R' v ms):CallAll P g vs h R':=by
 intro X ρ w xs H hx
 rcases k X ρ w xs H hx with ⟨v,w',hr,u,ms,ρ',hq,ha⟩|⟨hr,hcl⟩
 ·exact .inl ⟨v,w',hr,_,_,ρ',hR _ _ hq,ha⟩
 ·refine .inr ⟨hr,hcl.mono ?_⟩
  rintro e w' ⟨y,he,u,ms,ρ',hq,ha⟩
  exact⟨y,he,_,_,ρ',hR _ _ hq,ha⟩
theorem qqp (T:Nat→Ml) (l:Nat) (x:Ml):setM1 T l x l=x:=if_pos rfl
theorem qqq {T:Nat→Ml} {l i:Nat} {x:Ml} (h:i≠l):setM1 T l x i=T i:=if_neg h
theorem qyu {T:Nat→Ml} {l i:Nat} {x:Ml} (h:i<l):growM T l x i=T i:=if_pos h
theorem Sx.Src.len {W:World} {F:List By} {u:Option Sl} {bs:List Int} (h:Src W F u bs):bs.length=uN u:=by
 cases h with
 | nil=>rfl
 | own he=>rfl
 | old hn hc=>exact hn
theorem qj1 {i j:Nat} {c d c2 d2:Chunk} {W:World} {F:List By} {L:List Ml}:∀ l,l<1→∃ s,[(⟨i,c,airP L,d⟩:Piece),⟨j,c2,memC W F,d2⟩][l]?=some s∧s.e.x≠Ext.none∧Selfish s.e.x:=fun l hl=>by
 match l,hl with
 | 0,_=>exact⟨_,rfl,qft L,qah⟩
theorem qop {L:List Ml} {x:Ml} {T:Nat→Ml} (hT:∀ i m,L[i]?=some m→T i=m) (hx:T L.length=x):∀ i m,(L++[x])[i]?=some m→T i=m:=fun i m hm=>by
 by_cases h:i<L.length
 ·rw[List.getElem?_append_left h] at hm;exact hT i m hm
 ·rw[List.getElem?_append_right (by omega)] at hm
  have:i-L.length=0:=by
   have:=(List.getElem?_eq_some_iff.1 hm).1
   simp at this;omega
  rw[this] at hm
  have e:i=L.length:=by omega
  subst e
  rw[hx];simpa using hm
theorem cPutM (W:World) (F:List By) (L:List Ml) (to_ at_ tr:Int) (be:Bool) (u:Option Sl) (bs:List Int) (i j:Nat) (hij:i≠j) (h:Hp) (hi:h[i]?=some (some (airP L))) (hj:h[j]?=some (some (memC W F))) (hs:Src W F u bs) (hb:bs.length≤1000) (hl:L.length<512) :
  CallAll Tryz.prog 84 [.pointer (some ⟨i,0,some 0⟩),mailV to_ u at_ tr be] h (fun v ms=>∃ u' F',Made F bs u' F'∧v=.bool true∧ms=[(i,airP (L++[⟨to_,u',at_,tr,be⟩])),(j,memC W F')]):=by
 refine CallAll.to (qaj (G:=tys) (h:=h) (vs:=[.pointer (some ⟨i,0,some 0⟩),mailV to_ u at_ tr be]) (airOK L) (airO W F L) (α:=Option Sl×List By) (fun κ=>Made F bs κ.1 κ.2) (fun κ=>.bool true) [⟨i,airP L,airP L,airP L⟩,⟨j,memC W F,memC W F,memC W F⟩] (fun κ=>[airP (L++[⟨to_,κ.1,at_,tr,be⟩]),memC W (κ.2)]) (fun κ=>[]) [.pointer (some ⟨0,0,some 0⟩),mailV to_ u at_ tr be] tysOK mixed Tryz.func84 (by rfl) (Tryz.call84) ⟨hi,hj,trivial⟩ ⟨⟨fun h=>⟨rfl,nlr _⟩,nlr _,nzj⟩,⟨fun h=>⟨rfl,nlr _⟩,nlr _,nzj⟩,trivial⟩ (fun κ _=>⟨⟨fun h=>⟨rfl,nlr _⟩,nlr _,nzj⟩,⟨fun h=>⟨rfl,nlr _⟩,nlr _,nzj⟩,trivial⟩) (by simp[Apart,hij]) ⟨.inr ⟨rfl,rfl⟩,.inr ⟨rfl,rfl⟩,trivial⟩ (fun κ _=>trivial) ⟨.ptr rfl,qgn _ _ _ _ _,trivial⟩ qfe ?_) ?_
 rotate_left
 ·rintro v ms ⟨κ,hκ,rfl,rfl⟩
  exact⟨κ.1,κ.2,hκ,rfl,rfl⟩
 intro β hβ
 have hlen:=hs.len
 cases β with
 | none=>
  obtain rfl:L=[]:=hβ
  repeat' (refine N.go ?_;first|with_reducible (first|refine N.obl rfl ?_|refine N.forkF ?_)|refine N.forkNo (by decide) ?_|refine N.forkNo (by rw[decide_eq_false_iff_not];omega) ?_|refine N.op (qed rfl rfl ⟨_,rfl,_,Tryz.underlying39⟩) ?_|fail)
  refine N.go ?_
  refine N.plan [0,1,2,3,4,5,9,10] [(6,[7]),(8,[11])] (by kernel_rfl) ?_
  repeat' (refine N.go ?_;first|with_reducible refine N.obl rfl ?_|fail)
  refine N.go ?_
  refine N.callM [1] _ (by kernel_rfl) (fun h₂ hh=>cOwnM W F _ bs hs (by omega) to_ at_ tr be 1 h₂ ((hh 1 (by simp)).trans rfl)) fun v ms hR=>?_
  obtain⟨u',F',hM,rfl,rfl⟩:=hR
  refine⟨by simp,?_⟩
  skip
  refine N.go ?_
  refine N.obl (by show midB _ _ _ _=Bool.true;kernel_rfl) ?_
  refine N.go ?_
  refine App0N.mk1 (Ml.v (Ml.mk to_ (u') at_ tr be)) ⟨nlr _,_,rfl,rfl,fun j hj=>by
   match j,hj with
   | 0,_=>rfl
   | 1,_=>rfl
   | 2,_=>rfl
   | 3,_=>rfl
   | 4,_=>rfl⟩ (by decide) (by decide) (by decide) fun c hc=>?_
  repeat' (refine N.go ?_;first|refine N.obl (by show endB _ _=Bool.true;kernel_rfl) ?_|fail)
  refine N.go ?_
  refine qff ([]++[(Ml.mk to_ (u') at_ tr be)]) 9 c (growM (fun _=>Ml.z) 0 (Ml.mk to_ (u') at_ tr be)) rfl qj1 hc (by simpa using hc) (qop (fun i m hm=>by simp at hm) rfl) (by rfl) rfl (nlr _) rfl (by rfl) (by rfl) (by decide) rfl (nlr _) (fun j hj=>qna rfl hc (fun j hj=>absurd hj (by omega)) hj) (fun ρ ρ' _=>rfl) ?_
  refine N.some (u',F') ⟨hM,?_⟩
  refine N.obl (.plain rfl) ?_
  refine N.obl ⟨⟨_,rfl,fun h=>h,nlr _,nzj⟩,⟨_,rfl,fun h=>h,nlr _,nzj⟩,trivial⟩ ?_
  refine N.obl trivial ?_
  refine N.obl ⟨⟨.inr ⟨_,rfl,rfl⟩,.inr ⟨_,rfl,rfl⟩,trivial⟩,trivial⟩ ?_
  exact N.true
 | some q=>
  obtain⟨c,T⟩:=q
  obtain⟨hc1,hlc,hT⟩:=hβ
  repeat' (refine N.go ?_;first|with_reducible (first|refine N.obl rfl ?_|refine N.forkF ?_)|refine N.forkNo (by rw[decide_eq_false_iff_not];omega) ?_|refine N.op (qed rfl rfl ⟨_,rfl,_,Tryz.underlying39⟩) ?_|fail)
  refine N.go ?_
  refine N.plan [0,1,2,3,4,5,9,10] [(6,[7]),(8,[11])] (by kernel_rfl) ?_
  repeat' (refine N.go ?_;first|with_reducible refine N.obl rfl ?_|fail)
  refine N.go ?_
  refine N.callM [1] _ (by kernel_rfl) (fun h₂ hh=>cOwnM W F _ bs hs (by omega) to_ at_ tr be 1 h₂ ((hh 1 (by simp)).trans rfl)) fun v ms hR=>?_
  obtain⟨u',F',hM,rfl,rfl⟩:=hR
  refine⟨by simp,?_⟩
  skip
  refine N.go ?_
  refine N.obl (by show midB _ _ _ _=Bool.true;kernel_rfl) ?_
  refine N.go ?_
  refine AppN.mk1 (Ml.v (Ml.mk to_ (u') at_ tr be)) ⟨nlr _,_,rfl,rfl,fun j hj=>by
   match j,hj with
   | 0,_=>rfl
   | 1,_=>rfl
   | 2,_=>rfl
   | 3,_=>rfl
   | 4,_=>rfl⟩ (by rfl) (by show L.length*5≤c*5;omega) (by omega) (by show(L.length+1)*56≤_;omega) (mlA true c (setM1 T L.length (Ml.mk to_ (u') at_ tr be))) (fun h=>q5s rfl (by omega) rfl) (fun hr=>?_) (fun hg cap hcap=>?_)
  ·repeat' (refine N.go ?_;first|refine N.obl (by show endB _ _=Bool.true;kernel_rfl) ?_|fail)
   refine N.go ?_
   refine qff (L++[(Ml.mk to_ (u') at_ tr be)]) 2 c (setM1 T L.length (Ml.mk to_ (u') at_ tr be)) rfl qj1 hc1 (by rw[List.length_append];exact hr) (qop (fun i m hm=>by have:=(List.getElem?_eq_some_iff.1 hm).1;rw[←hT i m hm];exact qqq (by omega)) (qqp _ _ _)) (by rfl) rfl (nlr _) (by rw[List.length_append];rfl) (by rfl) (by rfl) (by decide) rfl (nlr _) (fun j hj=>qcx (qaq hj)) (fun ρ ρ' _=>rfl) ?_
   refine N.some (u',F') ⟨hM,?_⟩
   refine N.obl (.plain rfl) ?_
   refine N.obl ⟨⟨_,rfl,fun h=>h,nlr _,nzj⟩,⟨_,rfl,fun h=>h,nlr _,nzj⟩,trivial⟩ ?_
   refine N.obl trivial ?_
   refine N.obl ⟨⟨.inr ⟨_,rfl,rfl⟩,.inr ⟨_,rfl,rfl⟩,trivial⟩,trivial⟩ ?_
   exact N.true
  ·repeat' (refine N.go ?_;first|refine N.obl (by show endB _ _=Bool.true;kernel_rfl) ?_|fail)
   refine N.go ?_
   refine qff (L++[(Ml.mk to_ (u') at_ tr be)]) 9 cap (growM T L.length (Ml.mk to_ (u') at_ tr be)) rfl qj1 (by omega) (by rw[List.length_append];exact hcap) (qop (fun i m hm=>by have:=(List.getElem?_eq_some_iff.1 hm).1;rw[←hT i m hm];exact qyu (by omega)) (by unfold growM;rw[if_neg (Nat.lt_irrefl _),if_pos rfl])) (by rfl) rfl (nlr _) (by rw[List.length_append];rfl) (by rfl) (by rfl) (by decide) rfl (nlr _) (fun j hj=>qna rfl hcap (fun j hj=>qaq (by omega)) hj) (fun ρ ρ' _=>rfl) ?_
   refine N.some (u',F') ⟨hM,?_⟩
   refine N.obl (.plain rfl) ?_
   refine N.obl ⟨⟨_,rfl,fun h=>h,nlr _,nzj⟩,⟨_,rfl,fun h=>h,nlr _,nzj⟩,trivial⟩ ?_
   refine N.obl trivial ?_
   refine N.obl ⟨⟨.inr ⟨_,rfl,rfl⟩,.inr ⟨_,rfl,rfl⟩,trivial⟩,trivial⟩ ?_
   exact N.true
open Go Go.RowKit Sx
theorem qdl {s:Piece}:∀ i,i<[s].length→i=0∨i∈([]:List Nat):=fun i hi=>.inl (by simpa using hi)
theorem qfn {i k:Nat} {c d:Chunk} {L:List Ml}:∀ l,(l=0∨l=k)→l<[(⟨i,c,airP L,d⟩:Piece)].length→∃ s,[(⟨i,c,airP L,d⟩:Piece)][l]?=some s∧s.e.x≠Ext.none∧Selfish s.e.x:=fun l _ hl=>by
 obtain rfl:l=0:=by simpa using hl
 exact⟨_,rfl,qft L,qah⟩
abbrev nC:Chunk:=⟨false,0,[]⟩
theorem cLenN (o:Bool) (i:Nat) (h:Hp) (hi:h[i]?=some (some (airC o (.slice none 0 0)))):qad Tryz.prog 35 [.pointer (some ⟨i,0,some 0⟩)] h (.int .i64 0) [] [i]:=by
 refine qar (G:=tys) [⟨i,_,airC false (.slice none 0 0),nC⟩] [] [.pointer (some ⟨0,0,some 0⟩)] tysOK mixed Tryz.func35 (by rfl) (Tryz.call35) ⟨hi,trivial⟩ ⟨⟨fun h=>(by cases h),nlr _,fun j hj=>by
  match j,hj with
  | 0,_=>exact .plain rfl⟩,trivial⟩ (by simp[Apart]) trivial ⟨.ptr rfl,trivial⟩ ?_
 repeat' (refine N.go ?_;first|with_reducible refine N.forkF ?_|refine N.obl (.plain rfl) ?_|refine N.obl trivial ?_|exact N.true|fail)
theorem cLenS (o:Bool) (k n c i:Nat) (h:Hp) {b:Chunk} (hi:h[i]?=some (some (airC o (.slice (some ⟨k,0,some 0⟩) n c)))) (hk:h[k]?=some (some b)) (hik:i≠k):qad Tryz.prog 35 [.pointer (some ⟨i,0,some 0⟩)] h (.int .i64 (n:Nat)) [] [i,k]:=by
 refine qar (G:=tys) [⟨i,_,airC false (.slice (some ⟨1,0,some 0⟩) n c),nC⟩,⟨k,b,nC,nC⟩] [] [.pointer (some ⟨0,0,some 0⟩)] tysOK mixed Tryz.func35 (by rfl) (Tryz.call35) ⟨hi,hk,trivial⟩ ⟨⟨fun h=>(by cases h),nlr _,fun j hj=>by
  match j,hj with
  | 0,_=>exact .slice rfl⟩,⟨fun h=>(by cases h),Nat.zero_le _,nzj⟩,trivial⟩ (by simp[Apart,hik]) trivial ⟨.ptr rfl,trivial⟩ ?_
 repeat' (refine N.go ?_;first|with_reducible refine N.forkF ?_|refine N.obl (.plain rfl) ?_|refine N.obl trivial ?_|exact N.true|fail)
theorem cLenM (L:List Ml) (i:Nat) (h:Hp) (hi:h[i]?=some (some (airP L))):qad Tryz.prog 35 [.pointer (some ⟨i,0,some 0⟩)] h (.int .i64 (L.length:Nat)) [(i,airP L)] []:=by
 refine qax (G:=tys) (airOK L) (airH L) [⟨i,airP L,airP L,airP L⟩] [] [.pointer (some ⟨0,0,some 0⟩)] tysOK mixed Tryz.func35 (by rfl) (Tryz.call35) ⟨hi,trivial⟩ ⟨⟨fun h=>⟨rfl,nlr _⟩,nlr _,nzj⟩,trivial⟩ (by simp[Apart]) ⟨.inr ⟨rfl,rfl⟩,trivial⟩ trivial ⟨.ptr rfl,trivial⟩ qat ?_
 intro β hβ
 cases β with
 | none=>
  obtain rfl:L=[]:=hβ
  repeat' (refine N.go ?_;first|with_reducible refine N.forkF ?_|fail)
  refine N.go ?_
  refine qc7 0 [] qdl (fun _=>⟨_,rfl,qft [],qah⟩) (by rfl) rfl (nlr _) rfl (fun x hx=>by cases hx) (fun x hx=>by cases hx) (fun ρ ρ' _=>rfl) ?_
  refine N.obl (.plain rfl) ?_
  refine N.obl ⟨⟨_,rfl,fun h=>h,nlr _,nzj⟩,trivial⟩ ?_
  refine N.obl trivial ?_
  refine N.obl ⟨⟨.inr ⟨_,rfl,rfl⟩,trivial⟩,trivial⟩ ?_
  exact N.true
 | some q=>
  obtain⟨c,T⟩:=q
  obtain⟨hc1,hlc,hT⟩:=hβ
  repeat' (refine N.go ?_;first|with_reducible refine N.forkF ?_|fail)
  refine N.go ?_
  refine qbx 0 [] L 1 c T qdl qfn hc1 hlc hT (by rfl) rfl (nlr _) rfl (by rfl) (by decide) rfl (nlr _) (fun j hj=>qcx (qaq hj)) (fun x hx=>by cases hx) (fun x hx=>by cases hx) (fun ρ ρ' _=>rfl) ?_
  refine N.obl (.plain rfl) ?_
  refine N.obl ⟨⟨_,rfl,fun h=>h,nlr _,nzj⟩,trivial⟩ ?_
  refine N.obl trivial ?_
  refine N.obl ⟨⟨.inr ⟨_,rfl,rfl⟩,trivial⟩,trivial⟩ ?_
  exact N.true
theorem cNewM (K:Nat) (h:Hp) (hK:h[K]?=some none):qad Tryz.prog 21 [] h (.pointer (some ⟨K,0,some 0⟩)) [(K,airP [])] []:=by
 refine qax (G:=tys) (fun _:Unit=>True) (fun _=>[]) [] [⟨K,0,airP []⟩] [] tysOK mixed Tryz.func21 (by rfl) (Tryz.call21) trivial trivial trivial trivial ⟨⟨hK,rfl,.inr qah,by simp⟩,trivial⟩ trivial Opens.same ?_
 rintro⟨⟩ -
 repeat' (refine N.go ?_;first|with_reducible refine N.obl (by decide) ?_|fail)
 refine N.go ?_
 refine qc7 0 [] (fun i hi=>absurd hi (by simp)) (fun hi=>absurd hi (by simp)) (by rfl) rfl (nlr _) rfl (fun x hx=>by cases hx) (fun x hx=>by cases hx) (fun ρ ρ' ha=>by have:=ha 0 ⟨_,rfl⟩;simp[den,den2,den1,den0,denA,this]) ?_
 refine N.obl (.one (.ptr rfl)) ?_
 refine N.obl trivial ?_
 refine N.obl ⟨⟨Nat.zero_le _,_,rfl,fun h=>h,nlr _,nzj⟩,trivial⟩ ?_
 refine N.obl ⟨trivial,.inr ⟨_,rfl,rfl⟩,trivial⟩ ?_
 exact N.true
abbrev flC (C:Nat→Int) (n:Nat) (iw ia io:Nat) (u:Value) (lost:Int):Chunk:=⟨true,16,[(0,16,.agg ⟨[.pointer (some ⟨iw,0,some 0⟩),.pointer (some ⟨ia,0,some 0⟩),.int .i64 (C 0),.int .i64 (C 1),.int .i64 (C 2),.int .i64 (C 3),.int .i64 (C 4),.int .i64 (C 5),.int .i64 (C 6),.int .i64 (C 7),.int .i64 (C 8),.int .i64 (C 9),.int .i64 (C 10),u,.slice (some ⟨io,0,some 0⟩) n n,.int .i64 lost]⟩)]⟩
abbrev onC (x:Ext) (n:Nat) (on:Nat→Bool):Chunk:=@Chunk.mk x true n [(0,n,.agg ⟨segL n (fun j=>.bool (on j))⟩)]
abbrev garC (C:Nat→Int):Chunk:=⟨true,11,[(0,11,cfgV C)]⟩
theorem lt11 {p:Nat→Prop} (h0:p 0) (h1:p 1) (h2:p 2) (h3:p 3) (h4:p 4) (h5:p 5) (h6:p 6) (h7:p 7) (h8:p 8) (h9:p 9) (h10:p 10):∀ j,j<11→p j:=fun j hj=>by
 match j,hj with
 | 0,_=>exact h0
 | 1,_=>exact h1
 | 2,_=>exact h2
 | 3,_=>exact h3
 | 4,_=>exact h4
 | 5,_=>exact h5
 | 6,_=>exact h6
 | 7,_=>exact h7
 | 8,_=>exact h8
 | 9,_=>exact h9
 | 10,_=>exact h10
structure FS where
 C:Nat→Int
 n:Nat
 P:Nat→Int
 M:Nat→Bool
 tm:Int
 st:Int
 L:List Ml
 g:Nat→Nat×Nat
 s:Nat→NSt
 on:Nat→Bool
 lost:Int
abbrev flH (F:FS) (β:Nat×Nat):Hp:=[some (flC F.C F.n 1 6 4 (.slice (some ⟨5,0,some 0⟩) F.n β.2) F.lost),some (wcc true F.C F.n β.1 2 3 F.tm F.st),some (ptP true F.n F.P),some (mvP true F.n F.M),some (onC (manyX ndX F.n F.g F.s) F.n F.on),some (prC β.2 (prF F.g F.n)),some (airP F.L)]
def flOK (F:FS) (β:Nat×Nat):Prop:=F.n≤β.1∧F.n≤β.2
abbrev flP (F:FS):Chunk:=packC (flOK F) (flH F)
theorem qi4 {x:Ext} {n:Nat} {on:Nat→Bool} {j:Nat} (h:j<n):(onC x n on).f j=.bool (on j):=by
 show qa5 _ _=_
 rw[qao,if_pos (by omega)]
 exact qcn h
theorem wr_on {x:Ext} {n p:Nat} {on:Nat→Bool} {b:Bool} (h:p<n):Writes (onC x n on) p 1 (.bool b) (onC x n (upd on p b)):=by
 refine⟨rfl,h,rfl,fun j hj=>?_⟩
 have hj:j<n:=hj
 rw[qi4 hj,qi4 hj]
 by_cases e:j=p
 ·subst e
  rw[qb7,if_pos (by omega),Nat.sub_self];rfl
 ·rw[qbz _ _ e,if_neg (by omega)]
abbrev onK (k j:Nat):Bool:=decide (j<k)
theorem qi5 (k:Nat):upd (onK k) k true=onK (k+1):=funext fun j=>by
 by_cases e:j=k
 ·subst e;rw[qb7];exact(decide_eq_true (Nat.lt_succ_self _)).symm
 ·rw[qbz _ _ e]
  by_cases h:j<k
  ·exact(decide_eq_true h).trans (decide_eq_true (by omega:j<k+1)).symm
  ·exact(decide_eq_false h).trans (decide_eq_false (by omega:¬ j<k+1)).symm
theorem qnb (k:Nat) (h:k<64):qau 4194304 (pos0 (k*2)) (pos0 (k*2+1)):=by
 unfold qau pos0
 rw[if_pos (by omega),if_neg (by omega)]
 omega
theorem qdm {ix:List (Nat×Nat)} {x:Ext} {n:Nat} {a b:Nat→Bool} (h:∀ j,j<n→a j=b j):ChunkReLe ix (onC x n a) (onC x n b):=by
 refine @ChunkReLe.mk _ _ _ ⟨.inr rfl⟩ id (nlr _) fun j hj=>?_
 have hj:j<n:=hj
 rw[qi4 hj,qi4 hj,h j hj]
 exact .plain rfl
theorem qqr (C:Nat→Int) (hC:CfOK C) (hcap:200≤C 10) (i b k:Nat) (hi:i<3) (g:Nat→Nat×Nat) {o:Bool} {c:Nat} {ps:List (Nat×Nat×Value)} {Y0:Ext} (hY:Y0=manyX ndX i g (nodeS C)) (h:Hp) (hb:h[b]?=some (some (@Chunk.mk Y0 o c ps))) (hk:h[k]?=some none) :
  CallAll Tryz.prog 24 [cfV C,.int .i64 (i:Int),.int .i64 0,elV (pos0 (i*2)) (pos0 (i*2+1)) 100 0 100] h fun v ms=>∃ q:Nat×Nat,v=realP q∧ms=[(b,@Chunk.mk (manyX ndX (i+1) (upd g i q) (nodeS C)) o c ps)]:=by
 have e:nodeS C i=nsNew C (i:Int) 0 true (pos0 (i*2)) (pos0 (i*2+1)) 100 0 100:=if_pos hi
 have hp:=qnb i (by omega)
 have key:=qol b k i i (i+1) g (nodeS C) (nodeS C i) hY (by omega) (fun j h1 h2=>by omega) hb hk (by rw[e];exact qu4 C hC (i:Int) 0 (by omega) (by decide) _ _ 100 0 100 ⟨hp,by decide,by decide,by decide,by decide⟩ (by omega) k h hk)
 rw[qco] at key
 exact key
theorem qyv (C:Nat→Int) (hC:CfOK C) (i b k:Nat) (hi:¬ i<3) (h64:i<64) (g:Nat→Nat×Nat) {o:Bool} {c:Nat} {ps:List (Nat×Nat×Value)} {Y0:Ext} (hY:Y0=manyX ndX i g (nodeS C)) (h:Hp) (hb:h[b]?=some (some (@Chunk.mk Y0 o c ps))) (hk:h[k]?=some none) :
  CallAll Tryz.prog 24 [cfV C,.int .i64 (i:Int),.int .i64 0,elV 0 0 0 0 0] h fun v ms=>∃ q:Nat×Nat,v=realP q∧ms=[(b,@Chunk.mk (manyX ndX (i+1) (upd g i q) (nodeS C)) o c ps)]:=by
 have e:nodeS C i=nsNew C (i:Int) 0 false 0 0 0 0 0:=if_neg hi
 have key:=qol b k i i (i+1) g (nodeS C) (nodeS C i) hY (by omega) (fun j h1 h2=>by omega) hb hk (by rw[e];exact qu3 C hC (i:Int) 0 (by omega) (by decide) k h hk)
 rw[qco] at key
 exact key
theorem qvn (C:Nat→Int) (hC:CfOK C) (hm:mayC C) (n:Nat) (hn:C 0=(n:Int)) (h8:n≤8) (hcap:200≤C 10) (K K2:Nat) (hKK:K≠K2) (h:Hp) (hK:h[K]?=some none) (hK2:h[K2]?=some none) :
  CallAll Tryz.prog 9 [cfgV C] h fun v ms=>∃ g:Nat→Nat×Nat,v=.tuple #[.pointer (some ⟨K,0,some 0⟩),.int .i64 0]∧ms=[(K,flP ⟨C,n,pos0,fun _=>false,0,0,[],g,nodeS C,fun _=>true,0⟩),(K2,garC C)]:=by
 have hn0:1≤n∧n≤64:=by have:=hm.1;omega
 have key:=qaj (G:=tys) (h:=h) (vs:=[cfgV C]) (fun _:Unit=>True) (fun _=>[]) (α:=Nat→Nat×Nat) (fun κ=>True) (fun κ=>.tuple #[.pointer (some ⟨K,0,some 0⟩),.int .i64 0]) [] (fun κ=>[]) (fun κ=>[⟨K,9,flP ⟨C,n,pos0,fun _=>false,0,0,[],κ,nodeS C,fun _=>true,0⟩⟩,⟨K2,0,garC C⟩]) [cfgV C] tysOK mixed Tryz.func9 (by rfl) (Tryz.call9) trivial trivial (fun κ _=>trivial) trivial trivial (fun κ _=>⟨⟨hK,rfl,.inr qah,by simp[hKK]⟩,⟨hK2,rfl,.inl (by show 0<11;decide),by simp⟩,trivial⟩) ⟨.plain rfl,trivial⟩ Opens.same ?_
 ·refine qae key fun v ms hR=>?_
  obtain⟨κ,_,rfl,rfl⟩:=hR
  exact⟨κ,rfl,rfl⟩
 rintro⟨⟩ -
 repeat' (refine N.go ?_;first|with_reducible refine N.obl rfl ?_|fail)
 refine N.go ?_
 refine N.callAll (cNewW C 1 n _ hm hn (by rfl) (by rfl) (by rfl)) fun v ms hR=>?_
 obtain⟨ps,hps,rfl,rfl⟩:=hR
 repeat' (refine N.go ?_;first|with_reducible (first|refine N.obl rfl ?_|refine N.obl ⟨by kernel_rfl,by kernel_rfl⟩ ?_|refine N.alt ?_|refine N.forkF ?_)|refine N.call (cNewM 4 _ (by rfl)) ?_|refine MakeN.mk n n hn hn (by show 1*n≤_;omega) (by omega) (Nat.mul_one n).symm ?_|fail)
 refine N.go ?_
 refine N.loopR (α:=Option (Nat×Nat×(Nat→Nat×Nat))) (fun x=>match x with
  | none=>True
  | some s=>1≤s.1∧s.1≤n∧s.1≤s.2.1) (fun x=>match x with
  | none=>n
  | some s=>n-s.1) (fun x=>match x with
  | none=>[(24,.int .i64 0)]
  | some s=>[(24,.int .i64 (s.1:Int))]) (fun x=>match x with
  | none=>[(8,onC Ext.none n (onK 0))]
  | some s=>[(8,onC (manyX ndX s.1 s.2.2 (nodeS C)) n (onK s.1)),(9,flC C n 1 4 8 (.slice (some ⟨10,0,some 0⟩) s.1 s.2.1) 0),(10,prC s.2.1 (prF s.2.2 s.1))]) none [(0,0),(1,1),(2,2),(3,3),(4,4),(8,8),(9,9)] trivial ?_ ?_
 ·repeat' (refine N.go ?_;first|exact N.true|refine N.obl (qcg (fun _ _=>rfl) (fun j _=>qiw j)) ?_|refine N.obl ⟨id,nlr _,(by first|(refine lt16 ?_ ?_ ?_ ?_ ?_ ?_ ?_ ?_ ?_ ?_ ?_ ?_ ?_ ?_ ?_ ?_<;>first|exact Re1.plain rfl|exact Re1.ptr rfl|exact Re1.slice rfl)|fail)⟩ ?_|refine N.obl (ChunkReLe.same (qaw (by rfl) (by rfl))) ?_|refine N.obl (qcg (fun _ _=>rfl) (fun _ _=>rfl)) ?_|refine N.obl ⟨id,nlr _,(by first|(refine lt15 ?_ ?_ ?_ ?_ ?_ ?_ ?_ ?_ ?_ ?_ ?_ ?_ ?_ ?_ ?_<;>first|exact Re1.plain rfl|exact Re1.ptr rfl|exact Re1.slice rfl)|fail)⟩ ?_|refine N.obl (@ChunkReLe.mk _ _ _ ⟨.inr rfl⟩ id (nlr _) (nzj)) ?_|refine N.obl (.plain (by rfl)) ?_|refine N.obl (.one (.ptr rfl)) ?_|refine N.obl (.one (.slice rfl)) ?_|refine N.obl (.one (.agg (by repeat' (first|exact trivial|refine⟨.plain rfl,?_⟩|refine⟨.slice rfl,?_⟩|refine⟨.ptr rfl,?_⟩)))) ?_|fail)
 intro x hx
 cases x with
 | none=>
  obtain⟨z,hz⟩:∃ z:Nat,z=0:=⟨0,rfl⟩
  repeat' (refine N.go ?_;first|with_reducible refine N.obl (by decide) ?_|refine N.forkYes (by decide) ?_|refine N.forkYes (by rw[decide_eq_true_eq,hn];omega) ?_|refine N.call (qg8 C n ps.cap 1 2 3 pos0 (fun _=>false) 0 0 true true true 0 _ (by rfl) (by rfl) (by rfl) (by omega)) ?_|refine N.call (qur _ _ 10 _ (qnb 0 (by omega)) (by decide)) ?_|fail)
  refine N.go ?_
  refine N.plan [0,1,2,3,4,5,6,7,8,9,10,11,12,16,17,19] [(13,[14]),(15,[18,20])] (by kernel_rfl) ?_
  repeat' (refine N.go ?_;first|with_reducible (first|refine N.obl (by decide) ?_|refine N.obl rfl ?_)|refine N.idx z 1 (by rw[hz];rfl) (by omega) ?_|fail)
  refine N.go ?_
  refine qa4 [8,5] _ (by show midB _ _ _ _=Bool.true;kernel_rfl) (fun h₂ hh=>qqr C hC hcap 0 8 5 (by decide) (fun _=>(0,0)) (qrc ndX (fun _=>(0,0)) (nodeS C)).symm h₂ ((hh 8 (by simp)).trans rfl) ((hh 5 (by simp)).trans rfl)) fun v ms hR=>?_
  obtain⟨q,rfl,rfl⟩:=hR
  refine⟨by simp,?_⟩
  repeat' (refine N.go ?_;first|refine N.obl (by show midB _ _ _ _=Bool.true;kernel_rfl) ?_|fail)
  refine N.go ?_
  refine App0N.mk1 (.agg ⟨[realP q]⟩) (qi1 rfl rfl) (by decide) (by decide) (by decide) fun cap hcap=>?_
  repeat' (refine N.go ?_;first|refine N.obl (by show endB _ _=Bool.true;kernel_rfl) ?_|refine N.store _ (wr_on (by omega)) ?_|fail)
  refine N.go ?_
  refine N.nextR (α:=Option (Nat×Nat×(Nat→Nat×Nat))) (some (0+1,cap,upd (fun _=>(0,0)) 0 q)) [(0,0),(1,1),(2,2),(3,3),(4,4),(8,8),(9,9),(21,10)] ⟨⟨by show 1≤_;omega,by show _≤n;omega,by show _≤_;omega⟩,by show n-1<n;omega⟩ ?_
  have hon:onK (0+1)=upd (onK 0) 0 true:=(qi5 _).symm
  have hon:onK (0+1)=upd (onK 0) z true:=by rw[hz];exact hon
  repeat' (refine N.go ?_;first|exact N.true|refine N.obl (gr_pr rfl (nzj) (by omega)) ?_|refine N.obl (qdm (fun j _=>congrFun hon j)) ?_|refine N.obl ⟨id,nlr _,(by first|(refine lt16 ?_ ?_ ?_ ?_ ?_ ?_ ?_ ?_ ?_ ?_ ?_ ?_ ?_ ?_ ?_ ?_<;>first|exact Re1.plain rfl|exact Re1.ptr rfl|exact Re1.slice rfl)|fail)⟩ ?_|refine N.obl (ChunkReLe.same (qaw (by rfl) (by rfl))) ?_|refine N.obl (qcg (fun _ _=>rfl) (fun _ _=>rfl)) ?_|refine N.obl ⟨id,nlr _,(by first|(refine lt15 ?_ ?_ ?_ ?_ ?_ ?_ ?_ ?_ ?_ ?_ ?_ ?_ ?_ ?_ ?_<;>first|exact Re1.plain rfl|exact Re1.ptr rfl|exact Re1.slice rfl)|fail)⟩ ?_|refine N.obl (@ChunkReLe.mk _ _ _ ⟨.inr rfl⟩ id (nlr _) (nzj)) ?_|refine N.obl (.plain (by rfl)) ?_|refine N.obl (.one (.ptr rfl)) ?_|refine N.obl (.one (.slice rfl)) ?_|refine N.obl (.one (.agg (by repeat' (first|exact trivial|refine⟨.plain rfl,?_⟩|refine⟨.slice rfl,?_⟩|refine⟨.ptr rfl,?_⟩)))) ?_|fail)
 | some s=>
  obtain⟨k,cap,g⟩:=s
  obtain⟨i1,i2,i3⟩:=hx
  have i1:1≤k:=i1
  have i2:k≤n:=i2
  have i3:k≤cap:=i3
  by_cases hk:k<n
  ·have ek:((k+1:Nat):Int)=IntKind.i64.wrap ((k:Int)+1):=by rw[i64s _ (by omega) (by omega)];omega
   by_cases h3:k<3
   ·repeat' (refine N.go ?_;first|with_reducible (first|refine N.obl (by decide) ?_|refine N.obl rfl ?_)|refine N.forkYes (by rw[decide_eq_true_eq,hn];omega) ?_|refine N.forkYes (decide_eq_true (by omega)) ?_|refine N.call (qg8 C n ps.cap 1 2 3 pos0 (fun _=>false) 0 0 true true true k _ (by rfl) (by rfl) (by rfl) (by omega)) ?_|refine N.call (qur _ _ 10 _ (qnb k (by omega)) (by decide)) ?_|fail)
    refine N.go ?_
    refine N.plan [0,1,2,3,4,5,6,7,8,9,10,11,12,16,17,19] [(13,[14]),(15,[18,20])] (by kernel_rfl) ?_
    repeat' (refine N.go ?_;first|with_reducible refine N.obl rfl ?_|refine N.idx k 1 rfl (by omega) ?_|fail)
    refine N.go ?_
    refine qa4 [8,5] _ (by show midB _ _ _ _=Bool.true;kernel_rfl) (fun h₂ hh=>qqr C hC hcap k 8 5 h3 g rfl h₂ ((hh 8 (by simp)).trans rfl) ((hh 5 (by simp)).trans rfl)) fun v ms hR=>?_
    obtain⟨q,rfl,rfl⟩:=hR
    refine⟨by simp,?_⟩
    repeat' (refine N.go ?_;first|refine N.obl (by show midB _ _ _ _=Bool.true;kernel_rfl) ?_|fail)
    refine N.go ?_
    refine AppN.mk1 (.agg ⟨[realP q]⟩) (qi1 rfl rfl) rfl (by show k*1≤cap;omega) (by omega) (by show(k+1)*8≤_;omega) (prC cap (prF (upd g k q) (k+1))) (fun h=>wr_pr rfl (show k+1≤cap from h) (Nat.mul_one k)) (fun hr=>?_) (fun hg cap2 hcap2=>?_)
    ·repeat' (refine N.go ?_;first|refine N.obl (by show endB _ _=Bool.true;kernel_rfl) ?_|refine N.store _ (wr_on (by omega)) ?_|fail)
     refine N.go ?_
     refine N.nextR (α:=Option (Nat×Nat×(Nat→Nat×Nat))) (some (k+1,cap,upd g k q)) [(0,0),(1,1),(2,2),(3,3),(4,4),(8,8),(9,9),(10,10)] ⟨⟨by show 1≤_;omega,by show _≤n;omega,by show _≤_;omega⟩,by show n-(k+1)<n-k;omega⟩ ?_
     have hon:onK (k+1)=upd (onK k) k true:=(qi5 _).symm
     skip
     repeat' (refine N.go ?_;first|exact N.true|refine N.obl pr_ren ?_|refine N.obl (qdm (fun j _=>congrFun hon j)) ?_|refine N.obl ⟨id,nlr _,(by first|(refine lt16 ?_ ?_ ?_ ?_ ?_ ?_ ?_ ?_ ?_ ?_ ?_ ?_ ?_ ?_ ?_ ?_<;>first|exact Re1.plain rfl|exact Re1.ptr rfl|exact Re1.slice rfl)|fail)⟩ ?_|refine N.obl (ChunkReLe.same (qaw (by rfl) (by rfl))) ?_|refine N.obl (qcg (fun _ _=>rfl) (fun _ _=>rfl)) ?_|refine N.obl ⟨id,nlr _,(by first|(refine lt15 ?_ ?_ ?_ ?_ ?_ ?_ ?_ ?_ ?_ ?_ ?_ ?_ ?_ ?_ ?_<;>first|exact Re1.plain rfl|exact Re1.ptr rfl|exact Re1.slice rfl)|fail)⟩ ?_|refine N.obl (@ChunkReLe.mk _ _ _ ⟨.inr rfl⟩ id (nlr _) (nzj)) ?_|refine N.obl (.plain (by rfl)) ?_|refine N.obl (.one (.ptr rfl)) ?_|refine N.obl (.one (.slice rfl)) ?_|refine N.obl (.one (.agg (by repeat' (first|exact trivial|refine⟨.plain rfl,?_⟩|refine⟨.slice rfl,?_⟩|refine⟨.ptr rfl,?_⟩)))) ?_|refine N.obl (qa2 (qaz ek) rfl) ?_|fail)
    ·repeat' (refine N.go ?_;first|refine N.obl (by show endB _ _=Bool.true;kernel_rfl) ?_|refine N.store _ (wr_on (by omega)) ?_|fail)
     refine N.go ?_
     refine N.nextR (α:=Option (Nat×Nat×(Nat→Nat×Nat))) (some (k+1,cap2,upd g k q)) [(0,0),(1,1),(2,2),(3,3),(4,4),(8,8),(9,9),(22,10)] ⟨⟨by show 1≤_;omega,by show _≤n;omega,by show _≤_;omega⟩,by show n-(k+1)<n-k;omega⟩ ?_
     have hon:onK (k+1)=upd (onK k) k true:=(qi5 _).symm
     skip
     repeat' (refine N.go ?_;first|exact N.true|refine N.obl (gr_pr rfl (fun j hj=>qaq (by omega)) (by omega)) ?_|refine N.obl (qdm (fun j _=>congrFun hon j)) ?_|refine N.obl ⟨id,nlr _,(by first|(refine lt16 ?_ ?_ ?_ ?_ ?_ ?_ ?_ ?_ ?_ ?_ ?_ ?_ ?_ ?_ ?_ ?_<;>first|exact Re1.plain rfl|exact Re1.ptr rfl|exact Re1.slice rfl)|fail)⟩ ?_|refine N.obl (ChunkReLe.same (qaw (by rfl) (by rfl))) ?_|refine N.obl (qcg (fun _ _=>rfl) (fun _ _=>rfl)) ?_|refine N.obl ⟨id,nlr _,(by first|(refine lt15 ?_ ?_ ?_ ?_ ?_ ?_ ?_ ?_ ?_ ?_ ?_ ?_ ?_ ?_ ?_<;>first|exact Re1.plain rfl|exact Re1.ptr rfl|exact Re1.slice rfl)|fail)⟩ ?_|refine N.obl (@ChunkReLe.mk _ _ _ ⟨.inr rfl⟩ id (nlr _) (nzj)) ?_|refine N.obl (.plain (by rfl)) ?_|refine N.obl (.one (.ptr rfl)) ?_|refine N.obl (.one (.slice rfl)) ?_|refine N.obl (.one (.agg (by repeat' (first|exact trivial|refine⟨.plain rfl,?_⟩|refine⟨.slice rfl,?_⟩|refine⟨.ptr rfl,?_⟩)))) ?_|refine N.obl (qa2 (qaz ek) rfl) ?_|fail)
   ·repeat' (refine N.go ?_;first|with_reducible (first|refine N.obl (by decide) ?_|refine N.obl rfl ?_)|refine N.forkYes (by rw[decide_eq_true_eq,hn];omega) ?_|refine N.forkNo (decide_eq_false (by omega)) ?_|refine N.call (qg8 C n ps.cap 1 2 3 pos0 (fun _=>false) 0 0 true true true k _ (by rfl) (by rfl) (by rfl) (by omega)) ?_|fail)
    refine N.go ?_
    refine N.plan [0,1,2,3,4,5,6,7,8,9,10,11,12,16,17,19] [(13,[14]),(15,[18,20])] (by kernel_rfl) ?_
    repeat' (refine N.go ?_;first|with_reducible (first|refine N.obl (by decide) ?_|refine N.obl rfl ?_)|refine N.idx k 1 rfl (by omega) ?_|fail)
    refine N.go ?_
    refine qa4 [8,5] _ (by show midB _ _ _ _=Bool.true;kernel_rfl) (fun h₂ hh=>qyv C hC k 8 5 h3 (by omega) g rfl h₂ ((hh 8 (by simp)).trans rfl) ((hh 5 (by simp)).trans rfl)) fun v ms hR=>?_
    obtain⟨q,rfl,rfl⟩:=hR
    refine⟨by simp,?_⟩
    repeat' (refine N.go ?_;first|refine N.obl (by show midB _ _ _ _=Bool.true;kernel_rfl) ?_|fail)
    refine N.go ?_
    refine AppN.mk1 (.agg ⟨[realP q]⟩) (qi1 rfl rfl) rfl (by show k*1≤cap;omega) (by omega) (by show(k+1)*8≤_;omega) (prC cap (prF (upd g k q) (k+1))) (fun h=>wr_pr rfl (show k+1≤cap from h) (Nat.mul_one k)) (fun hr=>?_) (fun hg cap2 hcap2=>?_)
    ·repeat' (refine N.go ?_;first|refine N.obl (by show endB _ _=Bool.true;kernel_rfl) ?_|refine N.store _ (wr_on (by omega)) ?_|fail)
     refine N.go ?_
     refine N.nextR (α:=Option (Nat×Nat×(Nat→Nat×Nat))) (some (k+1,cap,upd g k q)) [(0,0),(1,1),(2,2),(3,3),(4,4),(8,8),(9,9),(10,10)] ⟨⟨by show 1≤_;omega,by show _≤n;omega,by show _≤_;omega⟩,by show n-(k+1)<n-k;omega⟩ ?_
     have hon:onK (k+1)=upd (onK k) k true:=(qi5 _).symm
     skip
     repeat' (refine N.go ?_;first|exact N.true|refine N.obl pr_ren ?_|refine N.obl (qdm (fun j _=>congrFun hon j)) ?_|refine N.obl ⟨id,nlr _,(by first|(refine lt16 ?_ ?_ ?_ ?_ ?_ ?_ ?_ ?_ ?_ ?_ ?_ ?_ ?_ ?_ ?_ ?_<;>first|exact Re1.plain rfl|exact Re1.ptr rfl|exact Re1.slice rfl)|fail)⟩ ?_|refine N.obl (ChunkReLe.same (qaw (by rfl) (by rfl))) ?_|refine N.obl (qcg (fun _ _=>rfl) (fun _ _=>rfl)) ?_|refine N.obl ⟨id,nlr _,(by first|(refine lt15 ?_ ?_ ?_ ?_ ?_ ?_ ?_ ?_ ?_ ?_ ?_ ?_ ?_ ?_ ?_<;>first|exact Re1.plain rfl|exact Re1.ptr rfl|exact Re1.slice rfl)|fail)⟩ ?_|refine N.obl (@ChunkReLe.mk _ _ _ ⟨.inr rfl⟩ id (nlr _) (nzj)) ?_|refine N.obl (.plain (by rfl)) ?_|refine N.obl (.one (.ptr rfl)) ?_|refine N.obl (.one (.slice rfl)) ?_|refine N.obl (.one (.agg (by repeat' (first|exact trivial|refine⟨.plain rfl,?_⟩|refine⟨.slice rfl,?_⟩|refine⟨.ptr rfl,?_⟩)))) ?_|refine N.obl (qa2 (qaz ek) rfl) ?_|fail)
    ·repeat' (refine N.go ?_;first|refine N.obl (by show endB _ _=Bool.true;kernel_rfl) ?_|refine N.store _ (wr_on (by omega)) ?_|fail)
     refine N.go ?_
     refine N.nextR (α:=Option (Nat×Nat×(Nat→Nat×Nat))) (some (k+1,cap2,upd g k q)) [(0,0),(1,1),(2,2),(3,3),(4,4),(8,8),(9,9),(22,10)] ⟨⟨by show 1≤_;omega,by show _≤n;omega,by show _≤_;omega⟩,by show n-(k+1)<n-k;omega⟩ ?_
     have hon:onK (k+1)=upd (onK k) k true:=(qi5 _).symm
     skip
     repeat' (refine N.go ?_;first|exact N.true|refine N.obl (gr_pr rfl (fun j hj=>qaq (by omega)) (by omega)) ?_|refine N.obl (qdm (fun j _=>congrFun hon j)) ?_|refine N.obl ⟨id,nlr _,(by first|(refine lt16 ?_ ?_ ?_ ?_ ?_ ?_ ?_ ?_ ?_ ?_ ?_ ?_ ?_ ?_ ?_ ?_<;>first|exact Re1.plain rfl|exact Re1.ptr rfl|exact Re1.slice rfl)|fail)⟩ ?_|refine N.obl (ChunkReLe.same (qaw (by rfl) (by rfl))) ?_|refine N.obl (qcg (fun _ _=>rfl) (fun _ _=>rfl)) ?_|refine N.obl ⟨id,nlr _,(by first|(refine lt15 ?_ ?_ ?_ ?_ ?_ ?_ ?_ ?_ ?_ ?_ ?_ ?_ ?_ ?_ ?_<;>first|exact Re1.plain rfl|exact Re1.ptr rfl|exact Re1.slice rfl)|fail)⟩ ?_|refine N.obl (@ChunkReLe.mk _ _ _ ⟨.inr rfl⟩ id (nlr _) (nzj)) ?_|refine N.obl (.plain (by rfl)) ?_|refine N.obl (.one (.ptr rfl)) ?_|refine N.obl (.one (.slice rfl)) ?_|refine N.obl (.one (.agg (by repeat' (first|exact trivial|refine⟨.plain rfl,?_⟩|refine⟨.slice rfl,?_⟩|refine⟨.ptr rfl,?_⟩)))) ?_|refine N.obl (qa2 (qaz ek) rfl) ?_|fail)
  ·obtain rfl:k=n:=by omega
   repeat' (refine N.go ?_;first|refine N.forkNo (by rw[decide_eq_false_iff_not,hn];omega) ?_|fail)
   refine N.go ?_
   refine qhc (ok:=flOK ⟨C,k,pos0,fun _=>false,0,0,[],g,nodeS C,fun _=>true,0⟩) (hB:=flH ⟨C,k,pos0,fun _=>false,0,0,[],g,nodeS C,fun _=>true,0⟩) (ps.cap,cap) 9 [(0,9),(1,1),(2,2),(3,3),(4,8),(5,10),(6,4)] [0] (fun l i _ hl=>absurd hl (Nat.not_lt_zero i)) (fun i hi=>absurd hi (Nat.not_lt_zero i)) ⟨by have:=hps.1.2.2.1;have:=hps.2;show k≤ps.cap;omega,i3⟩ rfl ⟨_,rfl⟩ rfl rfl ?_ (fun k hk l i hm'=>?_) (fun k hk d hd l hl=>?_) (fun ρ ρ' ha=>by have:=ha 9 ⟨_,rfl⟩;simp[den,den2,den1,den0,denA,this]) (by first|(show 9<11;decide)|(show 9<12;decide)|(show 9<14;decide)|(show 9<15;decide)|(show 9<16;decide)|(show 9<17;decide)|simp) ?_
   ·intro l d hl
    match l,hl with
    | 0,hl=>
     obtain rfl:_=d:=by simpa using hl
     exact⟨9,_,rfl,rfl,rfl,nlr _,(by first|(refine lt16 ?_ ?_ ?_ ?_ ?_ ?_ ?_ ?_ ?_ ?_ ?_ ?_ ?_ ?_ ?_ ?_<;>first|exact Re1.plain rfl|exact Re1.ptr rfl|exact Re1.slice rfl)|fail),.inl rfl,.inl (by show 0<16;decide)⟩
    | 1,hl=>
     obtain rfl:_=d:=by simpa using hl
     exact⟨1,_,rfl,rfl,rfl,nlr _,(by first|(refine lt15 ?_ ?_ ?_ ?_ ?_ ?_ ?_ ?_ ?_ ?_ ?_ ?_ ?_ ?_ ?_<;>first|exact Re1.plain rfl|exact Re1.ptr rfl|exact Re1.slice rfl)|fail),.inl rfl,.inl (by show 0<15;decide)⟩
    | 2,hl=>
     obtain rfl:_=d:=by simpa using hl
     exact⟨2,_,rfl,rfl,rfl,nlr _,(qcg (fun _ _=>rfl) (fun _ _=>rfl)).re,.inl rfl,.inl (by show 0<k*2;omega)⟩
    | 3,hl=>
     obtain rfl:_=d:=by simpa using hl
     exact⟨3,_,rfl,rfl,rfl,nlr _,(qcg (fun _ _=>rfl) (fun _ _=>rfl)).re,.inl rfl,.inl (by show 0<k;omega)⟩
    | 4,hl=>
     obtain rfl:_=d:=by simpa using hl
     exact⟨8,_,rfl,rfl,rfl,nlr _,(qdm fun j hj=>decide_eq_true hj).re,.inr rfl,.inl (by show 0<k;omega)⟩
    | 5,hl=>
     obtain rfl:_=d:=by simpa using hl
     exact⟨10,_,rfl,rfl,rfl,nlr _,pr_ren.re,.inl rfl,.inl (by show 0<cap;omega)⟩
    | 6,hl=>
     obtain rfl:_=d:=by simpa using hl
     exact⟨4,_,rfl,rfl,rfl,nlr _,nzj,.inr rfl,.inr qah⟩
   ·obtain rfl:=List.mem_singleton.1 hk
    simp only[List.mem_cons,Prod.mk.injEq,List.not_mem_nil,or_false] at hm'
    omega
   ·obtain rfl:=List.mem_singleton.1 hk
    obtain rfl:garC C=d:=by simpa using hd
    generalize qa7 _ _ _ _ _=HH
    exact lt11 (p:=fun j=>Safe1 HH (Chunk.f (garC C) j)) trivial trivial trivial trivial trivial trivial trivial trivial trivial trivial trivial l hl
   repeat' (refine N.go ?_;first|exact N.true|refine N.obl trivial ?_|refine N.some g ⟨trivial,?_⟩|refine N.obl (.tuple ⟨.ptr rfl,.plain rfl,trivial⟩) ?_|refine N.obl ⟨⟨Nat.zero_le _,_,rfl,fun h=>h,nlr _,nzj⟩,⟨Nat.zero_le _,_,rfl,fun h=>h,nlr _,(by first|(refine lt11 ?_ ?_ ?_ ?_ ?_ ?_ ?_ ?_ ?_ ?_ ?_<;>exact .plain rfl)|fail)⟩,trivial⟩ ?_|refine N.obl ⟨trivial,.inr ⟨_,rfl,rfl⟩,.inl rfl,trivial⟩ ?_|fail)
   done
open Go Go.RowKit Sx
theorem qvo (to_:Int) (u:Option Sl) (at_ tr:Int) (be b:Bool) {F:Nat→Prop}:∀ ρ ρ',AgreeOn F ρ ρ'→den ρ' (.tuple ⟨[mailV to_ u at_ tr be,.bool b]⟩)=den ρ (.tuple ⟨[mailV to_ u at_ tr be,.bool b]⟩):=fun ρ ρ' _=>by
 have e:∀ ρ,den ρ (.tuple ⟨[mailV to_ u at_ tr be,.bool b]⟩)=.tuple ⟨[mailR to_ u at_ tr be,.bool b]⟩:=fun ρ=>by
  show Value.tuple (#[mailV to_ u at_ tr be,.bool b].map (den2 ρ))=_
  have e1:den2 ρ (mailV to_ u at_ tr be)=mailR to_ u at_ tr be:=qgm to_ u at_ tr be ρ
  simp only[List.map_toArray,List.map_cons,List.map_nil,e1]
  rfl
 rw[e,e]
theorem qbi {v:Value} (h:qap v=true) {F:Nat→Prop}:∀ ρ ρ',AgreeOn F ρ ρ'→den ρ' v=den ρ v:=fun ρ ρ' _=>by rw[qbg h,qbg h]
theorem cGetO (W:World) (F:List By) (n c x:Nat) (T:Nat→Ml) (bs:List Int) (hx:x<n) (hnc:n≤c) (hs:Src W F (T x).u bs) (hb:bs.length≤1048576) (i k j:Nat) (hne:i≠k∧i≠j∧k≠j) (h:Hp) (hi:h[i]?=some (some (airC true (.slice (some ⟨k,0,some 0⟩) n c)))) (hk:h[k]?=some (some (mlA true c T))) (hj:h[j]?=some (some (memC W F))) :
  CallAll Tryz.prog 59 [.pointer (some ⟨i,0,some 0⟩),.int .i64 (x:Nat)] h (fun v ms=>∃ u' F',Made F bs u' F'∧v=.tuple ⟨[mailV (T x).to_ u' (T x).at_ (T x).tr (T x).be,.bool true]⟩∧ms=[(j,memC W F')]):=by
 refine CallAll.to (qaj (G:=tys) (h:=h) (vs:=[.pointer (some ⟨i,0,some 0⟩),.int .i64 (x:Nat)]) (fun _:Unit=>True) (fun _=>_) (α:=Option Sl×List By) (fun κ=>Made F bs κ.1 κ.2) (fun κ=>.tuple ⟨[mailV (T x).to_ κ.1 (T x).at_ (T x).tr (T x).be,.bool true]⟩) [⟨i,_,airC false (.slice (some ⟨1,0,some 0⟩) n c),nC⟩,⟨k,_,mlA false c T,nC⟩,⟨j,memC W F,memC W F,memC W F⟩] (fun κ=>[nC,nC,memC W κ.2]) (fun κ=>[]) [.pointer (some ⟨0,0,some 0⟩),.int .i64 (x:Nat)] tysOK mixed Tryz.func59 (by rfl) (Tryz.call59) ⟨hi,hk,hj,trivial⟩ ⟨⟨fun h=>(by cases h),nlr _,fun j hj=>by
  match j,hj with
  | 0,_=>exact .slice rfl⟩,⟨fun h=>(by cases h),nlr _,qqo⟩,⟨fun h=>⟨rfl,nlr _⟩,nlr _,nzj⟩,trivial⟩ (fun κ _=>⟨⟨fun h=>(by cases h),nlr _,fun j hj=>by
  match j,hj with
  | 0,_=>exact .slice rfl⟩,⟨fun h=>(by cases h),nlr _,qqo⟩,⟨fun h=>⟨rfl,nlr _⟩,nlr _,nzj⟩,trivial⟩) (by simp[Apart];omega) ⟨.inl rfl,.inl rfl,.inr ⟨rfl,rfl⟩,trivial⟩ (fun κ _=>trivial) ⟨.ptr rfl,.plain rfl,trivial⟩ Opens.same ?_) ?_
 rotate_left
 ·rintro v ms ⟨κ,hκ,rfl,rfl⟩
  exact⟨κ.1,κ.2,hκ,rfl,rfl⟩
 rintro⟨⟩ -
 repeat' (refine N.go ?_;first|with_reducible refine N.forkF ?_|refine N.forkNo (by rw[decide_eq_false_iff_not];omega) ?_|refine N.call (cLenS _ 1 n c 0 _ (by rfl) (by rfl) (by decide)) ?_|refine N.idx x 1 rfl (by omega) ?_|refine N.load _ (q01 x rfl (by omega) rfl) ?_|fail)
 refine N.go ?_
 refine N.callAll (cOwnM W F _ bs hs hb _ _ _ _ 2 _ (by rfl)) fun v ms hR=>?_
 obtain⟨u',F',hM,rfl,rfl⟩:=hR
 repeat' (refine N.go ?_;first|with_reducible refine N.obl rfl ?_|fail)
 refine N.go ?_
 refine N.endSame ?_
 refine N.some (u',F') ⟨hM,?_⟩
 refine N.obl (.tuple ⟨qgn _ _ _ _ _,.plain rfl,trivial⟩) ?_
 refine N.obl ⟨⟨_,rfl,fun h=>h,nlr _,nzj⟩,trivial⟩ ?_
 refine N.obl trivial ?_
 refine N.obl ⟨⟨.inl rfl,.inl rfl,.inr ⟨_,rfl,rfl⟩,trivial⟩,trivial⟩ ?_
 exact N.true
theorem cGetM (W:World) (F:List By) (L:List Ml) (x:Nat) (m:Ml) (bs:List Int) (i j:Nat) (hij:i≠j) (h:Hp) (hi:h[i]?=some (some (airP L))) (hj:h[j]?=some (some (memC W F))) (hm:L[x]?=some m) (hs:Src W F m.u bs) (hb:bs.length≤1048576) :
  CallAll Tryz.prog 59 [.pointer (some ⟨i,0,some 0⟩),.int .i64 (x:Nat)] h (fun v ms=>∃ u' F',Made F bs u' F'∧v=.tuple ⟨[mailV m.to_ u' m.at_ m.tr m.be,.bool true]⟩∧ms=[(i,airP L),(j,memC W F')]):=by
 refine CallAll.to (qaj (G:=tys) (h:=h) (vs:=[.pointer (some ⟨i,0,some 0⟩),.int .i64 (x:Nat)]) (airOK L) (airO W F L) (α:=Option Sl×List By) (fun κ=>Made F bs κ.1 κ.2) (fun κ=>.tuple ⟨[mailV m.to_ κ.1 m.at_ m.tr m.be,.bool true]⟩) [⟨i,airP L,airP L,airP L⟩,⟨j,memC W F,memC W F,memC W F⟩] (fun κ=>[airP (L),memC W (κ.2)]) (fun κ=>[]) [.pointer (some ⟨0,0,some 0⟩),.int .i64 (x:Nat)] tysOK mixed Tryz.func59 (by rfl) (Tryz.call59) ⟨hi,hj,trivial⟩ ⟨⟨fun h=>⟨rfl,nlr _⟩,nlr _,nzj⟩,⟨fun h=>⟨rfl,nlr _⟩,nlr _,nzj⟩,trivial⟩ (fun κ _=>⟨⟨fun h=>⟨rfl,nlr _⟩,nlr _,nzj⟩,⟨fun h=>⟨rfl,nlr _⟩,nlr _,nzj⟩,trivial⟩) (by simp[Apart,hij]) ⟨.inr ⟨rfl,rfl⟩,.inr ⟨rfl,rfl⟩,trivial⟩ (fun κ _=>trivial) ⟨.ptr rfl,.plain rfl,trivial⟩ qfe ?_) ?_
 rotate_left
 ·rintro v ms ⟨κ,hκ,rfl,rfl⟩
  exact⟨κ.1,κ.2,hκ,rfl,rfl⟩
 intro β hβ
 have hx:x<L.length:=(List.getElem?_eq_some_iff.1 hm).1
 cases β with
 | none=>
  obtain rfl:L=[]:=hβ
  simp at hx
 | some q=>
  obtain⟨c,T⟩:=q
  obtain⟨hc1,hlc,hT⟩:=hβ
  obtain rfl:T x=m:=hT x m hm
  repeat' (refine N.go ?_;first|with_reducible refine N.forkF ?_|refine N.forkNo (by rw[decide_eq_false_iff_not];omega) ?_|refine N.call (cLenS _ 2 L.length c 0 _ (by rfl) (by rfl) (by decide)) ?_|refine N.idx x 1 rfl (by omega) ?_|refine N.load _ (q01 x rfl (by omega) rfl) ?_|fail)
  refine N.go ?_
  refine N.callAll (cOwnM W F _ bs hs hb _ _ _ _ 1 _ (by rfl)) fun v ms hR=>?_
  obtain⟨u',F',hM,rfl,rfl⟩:=hR
  repeat' (refine N.go ?_;first|with_reducible refine N.obl rfl ?_|fail)
  refine N.go ?_
  refine qff (W:=W) (F:=F') L 2 c T rfl qj1 hc1 hlc hT (by rfl) rfl (nlr _) rfl (by rfl) (by rfl) (by decide) rfl (nlr _) (fun j hj=>qcx (qaq hj)) (qvo _ _ _ _ _ _) ?_
  refine N.some (u',F') ⟨hM,?_⟩
  refine N.obl (.tuple ⟨qgn _ _ _ _ _,.plain rfl,trivial⟩) ?_
  refine N.obl ⟨⟨_,rfl,fun h=>h,nlr _,nzj⟩,⟨_,rfl,fun h=>h,nlr _,nzj⟩,trivial⟩ ?_
  refine N.obl trivial ?_
  refine N.obl ⟨⟨.inr ⟨_,rfl,rfl⟩,.inr ⟨_,rfl,rfl⟩,trivial⟩,trivial⟩ ?_
  exact N.true
theorem q26 (L:List Ml) (x:Int) (hx:x<0∨(L.length:Int)≤x) (i:Nat) (h:Hp) (hi:h[i]?=some (some (airP L))):qad Tryz.prog 59 [.pointer (some ⟨i,0,some 0⟩),.int .i64 x] h (.tuple ⟨[mailV 0 none 0 0 false,.bool false]⟩) [(i,airP L)] []:=by
 refine qax (G:=tys) (airOK L) (airH L) [⟨i,airP L,airP L,airP L⟩] [] [.pointer (some ⟨0,0,some 0⟩),.int .i64 x] tysOK mixed Tryz.func59 (by rfl) (Tryz.call59) ⟨hi,trivial⟩ ⟨⟨fun h=>⟨rfl,nlr _⟩,nlr _,nzj⟩,trivial⟩ (by simp[Apart]) ⟨.inr ⟨rfl,rfl⟩,trivial⟩ trivial ⟨.ptr rfl,.plain rfl,trivial⟩ qat ?_
 intro β hβ
 by_cases h0:x<0
 ·cases β with
  | none=>
   obtain rfl:L=[]:=hβ
   repeat' (refine N.go ?_;first|with_reducible (first|refine N.obl (by decide) ?_|refine N.forkT ?_)|refine N.forkYes (by rw[decide_eq_true_eq];omega) ?_|fail)
   refine N.go ?_
   refine qc7 0 [] qdl (fun _=>⟨_,rfl,qft [],qah⟩) (by rfl) rfl (nlr _) rfl (fun x hx=>by cases hx) (fun x hx=>by cases hx) (qbi rfl) ?_
   refine N.obl (.tuple ⟨.agg ⟨.plain rfl,.any (fun _ _=>rfl),.plain rfl,.plain rfl,.plain rfl,trivial⟩,.plain rfl,trivial⟩) ?_
   refine N.obl ⟨⟨_,rfl,fun h=>h,nlr _,nzj⟩,trivial⟩ ?_
   refine N.obl trivial ?_
   refine N.obl ⟨⟨.inr ⟨_,rfl,rfl⟩,trivial⟩,trivial⟩ ?_
   exact N.true
  | some q=>
   obtain⟨c,T⟩:=q
   obtain⟨hc1,hlc,hT⟩:=hβ
   repeat' (refine N.go ?_;first|with_reducible (first|refine N.obl (by decide) ?_|refine N.forkT ?_)|refine N.forkYes (by rw[decide_eq_true_eq];omega) ?_|fail)
   refine N.go ?_
   refine qbx 0 [] L 1 c T qdl qfn hc1 hlc hT (by rfl) rfl (nlr _) rfl (by rfl) (by decide) rfl (nlr _) (fun j hj=>qcx (qaq hj)) (fun x hx=>by cases hx) (fun x hx=>by cases hx) (qbi rfl) ?_
   refine N.obl (.tuple ⟨.agg ⟨.plain rfl,.any (fun _ _=>rfl),.plain rfl,.plain rfl,.plain rfl,trivial⟩,.plain rfl,trivial⟩) ?_
   refine N.obl ⟨⟨_,rfl,fun h=>h,nlr _,nzj⟩,trivial⟩ ?_
   refine N.obl trivial ?_
   refine N.obl ⟨⟨.inr ⟨_,rfl,rfl⟩,trivial⟩,trivial⟩ ?_
   exact N.true
 ·have hx2:(L.length:Int)≤x:=by omega
  cases β with
  | none=>
   obtain rfl:L=[]:=hβ
   have hx3:(0:Int)≤x:=by omega
   repeat' (refine N.go ?_;first|with_reducible (first|refine N.obl (by decide) ?_|refine N.forkF ?_)|refine N.forkYes (by rw[decide_eq_true_eq];omega) ?_|refine N.forkNo (by rw[decide_eq_false_iff_not];omega) ?_|refine N.call (cLenN _ 0 _ (by rfl)) ?_|fail)
   refine N.go ?_
   refine qc7 0 [] qdl (fun _=>⟨_,rfl,qft [],qah⟩) (by rfl) rfl (nlr _) rfl (fun x hx=>by cases hx) (fun x hx=>by cases hx) (qbi rfl) ?_
   refine N.obl (.tuple ⟨.agg ⟨.plain rfl,.any (fun _ _=>rfl),.plain rfl,.plain rfl,.plain rfl,trivial⟩,.plain rfl,trivial⟩) ?_
   refine N.obl ⟨⟨_,rfl,fun h=>h,nlr _,nzj⟩,trivial⟩ ?_
   refine N.obl trivial ?_
   refine N.obl ⟨⟨.inr ⟨_,rfl,rfl⟩,trivial⟩,trivial⟩ ?_
   exact N.true
  | some q=>
   obtain⟨c,T⟩:=q
   obtain⟨hc1,hlc,hT⟩:=hβ
   repeat' (refine N.go ?_;first|with_reducible (first|refine N.obl (by decide) ?_|refine N.forkF ?_)|refine N.forkYes (by rw[decide_eq_true_eq];omega) ?_|refine N.forkNo (by rw[decide_eq_false_iff_not];omega) ?_|refine N.call (cLenS _ 1 L.length c 0 _ (by rfl) (by rfl) (by decide)) ?_|fail)
   refine N.go ?_
   refine qbx 0 [] L 1 c T qdl qfn hc1 hlc hT (by rfl) rfl (nlr _) rfl (by rfl) (by decide) rfl (nlr _) (fun j hj=>qcx (qaq hj)) (fun x hx=>by cases hx) (fun x hx=>by cases hx) (qbi rfl) ?_
   refine N.obl (.tuple ⟨.agg ⟨.plain rfl,.any (fun _ _=>rfl),.plain rfl,.plain rfl,.plain rfl,trivial⟩,.plain rfl,trivial⟩) ?_
   refine N.obl ⟨⟨_,rfl,fun h=>h,nlr _,nzj⟩,trivial⟩ ?_
   refine N.obl trivial ?_
   refine N.obl ⟨⟨.inr ⟨_,rfl,rfl⟩,trivial⟩,trivial⟩ ?_
   exact N.true
theorem Made.len {F F':List By} {bs:List Int} {u:Option Sl} (h:Made F bs u F'):bs.length=uN u:=by
 cases h with
 | nil h=>subst h;rfl
 | new hb=>rfl
theorem qyw (W:World) (F:List By) (L:List Ml) (x:Nat) (m:Ml) (bs:List Int) (i j:Nat) (hij:i≠j) (h:Hp) (hi:h[i]?=some (some (airP L))) (hj:h[j]?=some (some (memC W F))) (hm:L[x]?=some m) (hs:Src W F m.u bs) (hb:bs.length≤1000) (hl:L.length<512) :
  CallAll Tryz.prog 63 [.pointer (some ⟨i,0,some 0⟩),.int .i64 (x:Nat)] h (fun v ms=>∃ u1 F1 u2 F2,(Made F bs u1 F1∧Made F1 bs u2 F2)∧v=.bool true∧ms=[(i,airP (L++[⟨m.to_,u2,m.at_,m.tr,m.be⟩])),(j,memC W F2)]):=by
 refine CallAll.to (qaj (G:=tys) (h:=h) (vs:=[.pointer (some ⟨i,0,some 0⟩),.int .i64 (x:Nat)]) (fun _:Unit=>True) (fun _=>partH [⟨i,airP L,airP L,airP L⟩,⟨j,memC W F,memC W F,memC W F⟩]) (α:=(Option Sl×List By)×(Option Sl×List By)) (fun κ=>Made F bs κ.1.1 κ.1.2∧Made κ.1.2 bs κ.2.1 κ.2.2) (fun κ=>.bool true) [⟨i,airP L,airP L,airP L⟩,⟨j,memC W F,memC W F,memC W F⟩] (fun κ=>[airP (L++[⟨m.to_,κ.2.1,m.at_,m.tr,m.be⟩]),memC W (κ.2.2)]) (fun κ=>[]) [.pointer (some ⟨0,0,some 0⟩),.int .i64 (x:Nat)] tysOK mixed Tryz.func63 (by rfl) (Tryz.call63) ⟨hi,hj,trivial⟩ ⟨⟨fun h=>⟨rfl,nlr _⟩,nlr _,nzj⟩,⟨fun h=>⟨rfl,nlr _⟩,nlr _,nzj⟩,trivial⟩ (fun κ _=>⟨⟨fun h=>⟨rfl,nlr _⟩,nlr _,nzj⟩,⟨fun h=>⟨rfl,nlr _⟩,nlr _,nzj⟩,trivial⟩) (by simp[Apart,hij]) ⟨.inr ⟨rfl,rfl⟩,.inr ⟨rfl,rfl⟩,trivial⟩ (fun κ _=>trivial) ⟨.ptr rfl,.plain rfl,trivial⟩ Opens.same ?_) ?_
 rotate_left
 ·rintro v ms ⟨κ,hκ,rfl,rfl⟩
  exact⟨κ.1.1,κ.1.2,κ.2.1,κ.2.2,hκ,rfl,rfl⟩
 rintro⟨⟩ -
 skip
 refine N.go ?_
 refine N.callAll (cGetM W F L x m bs 0 1 (by decide) _ (by rfl) (by rfl) hm hs (by omega)) fun v ms hR=>?_
 obtain⟨u1,F1,hM1,rfl,rfl⟩:=hR
 repeat' (refine N.go ?_;first|with_reducible (first|refine N.obl rfl ?_|refine N.forkT ?_)|fail)
 refine N.go ?_
 refine N.callAll (cPutM W F1 L m.to_ m.at_ m.tr m.be u1 bs 0 1 (by decide) _ (by rfl) (by rfl) hM1.src hb hl) fun v ms hR=>?_
 obtain⟨u2,F2,hM2,rfl,rfl⟩:=hR
 repeat' (refine N.go ?_;first|with_reducible refine N.forkT ?_|fail)
 refine N.go ?_
 refine N.endSame ?_
 refine N.some ((u1,F1),(u2,F2)) ⟨⟨hM1,hM2⟩,?_⟩
 refine N.obl (.plain rfl) ?_
 refine N.obl ⟨⟨_,rfl,fun h=>h,nlr _,nzj⟩,⟨_,rfl,fun h=>h,nlr _,nzj⟩,trivial⟩ ?_
 refine N.obl trivial ?_
 refine N.obl ⟨⟨.inr ⟨_,rfl,rfl⟩,.inr ⟨_,rfl,rfl⟩,trivial⟩,trivial⟩ ?_
 exact N.true
theorem qhk {o:Bool} {c p n:Nat} {T:Nat→Ml} {m:Ml} (i k:Nat) (hm:T i=m) (hk:k<5) (h:i<c) (e:p=i*5+k) {v:Value} (hv:v=mlc m k):Reads (mlA o c T) p false n v:=by
 subst hv hm;exact q5r i k hk h e
theorem qrq (L:List Ml) (x q:Int) (b:Int) (hx:x<0) (i:Nat) (h:Hp) (hi:h[i]?=some (some (airP L))):qad Tryz.prog 62 [.pointer (some ⟨i,0,some 0⟩),.int .i64 x,.int .i64 q,.int .u8 b] h (.int .i64 7) [(i,airP L)] []:=by
 refine qax (G:=tys) (airOK L) (airH L) [⟨i,airP L,airP L,airP L⟩] [] [.pointer (some ⟨0,0,some 0⟩),.int .i64 x,.int .i64 q,.int .u8 b] tysOK mixed Tryz.func62 (by rfl) (Tryz.call62) ⟨hi,trivial⟩ ⟨⟨fun h=>⟨rfl,nlr _⟩,nlr _,nzj⟩,trivial⟩ (by simp[Apart]) ⟨.inr ⟨rfl,rfl⟩,trivial⟩ trivial ⟨.ptr rfl,.plain rfl,.plain rfl,.plain rfl,trivial⟩ qat ?_
 intro β hβ
 cases β with
 | none=>
  obtain rfl:L=[]:=hβ
  repeat' (refine N.go ?_;first|with_reducible (first|refine N.forkT ?_|refine N.forkF ?_)|refine N.forkYes (by rw[decide_eq_true_eq];omega) ?_|fail)
  refine N.go ?_
  refine qc7 0 [] qdl (fun _=>⟨_,rfl,qft [],qah⟩) (by rfl) rfl (nlr _) rfl (fun x hx=>by cases hx) (fun x hx=>by cases hx) (qbi rfl) ?_
  refine N.obl (.plain rfl) ?_
  refine N.obl ⟨⟨_,rfl,fun h=>h,nlr _,nzj⟩,trivial⟩ ?_
  refine N.obl trivial ?_
  refine N.obl ⟨⟨.inr ⟨_,rfl,rfl⟩,trivial⟩,trivial⟩ ?_
  exact N.true
 | some r=>
  obtain⟨c,T⟩:=r
  obtain⟨hc1,hlc,hT⟩:=hβ
  repeat' (refine N.go ?_;first|with_reducible (first|refine N.forkT ?_|refine N.forkF ?_)|refine N.forkYes (by rw[decide_eq_true_eq];omega) ?_|fail)
  refine N.go ?_
  refine qbx 0 [] L 1 c T qdl qfn hc1 hlc hT (by rfl) rfl (nlr _) rfl (by rfl) (by decide) rfl (nlr _) (fun j hj=>qcx (qaq hj)) (fun x hx=>by cases hx) (fun x hx=>by cases hx) (qbi rfl) ?_
  refine N.obl (.plain rfl) ?_
  refine N.obl ⟨⟨_,rfl,fun h=>h,nlr _,nzj⟩,trivial⟩ ?_
  refine N.obl trivial ?_
  refine N.obl ⟨⟨.inr ⟨_,rfl,rfl⟩,trivial⟩,trivial⟩ ?_
  exact N.true
theorem qrr (L:List Ml) (x q:Int) (b:Int) (h0:0≤x) (hx:(L.length:Int)≤x) (i:Nat) (h:Hp) (hi:h[i]?=some (some (airP L))):qad Tryz.prog 62 [.pointer (some ⟨i,0,some 0⟩),.int .i64 x,.int .i64 q,.int .u8 b] h (.int .i64 7) [(i,airP L)] []:=by
 refine qax (G:=tys) (airOK L) (airH L) [⟨i,airP L,airP L,airP L⟩] [] [.pointer (some ⟨0,0,some 0⟩),.int .i64 x,.int .i64 q,.int .u8 b] tysOK mixed Tryz.func62 (by rfl) (Tryz.call62) ⟨hi,trivial⟩ ⟨⟨fun h=>⟨rfl,nlr _⟩,nlr _,nzj⟩,trivial⟩ (by simp[Apart]) ⟨.inr ⟨rfl,rfl⟩,trivial⟩ trivial ⟨.ptr rfl,.plain rfl,.plain rfl,.plain rfl,trivial⟩ qat ?_
 intro β hβ
 cases β with
 | none=>
  obtain rfl:L=[]:=hβ
  repeat' (refine N.go ?_;first|with_reducible refine N.forkF ?_|refine N.forkYes (by rw[decide_eq_true_eq];omega) ?_|refine N.forkNo (by rw[decide_eq_false_iff_not];omega) ?_|fail)
  refine N.go ?_
  refine qc7 0 [] qdl (fun _=>⟨_,rfl,qft [],qah⟩) (by rfl) rfl (nlr _) rfl (fun x hx=>by cases hx) (fun x hx=>by cases hx) (qbi rfl) ?_
  refine N.obl (.plain rfl) ?_
  refine N.obl ⟨⟨_,rfl,fun h=>h,nlr _,nzj⟩,trivial⟩ ?_
  refine N.obl trivial ?_
  refine N.obl ⟨⟨.inr ⟨_,rfl,rfl⟩,trivial⟩,trivial⟩ ?_
  exact N.true
 | some r=>
  obtain⟨c,T⟩:=r
  obtain⟨hc1,hlc,hT⟩:=hβ
  repeat' (refine N.go ?_;first|with_reducible refine N.forkF ?_|refine N.forkYes (by rw[decide_eq_true_eq];omega) ?_|refine N.forkNo (by rw[decide_eq_false_iff_not];omega) ?_|fail)
  refine N.go ?_
  refine qbx 0 [] L 1 c T qdl qfn hc1 hlc hT (by rfl) rfl (nlr _) rfl (by rfl) (by decide) rfl (nlr _) (fun j hj=>qcx (qaq hj)) (fun x hx=>by cases hx) (fun x hx=>by cases hx) (qbi rfl) ?_
  refine N.obl (.plain rfl) ?_
  refine N.obl ⟨⟨_,rfl,fun h=>h,nlr _,nzj⟩,trivial⟩ ?_
  refine N.obl trivial ?_
  refine N.obl ⟨⟨.inr ⟨_,rfl,rfl⟩,trivial⟩,trivial⟩ ?_
  exact N.true
theorem qrs (L:List Ml) (x:Nat) (q b:Int) (to_ at_ tr:Int) (u:Option Sl) (hm:L[x]?=some ⟨to_,u,at_,tr,true⟩) (i:Nat) (h:Hp) (hi:h[i]?=some (some (airP L))):qad Tryz.prog 62 [.pointer (some ⟨i,0,some 0⟩),.int .i64 (x:Nat),.int .i64 q,.int .u8 b] h (.int .i64 10) [(i,airP L)] []:=by
 refine qax (G:=tys) (airOK L) (airH L) [⟨i,airP L,airP L,airP L⟩] [] [.pointer (some ⟨0,0,some 0⟩),.int .i64 (x:Nat),.int .i64 q,.int .u8 b] tysOK mixed Tryz.func62 (by rfl) (Tryz.call62) ⟨hi,trivial⟩ ⟨⟨fun h=>⟨rfl,nlr _⟩,nlr _,nzj⟩,trivial⟩ (by simp[Apart]) ⟨.inr ⟨rfl,rfl⟩,trivial⟩ trivial ⟨.ptr rfl,.plain rfl,.plain rfl,.plain rfl,trivial⟩ qat ?_
 intro β hβ
 have hx:x<L.length:=(List.getElem?_eq_some_iff.1 hm).1
 cases β with
 | none=>
  obtain rfl:L=[]:=hβ
  simp at hx
 | some r=>
  obtain⟨c,T⟩:=r
  obtain⟨hc1,hlc,hT⟩:=hβ
  have hTx:=hT x _ hm
  repeat' (refine N.go ?_;first|with_reducible (first|refine N.forkT ?_|refine N.forkF ?_)|refine N.forkNo (by rw[decide_eq_false_iff_not];omega) ?_|refine N.idx x 1 rfl (by omega) ?_|refine N.load (.bool true) (qhk x 4 hTx (by decide) (by omega) rfl rfl) ?_|fail)
  refine N.go ?_
  refine qbx 0 [] L 1 c T qdl qfn hc1 hlc hT (by rfl) rfl (nlr _) rfl (by rfl) (by decide) rfl (nlr _) (fun j hj=>qcx (qaq hj)) (fun x hx=>by cases hx) (fun x hx=>by cases hx) (qbi rfl) ?_
  refine N.obl (.plain rfl) ?_
  refine N.obl ⟨⟨_,rfl,fun h=>h,nlr _,nzj⟩,trivial⟩ ?_
  refine N.obl trivial ?_
  refine N.obl ⟨⟨.inr ⟨_,rfl,rfl⟩,trivial⟩,trivial⟩ ?_
  exact N.true
theorem qvp (L:List Ml) (x:Nat) (q b:Int) (to_ at_ tr:Int) (u:Option Sl) (hm:L[x]?=some ⟨to_,u,at_,tr,false⟩) (hq:q<0) (i:Nat) (h:Hp) (hi:h[i]?=some (some (airP L))):qad Tryz.prog 62 [.pointer (some ⟨i,0,some 0⟩),.int .i64 (x:Nat),.int .i64 q,.int .u8 b] h (.int .i64 1) [(i,airP L)] []:=by
 refine qax (G:=tys) (airOK L) (airH L) [⟨i,airP L,airP L,airP L⟩] [] [.pointer (some ⟨0,0,some 0⟩),.int .i64 (x:Nat),.int .i64 q,.int .u8 b] tysOK mixed Tryz.func62 (by rfl) (Tryz.call62) ⟨hi,trivial⟩ ⟨⟨fun h=>⟨rfl,nlr _⟩,nlr _,nzj⟩,trivial⟩ (by simp[Apart]) ⟨.inr ⟨rfl,rfl⟩,trivial⟩ trivial ⟨.ptr rfl,.plain rfl,.plain rfl,.plain rfl,trivial⟩ qat ?_
 intro β hβ
 have hx:x<L.length:=(List.getElem?_eq_some_iff.1 hm).1
 cases β with
 | none=>
  obtain rfl:L=[]:=hβ
  simp at hx
 | some r=>
  obtain⟨c,T⟩:=r
  obtain⟨hc1,hlc,hT⟩:=hβ
  have hTx:=hT x _ hm
  repeat' (refine N.go ?_;first|with_reducible (first|refine N.forkT ?_|refine N.forkF ?_)|refine N.forkYes (by rw[decide_eq_true_eq];omega) ?_|refine N.forkNo (by rw[decide_eq_false_iff_not];omega) ?_|refine N.idx x 1 rfl (by omega) ?_|refine N.load (.bool false) (qhk x 4 hTx (by decide) (by omega) rfl rfl) ?_|fail)
  refine N.go ?_
  refine qbx 0 [] L 1 c T qdl qfn hc1 hlc hT (by rfl) rfl (nlr _) rfl (by rfl) (by decide) rfl (nlr _) (fun j hj=>qcx (qaq hj)) (fun x hx=>by cases hx) (fun x hx=>by cases hx) (qbi rfl) ?_
  refine N.obl (.plain rfl) ?_
  refine N.obl ⟨⟨_,rfl,fun h=>h,nlr _,nzj⟩,trivial⟩ ?_
  refine N.obl trivial ?_
  refine N.obl ⟨⟨.inr ⟨_,rfl,rfl⟩,trivial⟩,trivial⟩ ?_
  exact N.true
theorem qvq (L:List Ml) (x:Nat) (q b:Int) (to_ at_ tr:Int) (u:Option Sl) (hm:L[x]?=some ⟨to_,u,at_,tr,false⟩) (h0:0≤q) (hq:(uN u:Int)≤q) (i:Nat) (h:Hp) (hi:h[i]?=some (some (airP L))):qad Tryz.prog 62 [.pointer (some ⟨i,0,some 0⟩),.int .i64 (x:Nat),.int .i64 q,.int .u8 b] h (.int .i64 1) [(i,airP L)] []:=by
 refine qax (G:=tys) (airOK L) (airH L) [⟨i,airP L,airP L,airP L⟩] [] [.pointer (some ⟨0,0,some 0⟩),.int .i64 (x:Nat),.int .i64 q,.int .u8 b] tysOK mixed Tryz.func62 (by rfl) (Tryz.call62) ⟨hi,trivial⟩ ⟨⟨fun h=>⟨rfl,nlr _⟩,nlr _,nzj⟩,trivial⟩ (by simp[Apart]) ⟨.inr ⟨rfl,rfl⟩,trivial⟩ trivial ⟨.ptr rfl,.plain rfl,.plain rfl,.plain rfl,trivial⟩ qat ?_
 intro β hβ
 have hx:x<L.length:=(List.getElem?_eq_some_iff.1 hm).1
 cases β with
 | none=>
  obtain rfl:L=[]:=hβ
  simp at hx
 | some r=>
  obtain⟨c,T⟩:=r
  obtain⟨hc1,hlc,hT⟩:=hβ
  have hTx:=hT x _ hm
  repeat' (refine N.go ?_;first|with_reducible (first|refine N.forkT ?_|refine N.forkF ?_)|refine N.forkYes (by rw[decide_eq_true_eq];omega) ?_|refine N.forkNo (by rw[decide_eq_false_iff_not];omega) ?_|refine N.idx x 1 rfl (by omega) ?_|refine N.load (.bool false) (qhk x 4 hTx (by decide) (by omega) rfl rfl) ?_|refine N.load (uV u) (qhk x 1 hTx (by decide) (by omega) rfl rfl) ?_|refine N.op (qed rfl rfl ⟨_,rfl,_,Tryz.underlying39⟩) ?_|fail)
  refine N.go ?_
  refine qbx 0 [] L 1 c T qdl qfn hc1 hlc hT (by rfl) rfl (nlr _) rfl (by rfl) (by decide) rfl (nlr _) (fun j hj=>qcx (qaq hj)) (fun x hx=>by cases hx) (fun x hx=>by cases hx) (qbi rfl) ?_
  refine N.obl (.plain rfl) ?_
  refine N.obl ⟨⟨_,rfl,fun h=>h,nlr _,nzj⟩,trivial⟩ ?_
  refine N.obl trivial ?_
  refine N.obl ⟨⟨.inr ⟨_,rfl,rfl⟩,trivial⟩,trivial⟩ ?_
  exact N.true
theorem qvr (L:List Ml) (x:Nat) (q b:Int) (to_ at_ tr:Int) (u:Option Sl) (hm:L[x]?=some ⟨to_,u,at_,tr,false⟩) (h0:0≤q) (hq:q<(uN u:Int)) (hb:b=0) (i:Nat) (h:Hp) (hi:h[i]?=some (some (airP L))):qad Tryz.prog 62 [.pointer (some ⟨i,0,some 0⟩),.int .i64 (x:Nat),.int .i64 q,.int .u8 b] h (.int .i64 1) [(i,airP L)] []:=by
 refine qax (G:=tys) (airOK L) (airH L) [⟨i,airP L,airP L,airP L⟩] [] [.pointer (some ⟨0,0,some 0⟩),.int .i64 (x:Nat),.int .i64 q,.int .u8 b] tysOK mixed Tryz.func62 (by rfl) (Tryz.call62) ⟨hi,trivial⟩ ⟨⟨fun h=>⟨rfl,nlr _⟩,nlr _,nzj⟩,trivial⟩ (by simp[Apart]) ⟨.inr ⟨rfl,rfl⟩,trivial⟩ trivial ⟨.ptr rfl,.plain rfl,.plain rfl,.plain rfl,trivial⟩ qat ?_
 intro β hβ
 have hx:x<L.length:=(List.getElem?_eq_some_iff.1 hm).1
 cases β with
 | none=>
  obtain rfl:L=[]:=hβ
  simp at hx
 | some r=>
  obtain⟨c,T⟩:=r
  obtain⟨hc1,hlc,hT⟩:=hβ
  have hTx:=hT x _ hm
  repeat' (refine N.go ?_;first|with_reducible refine N.forkF ?_|refine N.forkNo (by rw[decide_eq_false_iff_not];omega) ?_|refine N.idx x 1 rfl (by omega) ?_|refine N.load (.bool false) (qhk x 4 hTx (by decide) (by omega) rfl rfl) ?_|refine N.load (uV u) (qhk x 1 hTx (by decide) (by omega) rfl rfl) ?_|refine N.op (qed rfl rfl ⟨_,rfl,_,Tryz.underlying39⟩) ?_|refine N.forkYes (by rw[hb];rfl) ?_|fail)
  refine N.go ?_
  refine qbx 0 [] L 1 c T qdl qfn hc1 hlc hT (by rfl) rfl (nlr _) rfl (by rfl) (by decide) rfl (nlr _) (fun j hj=>qcx (qaq hj)) (fun x hx=>by cases hx) (fun x hx=>by cases hx) (qbi rfl) ?_
  refine N.obl (.plain rfl) ?_
  refine N.obl ⟨⟨_,rfl,fun h=>h,nlr _,nzj⟩,trivial⟩ ?_
  refine N.obl trivial ?_
  refine N.obl ⟨⟨.inr ⟨_,rfl,rfl⟩,trivial⟩,trivial⟩ ?_
  exact N.true
theorem get_set {L:List Ml} {x:Nat} {y:Ml} {T:Nat→Ml} (hT:∀ i m,L[i]?=some m→T i=m) {z:Ml} (hz:z=y):∀ i m,(L.set x y)[i]?=some m→setM1 T x z i=m:=fun i m hm=>by
 subst hz
 by_cases e:x=i
 ·subst e
  have hl:=(List.getElem?_eq_some_iff.1 hm).1
  rw[List.length_set] at hl
  rw[List.getElem?_set_self hl] at hm
  rw[qqp];simpa using hm
 ·rw[List.getElem?_set_ne e] at hm
  rw[qqq (fun h=>e h.symm)];exact hT i m hm
abbrev bendV (y b:Int):Int:=IntKind.u8.wrap ((BitVec.ofInt IntKind.u8.bits y ^^^ BitVec.ofInt IntKind.u8.bits b).toNat:Int)
theorem q5u (W:World) (F:List By) (L:List Ml) (x q:Nat) (b:Int) (to_ at_ tr:Int) (e:By) (he:e∈F) (hm:L[x]?=some ⟨to_,e.s,at_,tr,false⟩) (hq:q<e.bs.length) (hb:b≠0) (i j:Nat) (hij:i≠j) (h:Hp) (hi:h[i]?=some (some (airP L))) (hj:h[j]?=some (some (memC W F))) :
  qad Tryz.prog 62 [.pointer (some ⟨i,0,some 0⟩),.int .i64 (x:Nat),.int .i64 (q:Nat),.int .u8 b] h (.int .i64 0) [(i,airP (L.set x ⟨to_,e.s,at_,tr,true⟩)),(j,memC W (setB F e.b q (bendV (e.bs.getD q 0) b)))] []:=by
 refine qax (G:=tys) (airOK L) (airO W F L) [⟨i,airP L,airP L,airP (L.set x ⟨to_,e.s,at_,tr,true⟩)⟩,⟨j,memC W F,memC W F,memC W (setB F e.b q (bendV (e.bs.getD q 0) b))⟩] [] [.pointer (some ⟨0,0,some 0⟩),.int .i64 (x:Nat),.int .i64 (q:Nat),.int .u8 b] tysOK mixed Tryz.func62 (by rfl) (Tryz.call62) ⟨hi,hj,trivial⟩ ⟨⟨fun h=>⟨rfl,nlr _⟩,nlr _,nzj⟩,⟨fun h=>⟨rfl,nlr _⟩,nlr _,nzj⟩,trivial⟩ (by simp[Apart,hij]) ⟨.inr ⟨rfl,rfl⟩,.inr ⟨rfl,rfl⟩,trivial⟩ trivial ⟨.ptr rfl,.plain rfl,.plain rfl,.plain rfl,trivial⟩ qfe ?_
 intro β hβ
 have hx:x<L.length:=(List.getElem?_eq_some_iff.1 hm).1
 cases β with
 | none=>
  obtain rfl:L=[]:=hβ
  simp at hx
 | some r=>
  obtain⟨c,T⟩:=r
  obtain⟨hc1,hlc,hT⟩:=hβ
  have hTx:=hT x _ hm
  repeat' (refine N.go ?_;first|with_reducible refine N.forkF ?_|refine N.forkNo (by rw[decide_eq_false_iff_not];omega) ?_|refine N.op (qed rfl rfl ⟨_,rfl,_,Tryz.underlying39⟩) ?_|refine N.forkNo (decide_eq_false (by show ¬ ((e.bs.length:Nat):Int)≤(q:Int);omega)) ?_|refine N.idx x 1 rfl (by omega) ?_|refine N.load (.bool false) (qhk x 4 hTx (by decide) (by omega) rfl rfl) ?_|refine N.load (uV e.s) (qhk x 1 hTx (by decide) (by omega) rfl rfl) ?_|refine N.forkNo (beq_false_of_ne hb) ?_|refine N.op (qec (sz:=1) (g:=q) tysOK rfl rfl (fun ρ=>qfm e.s ρ) rfl (by exact rfl) (by omega) (by show(q:Int)<(e.bs.length:Nat);omega) (by simp)) ?_|refine N.op (qw6 (i:=1) (F:=F) (v:=.int .u8 (e.bs.getD q 0)) tysOK rfl rfl rfl (by exact rfl) rfl (qtp (s:=⟨e.b,0,e.bs.length,e.c,none⟩) (.own he) hq (by simp))) ?_|refine N.op (qtq (i:=1) (F:=F) (e:=e) (j:=q) tysOK rfl rfl rfl rfl (by exact rfl) he hq) ?_|refine N.store _ (qyt rfl (by omega) rfl) ?_|fail)
  refine N.go ?_
  refine qff (W:=W) (F:=setB F e.b q (bendV (e.bs.getD q 0) b)) (L.set x ⟨to_,e.s,at_,tr,true⟩) 2 c (setM1 T x (T x).bent) rfl qj1 hc1 (by rw[List.length_set];exact hlc) (get_set hT (by rw[hTx])) (by rfl) rfl (nlr _) (by rw[List.length_set];rfl) (by rfl) (by rfl) (by decide) rfl (nlr _) (fun j hj=>qcx (qaq hj)) (qbi rfl) ?_
  refine N.obl (.plain rfl) ?_
  refine N.obl ⟨⟨_,rfl,fun h=>h,nlr _,nzj⟩,⟨_,rfl,fun h=>h,nlr _,nzj⟩,trivial⟩ ?_
  refine N.obl trivial ?_
  refine N.obl ⟨⟨.inr ⟨_,rfl,rfl⟩,.inr ⟨_,rfl,rfl⟩,trivial⟩,trivial⟩ ?_
  exact N.true
end Go.Proofs.YtdljelmbjdjpjaaGreat
