/-
  The types of this seat's program, as the evaluator reads them. Printed by a small program.
-/
import Derived.Test.YtfkngpmgcimdbaaGreatProg
import Derived.KernelRfl
import Derived.MapKept
import Derived.Shelf.SlIterI.Nil
import Derived.Shelf.SortM.Plain
import Derived.Shelf.SortM.SortNone
import Derived.Ground.GgzProg
import Derived.Ground.SlgmProg
import Derived.WideShapes
import Derived.WalkKit
import Derived.WalkSpells
import Derived.WalkLawsBesides
import Derived.ProofKit
import Derived.OpenShut
import Derived.ChangeOld
import Derived.SizedLaws
import Derived.Lib.Hide
import Derived.Deep.Slices
import Derived.Test.YtfkngpmgcimdbaaGreatK2
set_option linter.unusedVariables false
set_option linter.unusedSimpArgs false
set_option maxRecDepth 100000
set_option maxHeartbeats 20000000
theorem Go.Proofs.xm:type_of% @decide_eq_false_iff_not:=@decide_eq_false_iff_not
theorem Go.Proofs.xI:type_of% @not_false_eq_true:=@not_false_eq_true
theorem Go.Proofs.yk:type_of% @ge_iff_le:=@ge_iff_le
theorem Go.Proofs.xZ:type_of% @gt_iff_lt:=@gt_iff_lt
theorem Go.Proofs.xK:type_of% @List.not_mem_nil:=@List.not_mem_nil
theorem Go.Proofs.xn:type_of% @Go.IntKind.wrap_u64:=@Go.IntKind.wrap_u64
theorem Go.Proofs.xL:type_of% @List.nodup_cons:=@List.nodup_cons
theorem Go.Proofs.yU:type_of% @List.find?_cons:=@List.find?_cons
theorem Go.Proofs.zE:type_of% @Array.getElem?_toList:=@Array.getElem?_toList
theorem Go.Proofs.yS:type_of% @Bool.not_eq_eq_eq_not:=@Bool.not_eq_eq_eq_not
theorem Go.Proofs.zr:type_of% @Bool.not_eq_true':=@Bool.not_eq_true'
theorem Go.Proofs.yN:type_of% @List.nodup_nil:=@List.nodup_nil
theorem Go.Proofs.xQ:type_of% @Nat.lt_of_le_of_lt:=@Nat.lt_of_le_of_lt
theorem Go.Proofs.yV:type_of% @Nat.pow_lt_pow_right:=@Nat.pow_lt_pow_right
theorem Go.Proofs.zh:type_of% @Nat.one_mul:=@Nat.one_mul
theorem Go.Proofs.xC:type_of% @Nat.mod_eq_of_lt:=@Nat.mod_eq_of_lt
theorem Go.Proofs.xg:type_of% @decide_eq_true:=@decide_eq_true
theorem Go.Proofs.yv:type_of% @beq_iff_eq:=@beq_iff_eq
theorem Go.Proofs.yf:type_of% @Nat.pow_add:=@Nat.pow_add
theorem Go.Proofs.xR:type_of% @Nat.mul_assoc:=@Nat.mul_assoc
theorem Go.Proofs.zu:type_of% @Nat.mul_right_comm:=@Nat.mul_right_comm
theorem Go.Proofs.xU:type_of% @Nat.eq_zero_or_pos:=@Nat.eq_zero_or_pos
theorem Go.Proofs.zv:type_of% @List.append_nil:=@List.append_nil
theorem Go.Proofs.xV:type_of% @Nat.div_lt_iff_lt_mul:=@Nat.div_lt_iff_lt_mul
theorem Go.Proofs.xz:type_of% @Nat.div_add_mod:=@Nat.div_add_mod
theorem Go.Proofs.xk:type_of% @Nat.mul_comm:=@Nat.mul_comm
open Go.Proofs.Tryz
namespace Go.Proofs
section
variable{Z Y:Prop}
theorem Q0c(k:Y)(h:Wr Y->Z:=by
 intro kQ;repeat' (refine Ba ?_;first|refine Q5V ?_|refine Q5R ?_|refine Q64 ?_|refine Q60 ?_|fail)
 refine Ba ?_;exact kQ.o):Z:=h ⟨k⟩
theorem Q0N(h:Z:=by exact Q3x):Z:=h
theorem Q0O(h:Z:=by
 rw[e1] at he;obtain⟨rfl,rfl⟩:=Prod.mk.inj he;repeat' (refine Ba ?_;first|refine Q5V ?_|refine Q5R ?_|refine Bl ?_|refine Q6o ?_|refine Bc ⟨qjm Q9S rfl (nlr _) Q9S Q9S Q9S,xb⟩ ?_|refine Q61 ?_|exact Be|fail)):Z:=h
theorem Q0P(h:Z:=by
 repeat' (refine Ba ?_;first|refine Q5V ?_|refine Q5R ?_|with_reducible refine Bj (λhb=>?_) (λhb=>?_)|fail)
 all_goals
  refine jf7 ?_
  simp only[xh,xm,xG,false_iff,true_iff,iff_true,iff_false,reduceCtorEq,yj,xI,yk,xZ] at *
  omega):Z:=h
theorem Q1s(h:Z:=by
 rw[e];repeat' (refine Ba ?_;first|refine Q5V ?_|refine Q5R ?_|refine Bb (qhg _ _ _) ?_|with_reducible refine Bj (λhb=>?_) (λhb=>?_)|refine Q6o ?_|refine Bc xb ?_|exact Be|fail)):Z:=h
theorem Q1G(h:Z:=by repeat' (refine Ba ?_;first|refine Q5V ?_|refine Q5R ?_|exact Be|refine Q7K ?_|refine Q6m ?_|refine Q7C ?_|refine Bc (qfg λi _=>by rw[hset]) ?_|fail)):Z:=h
theorem Q1M(h:Z:=by repeat' (refine Ba ?_;first|refine Q5V ?_|refine Q5R ?_|exact Be|refine Q7K ?_|refine Q6m ?_|refine Bc (qf1 (l:=0) hcap (λj hj=>absurd hj Q9R) hgr) ?_|fail)):Z:=h
theorem Q22(h:Z:=by repeat' (refine Ba ?_;first|refine Q5V ?_|refine Q5R ?_|exact Be|refine Q7K ?_|refine Q6m ?_|fail)):Z:=h
theorem Q2l(h:Z:=by
 by_cases ej:k=j
 .subst ej;rw[xw QaG] at hj;exact .inl ⟨rfl,by simpa using hj.symm⟩
 .rw[xu ej] at hj;by_cases ei:i=j
  .subst ei;rw[xw hil] at hj;exact .inr (.inl ⟨rfl,by simpa using hj.symm⟩)
  .rw[xu ei] at hj;exact .inr (.inr ⟨λe=>ei e.symm,λe=>ej e.symm,hj⟩)):Z:=h
theorem Q2z(h:Z:=by
 refine Bc (.plain rfl) ?_;refine Bc Q8c ?_;exact Q0N):Z:=h
theorem Q2B(h:Z:=by
 by_cases ej:k=j
 .subst ej;rw[xw QaG] at hj;cases hj
 .rw[xu ej] at hj;by_cases ei:i=j
  .subst ei;rw[xw hil] at hj;exact .inl ⟨rfl,by simpa using hj.symm⟩
  .rw[xu ei] at hj;exact .inr ⟨λe=>ei e.symm,λe=>ej e.symm,hj⟩):Z:=h
theorem Q2E(k:Y)(h:Wr Y->Z:=by
 intro kQ;refine Bc Q8c ?_;exact kQ.o):Z:=h ⟨k⟩
theorem Q2F(h:Z:=by
 refine qav key λv ms hR=>?_
 obtain⟨κ,hκ,rfl,rfl⟩:=hR;cases κ with
 | none=>exact .inl ⟨hκ,rfl,rfl⟩
 | some cap=>exact .inr ⟨cap,hκ.1,hκ.2,rfl,rfl⟩):Z:=h
theorem Q2S(h:Z:=by
 funext i;unfold allF seten;by_cases h0:i=r
 .subst h0;rw[if_pos Q9R,if_pos rfl];exact qlf hk0 hg
 .rw[if_neg h0];by_cases h1:i<r
  .rw[if_pos Q9R];exact(if_pos h1).symm
  .rw[if_neg Q9R];exact(if_neg h1).symm):Z:=h
theorem Q31(h:Z:=by repeat' (refine Ba ?_;first|refine Q5V ?_|refine Q5R ?_|exact Be|refine Q6a ?_|fail)):Z:=h
theorem Q37(h:Z:=by
 rw[hset];unfold seten jgb;by_cases h0:i<r
 .rw[if_neg Q9R,if_pos h0]
 .rw[if_neg h0];by_cases h1:i=r
  .rw[if_pos h1,if_pos h1]
  .rw[if_neg h1,if_neg h1];unfold allF;rw[if_neg h0]):Z:=h
theorem Q3x(h:Z:=by
 refine Bc xb ?_;refine Bc ⟨⟨.inr ⟨_,rfl,rfl⟩,xb⟩,xb⟩ ?_;exact Be):Z:=h
theorem Q3A(h:Z:=by
 unfold allF jgb;by_cases h0:i=0
 .subst h0;rw[if_pos Q9R,if_neg Q9R,if_pos rfl];exact qlf hk0 hg
 .rw[if_neg Q9R,if_neg Q9R,if_neg h0]):Z:=h
theorem Q3I(h:Z:=by
 .by_cases ei:i=j
  .exact⟨_,by subst ei;rw[xu ej,xw hil]⟩
  .exact⟨d,by rw[xu ej,xu ei];exact hd⟩):Z:=h
theorem Q3J(h:Z:=by
 have:=hkk k hk;simp only[xj,Prod.mk.injEq,xK,or_false] at hm';omega):Z:=h
theorem Q3T(h:Z:=by
 match j,hj with
 | 0,_=>exact .plain rfl
 | 1,_=>exact .plain rfl
 | 2,_=>exact .plain rfl):Z:=h
theorem Q3X(h:Z:=by simp[Builtin.delete_,hts,run_underlying ht,MapKept.run_getObj_map hb,run_checkKey hk (k:=xc k) rfl,run_findKey hk h2,MapKept.run_setObj_map _ hb,Result.andThen]):Z:=h
theorem Q4n(h:Z:=by
 match k,h with
 | 0,_=>rfl
 | 1,_=>rfl
 | 2,_=>rfl
 | 3,_=>rfl
 | 4,_=>rfl
 | 5,_=>rfl
 | 6,_=>rfl
 | 7,_=>rfl
 | 8,_=>rfl
 | 9,_=>rfl):Z:=h
theorem Q4T(h:Z:=by
 have:=congrArg (λl=>l.map Prod.fst) M.ents;simpa[zp,Function.comp_def] using this):Z:=h
theorem Q4Z(h:Z:=by
 refine Bc Q87 ?_;exact Be):Z:=h
theorem Q5s(h:Z:=by
 simp only[xj,Prod.mk.injEq,xK,or_false] at hk;omega):Z:=h
theorem Q5z(h:Z:=by
 obtain⟨x,hx,hd⟩:=H.cell j _ hi l hl;exact⟨x,hx,hd.more hag fil⟩):Z:=h
theorem Q5F(h:Z:=by rw[qgg h1,if_pos Q9R];exact hc j h1):Z:=h
theorem Q5J(h:Z:=by
 have e:bitW l q=0:=by unfold bitW;rw[if_pos Q9R]
 exact Q1s):Z:=h
theorem Q5N(h:Z:=by
 rw[e] at h1;exact(h1 (0,0) (λ_=>False) default λ_ h=>h).elim):Z:=h
theorem Q5R(k:Y)(h:Wr Y->Z:=by intro kQ;(first|with_reducible (first|refine N.eq ?_|refine Bc rfl ?_|refine Bc ⟨by kernel_rfl,by kernel_rfl⟩ ?_|refine N.alt ?_|refine Bx ?_|refine Bz ?_)|fail);exact kQ.o):Z:=h ⟨k⟩
theorem Q5V(k:Y)(h:Wr Y->Z:=by intro kQ;(first|with_reducible refine Bc Q9V ?_|fail);exact kQ.o):Z:=h ⟨k⟩
theorem Q60(k:Y)(h:Wr Y->Z:=by intro kQ;(first|refine Bf Qar ?_|fail);exact kQ.o):Z:=h ⟨k⟩
theorem Q61(k:Y)(h:Wr Y->Z:=by intro kQ;(first|refine Bc xb ?_|refine Bc ⟨⟨.inr ⟨_,rfl,rfl⟩,xb⟩,xb⟩ ?_|fail);exact kQ.o):Z:=h ⟨k⟩
theorem Q64(k:Y)(h:Wr Y->Z:=by intro kQ;(first|refine Bg Qb7 ?_|fail);exact kQ.o):Z:=h ⟨k⟩
theorem Q6a(k:Y)(h:Wr Y->Z:=by intro kQ;(first|with_reducible refine Bc (ChunkLe.refl _) ?_|fail);exact kQ.o):Z:=h ⟨k⟩
theorem Q6m(k:Y)(h:Wr Y->Z:=by intro kQ;(first|refine Bc qb0 ?_|refine Bc (qgn Q9S) ?_|refine Bc qe9 ?_|refine Bc (.plain Q9S) ?_|refine Bc (.one (.ptr rfl)) ?_|refine Bc (.one (.map rfl)) ?_|refine Bc (.one (.slice rfl)) ?_|fail);exact kQ.o):Z:=h ⟨k⟩
theorem Q6o(k:Y)(h:Wr Y->Z:=by intro kQ;(first|refine Bc (.plain rfl) ?_|fail);exact kQ.o):Z:=h ⟨k⟩
theorem Q6S(k:Y)(h:Wr Y->Z:=by intro kQ;(first|with_reducible (first|refine N.min2 ?_|refine N.max2 ?_)|fail);exact kQ.o):Z:=h ⟨k⟩
theorem Q7C(k:Y)(h:Wr Y->Z:=by intro kQ;(first|refine Bc (jky (qbz QaQ) rfl) ?_|fail);exact kQ.o):Z:=h ⟨k⟩
theorem Q7K(k:Y)(h:Wr Y->Z:=by intro kQ;(first|refine Bc (qez Q9S) ?_|refine Bc (qci Q9S Q9S) ?_|fail);exact kQ.o):Z:=h ⟨k⟩
theorem Q7Q(k:Y)(h:Wr Y->Z:=by intro kQ;(first|refine qb7 entV T.E rfl underlying128 underlying3 type114 rfl (entV e1) QaD rfl ?_|fail);exact kQ.o):Z:=h ⟨k⟩
theorem Q7V(k:Y)(h:Wr Y->Z:=by intro kQ;(first|refine qb7 entV E rfl underlying128 underlying3 type114 rfl (entV e1) QaD rfl ?_|fail);exact kQ.o):Z:=h ⟨k⟩
theorem Q7X(h:Z:=by first|exact ⟨λh=>⟨rfl,nlr _⟩,nlr _,nzj⟩|fail):Z:=h
theorem Q81(h:Z:=by first|exact ⟨.inr ⟨rfl,rfl⟩,xb⟩|fail):Z:=h
theorem Q83(h:Z:=by first|exact ⟨.ptr rfl,.plain rfl,xb⟩|fail):Z:=h
theorem Q87(h:Z:=by first|exact ⟨⟨.inr ⟨_,rfl,rfl⟩,xb⟩,.inl rfl,xb⟩|fail):Z:=h
theorem Q8c(h:Z:=by first|exact ⟨⟨_,rfl,id,nlr _,nzj⟩,xb⟩|fail):Z:=h
theorem Q8O(h:Z:=by first|exact qf9 Q9S Q9S|fail):Z:=h
theorem Q8V(h:Z:=by first|exact λρ ρ' ha=>by have:=ha 8 ⟨_,rfl⟩;simp[den,den2,den1,den0,jft,this]|fail):Z:=h
theorem Q9e(h:Z:=by first|exact ⟨⟨λh=>Qaa,by show 2<=3;decide,qt8 Q9S⟩,⟨λh=>⟨rfl,nlr _⟩,nlr _,qcf⟩,xb⟩|fail):Z:=h
theorem Q9I(h:Z:=by first|exact λκ _=>⟨Q7X,xb⟩|fail):Z:=h
theorem Q9S(h:Z:=by rfl):Z:=h
theorem Q9T(h:Z:=by first|exact qaj _|exact qal _ _ _|rfl|(simp only[qam,yx,List.all_nil,qad,qaf,qag];rfl)):Z:=h
theorem Q9U(h:Z:=by first|rfl|(simp only[yx,List.all_nil,qad,qaf,qag];rfl)):Z:=h
theorem Q9V(h:Z:=by decide):Z:=h
theorem Q9W(h:Z:=by kernel_rfl):Z:=h
theorem Q9X(h:Z:=by simp[Apart]):Z:=h
theorem Qaj(h:Z:=by first|rfl|omega):Z:=h
theorem Qar(h:Z:=by rw[xm];omega):Z:=h
theorem QaD(h:Z:=by rw[hg];rfl):Z:=h
theorem QaG(h:Z:=by simpa using hkl):Z:=h
theorem QaQ(h:Z:=by rw[je5 _ Q9R Q9R];omega):Z:=h
theorem Qb7(h:Z:=by rw[xh];omega):Z:=h
theorem Qbj(h:Z:=by show 0<cap*10;have:=hκ.1;have:=hκ.2;omega):Z:=h
end
end Go.Proofs

namespace Go.Proofs.YtfkngpmgcimdbaaGreat.Sx
open Go
noncomputable def tys:Tys:=[(0,Tryz.t0,Tryz.t0.desc),
 (1,Tryz.t1,Tryz.t1.desc),
 (2,Tryz.t2,Tryz.t2.desc),
 (3,Tryz.t3,Tryz.t3.desc),
 (4,Tryz.t4,Tryz.t4.desc),
 (5,Tryz.t5,Tryz.t5.desc),
 (6,Tryz.t6,Tryz.t5.desc),
 (7,Tryz.t7,Tryz.t7.desc),
 (8,Tryz.t8,Tryz.t7.desc),
 (9,Tryz.t9,Tryz.t9.desc),
 (10,Tryz.t10,Tryz.t9.desc),
 (11,Tryz.t11,Tryz.t9.desc),
 (12,Tryz.t12,Tryz.t12.desc),
 (13,Tryz.t13,Tryz.t13.desc),
 (14,Tryz.t14,Tryz.t13.desc),
 (15,Tryz.t15,Tryz.t15.desc),
 (16,Tryz.t16,Tryz.t16.desc),
 (17,Tryz.t17,Tryz.t17.desc),
 (18,Tryz.t18,Tryz.t18.desc),
 (19,Tryz.t19,Tryz.t18.desc),
 (20,Tryz.t20,Tryz.t20.desc),
 (21,Tryz.t21,Tryz.t21.desc),
 (22,Tryz.t22,Tryz.t22.desc),
 (23,Tryz.t23,Tryz.t22.desc),
 (24,Tryz.t24,Tryz.t24.desc),
 (25,Tryz.t25,Tryz.t24.desc),
 (26,Tryz.t26,Tryz.t26.desc),
 (27,Tryz.t27,Tryz.t26.desc),
 (28,Tryz.t28,Tryz.t28.desc),
 (29,Tryz.t29,Tryz.t29.desc),
 (30,Tryz.t30,Tryz.t29.desc),
 (31,Tryz.t31,Tryz.t31.desc),
 (32,Tryz.t32,Tryz.t32.desc),
 (33,Tryz.t33,Tryz.t33.desc),
 (34,Tryz.t34,Tryz.t34.desc),
 (35,Tryz.t35,Tryz.t35.desc),
 (36,Tryz.t36,Tryz.t35.desc),
 (37,Tryz.t37,Tryz.t37.desc),
 (38,Tryz.t38,Tryz.t38.desc),
 (39,Tryz.t39,Tryz.t38.desc),
 (40,Tryz.t40,Tryz.t40.desc),
 (41,Tryz.t41,Tryz.t41.desc),
 (42,Tryz.t42,Tryz.t3.desc),
 (43,Tryz.t43,Tryz.t43.desc),
 (44,Tryz.t44,Tryz.t44.desc),
 (45,Tryz.t45,Tryz.t45.desc),
 (46,Tryz.t46,Tryz.t46.desc),
 (47,Tryz.t47,Tryz.t47.desc),
 (48,Tryz.t48,Tryz.t47.desc),
 (49,Tryz.t49,Tryz.t49.desc),
 (50,Tryz.t50,Tryz.t50.desc),
 (51,Tryz.t51,Tryz.t51.desc),
 (52,Tryz.t52,Tryz.t52.desc),
 (53,Tryz.t53,Tryz.t53.desc),
 (54,Tryz.t54,Tryz.t54.desc),
 (55,Tryz.t55,Tryz.t55.desc),
 (56,Tryz.t56,Tryz.t55.desc),
 (57,Tryz.t57,Tryz.t57.desc),
 (58,Tryz.t58,Tryz.t58.desc),
 (59,Tryz.t59,Tryz.t59.desc),
 (60,Tryz.t60,Tryz.t60.desc),
 (61,Tryz.t61,Tryz.t61.desc),
 (62,Tryz.t62,Tryz.t62.desc),
 (63,Tryz.t63,Tryz.t63.desc),
 (64,Tryz.t64,Tryz.t64.desc),
 (65,Tryz.t65,Tryz.t65.desc),
 (66,Tryz.t66,Tryz.t66.desc),
 (67,Tryz.t67,Tryz.t67.desc),
 (68,Tryz.t68,Tryz.t68.desc),
 (69,Tryz.t69,Tryz.t69.desc),
 (70,Tryz.t70,Tryz.t70.desc),
 (71,Tryz.t71,Tryz.t71.desc),
 (72,Tryz.t72,Tryz.t72.desc),
 (73,Tryz.t73,Tryz.t73.desc),
 (74,Tryz.t74,Tryz.t74.desc),
 (75,Tryz.t75,Tryz.t75.desc),
 (76,Tryz.t76,Tryz.t76.desc),
 (77,Tryz.t77,Tryz.t77.desc),
 (78,Tryz.t78,Tryz.t78.desc),
 (79,Tryz.t79,Tryz.t79.desc),
 (80,Tryz.t80,Tryz.t80.desc),
 (81,Tryz.t81,Tryz.t80.desc),
 (82,Tryz.t82,Tryz.t82.desc),
 (83,Tryz.t83,Tryz.t83.desc),
 (84,Tryz.t84,Tryz.t84.desc),
 (85,Tryz.t85,Tryz.t85.desc),
 (86,Tryz.t86,Tryz.t86.desc),
 (87,Tryz.t87,Tryz.t87.desc),
 (88,Tryz.t88,Tryz.t88.desc),
 (89,Tryz.t89,Tryz.t88.desc),
 (90,Tryz.t90,Tryz.t90.desc),
 (91,Tryz.t91,Tryz.t91.desc),
 (92,Tryz.t92,Tryz.t92.desc),
 (93,Tryz.t93,Tryz.t93.desc),
 (94,Tryz.t94,Tryz.t94.desc),
 (95,Tryz.t95,Tryz.t95.desc),
 (96,Tryz.t96,Tryz.t95.desc),
 (97,Tryz.t97,Tryz.t97.desc),
 (98,Tryz.t98,Tryz.t98.desc),
 (99,Tryz.t99,Tryz.t99.desc),
 (100,Tryz.t100,Tryz.t100.desc),
 (101,Tryz.t101,Tryz.t101.desc),
 (102,Tryz.t102,Tryz.t102.desc),
 (103,Tryz.t103,Tryz.t103.desc),
 (104,Tryz.t104,Tryz.t104.desc),
 (105,Tryz.t105,Tryz.t105.desc),
 (106,Tryz.t106,Tryz.t106.desc),
 (107,Tryz.t107,Tryz.t107.desc),
 (108,Tryz.t108,Tryz.t108.desc),
 (109,Tryz.t109,Tryz.t109.desc),
 (110,Tryz.t110,Tryz.t109.desc),
 (111,Tryz.t111,Tryz.t111.desc),
 (112,Tryz.t112,Tryz.t112.desc),
 (113,Tryz.t113,Tryz.t113.desc),
 (114,Tryz.t114,Tryz.t113.desc),
 (115,Tryz.t115,Tryz.t115.desc),
 (116,Tryz.t116,Tryz.t116.desc),
 (117,Tryz.t117,Tryz.t117.desc),
 (118,Tryz.t118,Tryz.t118.desc),
 (119,Tryz.t119,Tryz.t119.desc),
 (120,Tryz.t120,Tryz.t120.desc),
 (121,Tryz.t121,Tryz.t121.desc),
 (122,Tryz.t122,Tryz.t121.desc),
 (123,Tryz.t123,Tryz.t123.desc),
 (124,Tryz.t124,Tryz.t123.desc),
 (125,Tryz.t125,Tryz.t125.desc),
 (126,Tryz.t126,Tryz.t126.desc),
 (127,Tryz.t127,Tryz.t126.desc),
 (128,Tryz.t128,Tryz.t128.desc),
 (129,Tryz.t129,Tryz.t129.desc),
 (130,Tryz.t130,Tryz.t130.desc),
 (131,Tryz.t131,Tryz.t130.desc),
 (132,Tryz.t132,Tryz.t132.desc),
 (133,Tryz.t133,Tryz.t132.desc),
 (134,Tryz.t134,Tryz.t134.desc),
 (135,Tryz.t135,Tryz.t134.desc),
 (136,Tryz.t136,Tryz.t136.desc),
 (137,Tryz.t137,Tryz.t136.desc),
 (138,Tryz.t138,Tryz.t138.desc),
 (139,Tryz.t139,Tryz.t138.desc),
 (140,Tryz.t140,Tryz.t140.desc),
 (141,Tryz.t141,Tryz.t141.desc),
 (142,Tryz.t142,Tryz.t142.desc),
 (143,Tryz.t143,Tryz.t143.desc),
 (144,Tryz.t144,Tryz.t144.desc),
 (145,Tryz.t145,Tryz.t145.desc),
 (146,Tryz.t146,Tryz.t146.desc),
 (147,Tryz.t147,Tryz.t147.desc),
 (148,Tryz.t148,Tryz.t148.desc),
 (149,Tryz.t149,Tryz.t149.desc),
 (150,Tryz.t150,Tryz.t150.desc),
 (151,Tryz.t151,Tryz.t151.desc),
 (152,Tryz.t152,Tryz.t152.desc),
 (153,Tryz.t153,Tryz.t153.desc),
 (154,Tryz.t154,Tryz.t153.desc),
 (155,Tryz.t155,Tryz.t155.desc),
 (156,Tryz.t156,Tryz.t156.desc),
 (157,Tryz.t157,Tryz.t157.desc),
 (158,Tryz.t158,Tryz.t158.desc),
 (159,Tryz.t159,Tryz.t158.desc),
 (160,Tryz.t160,Tryz.t160.desc),
 (161,Tryz.t161,Tryz.t161.desc),
 (162,Tryz.t162,Tryz.t162.desc),
 (163,Tryz.t163,Tryz.t163.desc),
 (164,Tryz.t164,Tryz.t164.desc),
 (165,Tryz.t165,Tryz.t165.desc),
 (166,Tryz.t166,Tryz.t166.desc),
 (167,Tryz.t167,Tryz.t166.desc),
 (168,Tryz.t168,Tryz.t168.desc),
 (169,Tryz.t169,Tryz.t169.desc),
 (170,Tryz.t170,Tryz.t170.desc),
 (171,Tryz.t171,Tryz.t171.desc),
 (172,Tryz.t172,Tryz.t172.desc),
 (173,Tryz.t173,Tryz.t173.desc),
 (174,Tryz.t174,Tryz.t174.desc),
 (175,Tryz.t175,Tryz.t175.desc),
 (176,Tryz.t176,Tryz.t176.desc),
 (177,Tryz.t177,Tryz.t177.desc),
 (178,Tryz.t178,Tryz.t178.desc),
 (179,Tryz.t179,Tryz.t179.desc),
 (180,Tryz.t180,Tryz.t180.desc),
 (181,Tryz.t181,Tryz.t181.desc),
 (182,Tryz.t182,Tryz.t182.desc),
 (183,Tryz.t183,Tryz.t183.desc),
 (184,Tryz.t184,Tryz.t184.desc),
 (185,Tryz.t185,Tryz.t185.desc),
 (186,Tryz.t186,Tryz.t186.desc),
 (187,Tryz.t187,Tryz.t186.desc),
 (188,Tryz.t188,Tryz.t188.desc),
 (189,Tryz.t189,Tryz.t189.desc),
 (190,Tryz.t190,Tryz.t190.desc),
 (191,Tryz.t191,Tryz.t191.desc),
 (192,Tryz.t192,Tryz.t192.desc),
 (193,Tryz.t193,Tryz.t193.desc),
 (194,Tryz.t194,Tryz.t194.desc),
 (195,Tryz.t195,Tryz.t195.desc),
 (196,Tryz.t196,Tryz.t196.desc),
 (197,Tryz.t197,Tryz.t197.desc),
 (198,Tryz.t198,Tryz.t198.desc),
 (199,Tryz.t199,Tryz.t199.desc),
 (200,Tryz.t200,Tryz.t200.desc),
 (201,Tryz.t201,Tryz.t200.desc),
 (202,Tryz.t202,Tryz.t202.desc),
 (203,Tryz.t203,Tryz.t203.desc),
 (204,Tryz.t204,Tryz.t204.desc),
 (205,Tryz.t205,Tryz.t205.desc),
 (206,Tryz.t206,Tryz.t206.desc),
 (207,Tryz.t207,Tryz.t207.desc),
 (208,Tryz.t208,Tryz.t208.desc),
 (209,Tryz.t209,Tryz.t209.desc),
 (210,Tryz.t210,Tryz.t210.desc),
 (211,Tryz.t211,Tryz.t211.desc),
 (212,Tryz.t212,Tryz.t212.desc),
 (213,Tryz.t213,Tryz.t213.desc),
 (214,Tryz.t214,Tryz.t214.desc),
 (215,Tryz.t215,Tryz.t215.desc),
 (216,Tryz.t216,Tryz.t216.desc),
 (217,Tryz.t217,Tryz.t217.desc),
 (218,Tryz.t218,Tryz.t218.desc),
 (219,Tryz.t219,Tryz.t219.desc),
 (220,Tryz.t220,Tryz.t220.desc),
 (221,Tryz.t221,Tryz.t221.desc),
 (222,Tryz.t222,Tryz.t222.desc),
 (223,Tryz.t223,Tryz.t223.desc),
 (224,Tryz.t224,Tryz.t224.desc),
 (225,Tryz.t225,Tryz.t225.desc),
 (226,Tryz.t226,Tryz.t226.desc),
 (227,Tryz.t227,Tryz.t227.desc),
 (228,Tryz.t228,Tryz.t228.desc),
 (229,Tryz.t229,Tryz.t229.desc),
 (230,Tryz.t230,Tryz.t230.desc),
 (231,Tryz.t231,Tryz.t231.desc),
 (232,Tryz.t232,Tryz.t232.desc),
 (233,Tryz.t233,Tryz.t233.desc),
 (234,Tryz.t234,Tryz.t234.desc),
 (235,Tryz.t235,Tryz.t235.desc),
 (236,Tryz.t236,Tryz.t236.desc),
 (237,Tryz.t237,Tryz.t237.desc),
 (238,Tryz.t238,Tryz.t237.desc),
 (239,Tryz.t239,Tryz.t239.desc),
 (240,Tryz.t240,Tryz.t240.desc),
 (241,Tryz.t241,Tryz.t241.desc),
 (242,Tryz.t242,Tryz.t242.desc),
 (243,Tryz.t243,Tryz.t243.desc),
 (244,Tryz.t244,Tryz.t244.desc),
 (245,Tryz.t245,Tryz.t245.desc),
 (246,Tryz.t246,Tryz.t246.desc),
 (247,Tryz.t247,Tryz.t3.desc),
 (248,Tryz.t248,Tryz.t248.desc),
 (249,Tryz.t249,Tryz.t249.desc),
 (250,Tryz.t250,Tryz.t250.desc),
 (251,Tryz.t251,Tryz.t251.desc),
 (252,Tryz.t252,Tryz.t252.desc),
 (253,Tryz.t253,Tryz.t253.desc),
 (254,Tryz.t254,Tryz.t254.desc),
 (255,Tryz.t255,Tryz.t255.desc),
 (256,Tryz.t256,Tryz.t256.desc),
 (257,Tryz.t257,Tryz.t257.desc),
 (258,Tryz.t258,Tryz.t258.desc),
 (259,Tryz.t259,Tryz.t259.desc),
 (260,Tryz.t260,Tryz.t259.desc),
 (261,Tryz.t261,Tryz.t261.desc),
 (262,Tryz.t262,Tryz.t262.desc),
 (263,Tryz.t263,Tryz.t263.desc),
 (264,Tryz.t264,Tryz.t264.desc),
 (265,Tryz.t265,Tryz.t265.desc),
 (266,Tryz.t266,Tryz.t266.desc),
 (267,Tryz.t267,Tryz.t267.desc),
 (268,Tryz.t268,Tryz.t267.desc),
 (269,Tryz.t269,Tryz.t269.desc),
 (270,Tryz.t270,Tryz.t270.desc),
 (271,Tryz.t271,Tryz.t271.desc),
 (272,Tryz.t272,Tryz.t58.desc),
 (273,Tryz.t273,Tryz.t273.desc),
 (274,Tryz.t274,Tryz.t274.desc),
 (275,Tryz.t275,Tryz.t275.desc),
 (276,Tryz.t276,Tryz.t276.desc),
 (277,Tryz.t277,Tryz.t277.desc),
 (278,Tryz.t278,Tryz.t278.desc),
 (279,Tryz.t279,Tryz.t279.desc),
 (280,Tryz.t280,Tryz.t279.desc),
 (281,Tryz.t281,Tryz.t281.desc),
 (282,Tryz.t282,Tryz.t281.desc),
 (283,Tryz.t283,Tryz.t283.desc),
 (284,Tryz.t284,Tryz.t284.desc),
 (285,Tryz.t285,Tryz.t285.desc),
 (286,Tryz.t286,Tryz.t286.desc),
 (287,Tryz.t287,Tryz.t287.desc),
 (288,Tryz.t288,Tryz.t288.desc),
 (289,Tryz.t289,Tryz.t289.desc),
 (290,Tryz.t290,Tryz.t290.desc),
 (291,Tryz.t291,Tryz.t291.desc),
 (292,Tryz.t292,Tryz.t292.desc),
 (293,Tryz.t293,Tryz.t293.desc),
 (294,Tryz.t294,Tryz.t294.desc),
 (295,Tryz.t295,Tryz.t295.desc),
 (296,Tryz.t296,Tryz.t296.desc),
 (297,Tryz.t297,Tryz.t297.desc),
 (298,Tryz.t298,Tryz.t298.desc),
 (299,Tryz.t299,Tryz.t299.desc),
 (300,Tryz.t300,Tryz.t300.desc),
 (301,Tryz.t301,Tryz.t301.desc),
 (302,Tryz.t302,Tryz.t302.desc),
 (303,Tryz.t303,Tryz.t303.desc),
 (304,Tryz.t304,Tryz.t304.desc),
 (305,Tryz.t305,Tryz.t305.desc),
 (306,Tryz.t306,Tryz.t306.desc),
 (307,Tryz.t307,Tryz.t307.desc),
 (308,Tryz.t308,Tryz.t308.desc),
 (309,Tryz.t309,Tryz.t309.desc),
 (310,Tryz.t310,Tryz.t310.desc),
 (311,Tryz.t311,Tryz.t311.desc),
 (312,Tryz.t312,Tryz.t312.desc),
 (313,Tryz.t313,Tryz.t313.desc),
 (314,Tryz.t314,Tryz.t314.desc),
 (315,Tryz.t315,Tryz.t315.desc),
 (316,Tryz.t316,Tryz.t316.desc),
 (317,Tryz.t317,Tryz.t317.desc),
 (318,Tryz.t318,Tryz.t317.desc),
 (319,Tryz.t319,Tryz.t319.desc),
 (320,Tryz.t320,Tryz.t320.desc),
 (321,Tryz.t321,Tryz.t321.desc),
 (322,Tryz.t322,Tryz.t322.desc),
 (323,Tryz.t323,Tryz.t323.desc),
 (324,Tryz.t324,Tryz.t324.desc),
 (325,Tryz.t325,Tryz.t324.desc),
 (326,Tryz.t326,Tryz.t326.desc),
 (327,Tryz.t327,Tryz.t327.desc),
 (328,Tryz.t328,Tryz.t327.desc),
 (329,Tryz.t329,Tryz.t5.desc),
 (330,Tryz.t330,Tryz.t5.desc),
 (331,Tryz.t331,Tryz.t331.desc),
 (332,Tryz.t332,Tryz.t332.desc),
 (333,Tryz.t333,Tryz.t21.desc),
 (334,Tryz.t334,Tryz.t21.desc),
 (335,Tryz.t335,Tryz.t335.desc),
 (336,Tryz.t336,Tryz.t335.desc),
 (337,Tryz.t337,Tryz.t337.desc),
 (338,Tryz.t338,Tryz.t337.desc),
 (339,Tryz.t339,Tryz.t339.desc)]
theorem tysOK:jfe prog tys:=TysAll.ok (
 ⟨⟨type0,underlying0⟩,
 ⟨⟨type1,underlying1⟩,
 ⟨⟨type2,underlying2⟩,
 ⟨⟨type3,underlying3⟩,
 ⟨⟨type4,underlying4⟩,
 ⟨⟨type5,underlying5⟩,
 ⟨⟨type6,underlying6⟩,
 ⟨⟨type7,underlying7⟩,
 ⟨⟨type8,underlying8⟩,
 ⟨⟨type9,underlying9⟩,
 ⟨⟨type10,underlying10⟩,
 ⟨⟨type11,underlying11⟩,
 ⟨⟨type12,underlying12⟩,
 ⟨⟨type13,underlying13⟩,
 ⟨⟨type14,underlying14⟩,
 ⟨⟨type15,underlying15⟩,
 ⟨⟨type16,underlying16⟩,
 ⟨⟨type17,underlying17⟩,
 ⟨⟨type18,underlying18⟩,
 ⟨⟨type19,underlying19⟩,
 ⟨⟨type20,underlying20⟩,
 ⟨⟨type21,underlying21⟩,
 ⟨⟨type22,underlying22⟩,
 ⟨⟨type23,underlying23⟩,
 ⟨⟨type24,underlying24⟩,
 ⟨⟨type25,underlying25⟩,
 ⟨⟨type26,underlying26⟩,
 ⟨⟨type27,underlying27⟩,
 ⟨⟨type28,underlying28⟩,
 ⟨⟨type29,underlying29⟩,
 ⟨⟨type30,underlying30⟩,
 ⟨⟨type31,underlying31⟩,
 ⟨⟨type32,underlying32⟩,
 ⟨⟨type33,underlying33⟩,
 ⟨⟨type34,underlying34⟩,
 ⟨⟨type35,underlying35⟩,
 ⟨⟨type36,underlying36⟩,
 ⟨⟨type37,underlying37⟩,
 ⟨⟨type38,underlying38⟩,
 ⟨⟨type39,underlying39⟩,
 ⟨⟨type40,underlying40⟩,
 ⟨⟨type41,underlying41⟩,
 ⟨⟨type42,underlying42⟩,
 ⟨⟨type43,underlying43⟩,
 ⟨⟨type44,underlying44⟩,
 ⟨⟨type45,underlying45⟩,
 ⟨⟨type46,underlying46⟩,
 ⟨⟨type47,underlying47⟩,
 ⟨⟨type48,underlying48⟩,
 ⟨⟨type49,underlying49⟩,
 ⟨⟨type50,underlying50⟩,
 ⟨⟨type51,underlying51⟩,
 ⟨⟨type52,underlying52⟩,
 ⟨⟨type53,underlying53⟩,
 ⟨⟨type54,underlying54⟩,
 ⟨⟨type55,underlying55⟩,
 ⟨⟨type56,underlying56⟩,
 ⟨⟨type57,underlying57⟩,
 ⟨⟨type58,underlying58⟩,
 ⟨⟨type59,underlying59⟩,
 ⟨⟨type60,underlying60⟩,
 ⟨⟨type61,underlying61⟩,
 ⟨⟨type62,underlying62⟩,
 ⟨⟨type63,underlying63⟩,
 ⟨⟨type64,underlying64⟩,
 ⟨⟨type65,underlying65⟩,
 ⟨⟨type66,underlying66⟩,
 ⟨⟨type67,underlying67⟩,
 ⟨⟨type68,underlying68⟩,
 ⟨⟨type69,underlying69⟩,
 ⟨⟨type70,underlying70⟩,
 ⟨⟨type71,underlying71⟩,
 ⟨⟨type72,underlying72⟩,
 ⟨⟨type73,underlying73⟩,
 ⟨⟨type74,underlying74⟩,
 ⟨⟨type75,underlying75⟩,
 ⟨⟨type76,underlying76⟩,
 ⟨⟨type77,underlying77⟩,
 ⟨⟨type78,underlying78⟩,
 ⟨⟨type79,underlying79⟩,
 ⟨⟨type80,underlying80⟩,
 ⟨⟨type81,underlying81⟩,
 ⟨⟨type82,underlying82⟩,
 ⟨⟨type83,underlying83⟩,
 ⟨⟨type84,underlying84⟩,
 ⟨⟨type85,underlying85⟩,
 ⟨⟨type86,underlying86⟩,
 ⟨⟨type87,underlying87⟩,
 ⟨⟨type88,underlying88⟩,
 ⟨⟨type89,underlying89⟩,
 ⟨⟨type90,underlying90⟩,
 ⟨⟨type91,underlying91⟩,
 ⟨⟨type92,underlying92⟩,
 ⟨⟨type93,underlying93⟩,
 ⟨⟨type94,underlying94⟩,
 ⟨⟨type95,underlying95⟩,
 ⟨⟨type96,underlying96⟩,
 ⟨⟨type97,underlying97⟩,
 ⟨⟨type98,underlying98⟩,
 ⟨⟨type99,underlying99⟩,
 ⟨⟨type100,underlying100⟩,
 ⟨⟨type101,underlying101⟩,
 ⟨⟨type102,underlying102⟩,
 ⟨⟨type103,underlying103⟩,
 ⟨⟨type104,underlying104⟩,
 ⟨⟨type105,underlying105⟩,
 ⟨⟨type106,underlying106⟩,
 ⟨⟨type107,underlying107⟩,
 ⟨⟨type108,underlying108⟩,
 ⟨⟨type109,underlying109⟩,
 ⟨⟨type110,underlying110⟩,
 ⟨⟨type111,underlying111⟩,
 ⟨⟨type112,underlying112⟩,
 ⟨⟨type113,underlying113⟩,
 ⟨⟨type114,underlying114⟩,
 ⟨⟨type115,underlying115⟩,
 ⟨⟨type116,underlying116⟩,
 ⟨⟨type117,underlying117⟩,
 ⟨⟨type118,underlying118⟩,
 ⟨⟨type119,underlying119⟩,
 ⟨⟨type120,underlying120⟩,
 ⟨⟨type121,underlying121⟩,
 ⟨⟨type122,underlying122⟩,
 ⟨⟨type123,underlying123⟩,
 ⟨⟨type124,underlying124⟩,
 ⟨⟨type125,underlying125⟩,
 ⟨⟨type126,underlying126⟩,
 ⟨⟨type127,underlying127⟩,
 ⟨⟨type128,underlying128⟩,
 ⟨⟨type129,underlying129⟩,
 ⟨⟨type130,underlying130⟩,
 ⟨⟨type131,underlying131⟩,
 ⟨⟨type132,underlying132⟩,
 ⟨⟨type133,underlying133⟩,
 ⟨⟨type134,underlying134⟩,
 ⟨⟨type135,underlying135⟩,
 ⟨⟨type136,underlying136⟩,
 ⟨⟨type137,underlying137⟩,
 ⟨⟨type138,underlying138⟩,
 ⟨⟨type139,underlying139⟩,
 ⟨⟨type140,underlying140⟩,
 ⟨⟨type141,underlying141⟩,
 ⟨⟨type142,underlying142⟩,
 ⟨⟨type143,underlying143⟩,
 ⟨⟨type144,underlying144⟩,
 ⟨⟨type145,underlying145⟩,
 ⟨⟨type146,underlying146⟩,
 ⟨⟨type147,underlying147⟩,
 ⟨⟨type148,underlying148⟩,
 ⟨⟨type149,underlying149⟩,
 ⟨⟨type150,underlying150⟩,
 ⟨⟨type151,underlying151⟩,
 ⟨⟨type152,underlying152⟩,
 ⟨⟨type153,underlying153⟩,
 ⟨⟨type154,underlying154⟩,
 ⟨⟨type155,underlying155⟩,
 ⟨⟨type156,underlying156⟩,
 ⟨⟨type157,underlying157⟩,
 ⟨⟨type158,underlying158⟩,
 ⟨⟨type159,underlying159⟩,
 ⟨⟨type160,underlying160⟩,
 ⟨⟨type161,underlying161⟩,
 ⟨⟨type162,underlying162⟩,
 ⟨⟨type163,underlying163⟩,
 ⟨⟨type164,underlying164⟩,
 ⟨⟨type165,underlying165⟩,
 ⟨⟨type166,underlying166⟩,
 ⟨⟨type167,underlying167⟩,
 ⟨⟨type168,underlying168⟩,
 ⟨⟨type169,underlying169⟩,
 ⟨⟨type170,underlying170⟩,
 ⟨⟨type171,underlying171⟩,
 ⟨⟨type172,underlying172⟩,
 ⟨⟨type173,underlying173⟩,
 ⟨⟨type174,underlying174⟩,
 ⟨⟨type175,underlying175⟩,
 ⟨⟨type176,underlying176⟩,
 ⟨⟨type177,underlying177⟩,
 ⟨⟨type178,underlying178⟩,
 ⟨⟨type179,underlying179⟩,
 ⟨⟨type180,underlying180⟩,
 ⟨⟨type181,underlying181⟩,
 ⟨⟨type182,underlying182⟩,
 ⟨⟨type183,underlying183⟩,
 ⟨⟨type184,underlying184⟩,
 ⟨⟨type185,underlying185⟩,
 ⟨⟨type186,underlying186⟩,
 ⟨⟨type187,underlying187⟩,
 ⟨⟨type188,underlying188⟩,
 ⟨⟨type189,underlying189⟩,
 ⟨⟨type190,underlying190⟩,
 ⟨⟨type191,underlying191⟩,
 ⟨⟨type192,underlying192⟩,
 ⟨⟨type193,underlying193⟩,
 ⟨⟨type194,underlying194⟩,
 ⟨⟨type195,underlying195⟩,
 ⟨⟨type196,underlying196⟩,
 ⟨⟨type197,underlying197⟩,
 ⟨⟨type198,underlying198⟩,
 ⟨⟨type199,underlying199⟩,
 ⟨⟨type200,underlying200⟩,
 ⟨⟨type201,underlying201⟩,
 ⟨⟨type202,underlying202⟩,
 ⟨⟨type203,underlying203⟩,
 ⟨⟨type204,underlying204⟩,
 ⟨⟨type205,underlying205⟩,
 ⟨⟨type206,underlying206⟩,
 ⟨⟨type207,underlying207⟩,
 ⟨⟨type208,underlying208⟩,
 ⟨⟨type209,underlying209⟩,
 ⟨⟨type210,underlying210⟩,
 ⟨⟨type211,underlying211⟩,
 ⟨⟨type212,underlying212⟩,
 ⟨⟨type213,underlying213⟩,
 ⟨⟨type214,underlying214⟩,
 ⟨⟨type215,underlying215⟩,
 ⟨⟨type216,underlying216⟩,
 ⟨⟨type217,underlying217⟩,
 ⟨⟨type218,underlying218⟩,
 ⟨⟨type219,underlying219⟩,
 ⟨⟨type220,underlying220⟩,
 ⟨⟨type221,underlying221⟩,
 ⟨⟨type222,underlying222⟩,
 ⟨⟨type223,underlying223⟩,
 ⟨⟨type224,underlying224⟩,
 ⟨⟨type225,underlying225⟩,
 ⟨⟨type226,underlying226⟩,
 ⟨⟨type227,underlying227⟩,
 ⟨⟨type228,underlying228⟩,
 ⟨⟨type229,underlying229⟩,
 ⟨⟨type230,underlying230⟩,
 ⟨⟨type231,underlying231⟩,
 ⟨⟨type232,underlying232⟩,
 ⟨⟨type233,underlying233⟩,
 ⟨⟨type234,underlying234⟩,
 ⟨⟨type235,underlying235⟩,
 ⟨⟨type236,underlying236⟩,
 ⟨⟨type237,underlying237⟩,
 ⟨⟨type238,underlying238⟩,
 ⟨⟨type239,underlying239⟩,
 ⟨⟨type240,underlying240⟩,
 ⟨⟨type241,underlying241⟩,
 ⟨⟨type242,underlying242⟩,
 ⟨⟨type243,underlying243⟩,
 ⟨⟨type244,underlying244⟩,
 ⟨⟨type245,underlying245⟩,
 ⟨⟨type246,underlying246⟩,
 ⟨⟨type247,underlying247⟩,
 ⟨⟨type248,underlying248⟩,
 ⟨⟨type249,underlying249⟩,
 ⟨⟨type250,underlying250⟩,
 ⟨⟨type251,underlying251⟩,
 ⟨⟨type252,underlying252⟩,
 ⟨⟨type253,underlying253⟩,
 ⟨⟨type254,underlying254⟩,
 ⟨⟨type255,underlying255⟩,
 ⟨⟨type256,underlying256⟩,
 ⟨⟨type257,underlying257⟩,
 ⟨⟨type258,underlying258⟩,
 ⟨⟨type259,underlying259⟩,
 ⟨⟨type260,underlying260⟩,
 ⟨⟨type261,underlying261⟩,
 ⟨⟨type262,underlying262⟩,
 ⟨⟨type263,underlying263⟩,
 ⟨⟨type264,underlying264⟩,
 ⟨⟨type265,underlying265⟩,
 ⟨⟨type266,underlying266⟩,
 ⟨⟨type267,underlying267⟩,
 ⟨⟨type268,underlying268⟩,
 ⟨⟨type269,underlying269⟩,
 ⟨⟨type270,underlying270⟩,
 ⟨⟨type271,underlying271⟩,
 ⟨⟨type272,underlying272⟩,
 ⟨⟨type273,underlying273⟩,
 ⟨⟨type274,underlying274⟩,
 ⟨⟨type275,underlying275⟩,
 ⟨⟨type276,underlying276⟩,
 ⟨⟨type277,underlying277⟩,
 ⟨⟨type278,underlying278⟩,
 ⟨⟨type279,underlying279⟩,
 ⟨⟨type280,underlying280⟩,
 ⟨⟨type281,underlying281⟩,
 ⟨⟨type282,underlying282⟩,
 ⟨⟨type283,underlying283⟩,
 ⟨⟨type284,underlying284⟩,
 ⟨⟨type285,underlying285⟩,
 ⟨⟨type286,underlying286⟩,
 ⟨⟨type287,underlying287⟩,
 ⟨⟨type288,underlying288⟩,
 ⟨⟨type289,underlying289⟩,
 ⟨⟨type290,underlying290⟩,
 ⟨⟨type291,underlying291⟩,
 ⟨⟨type292,underlying292⟩,
 ⟨⟨type293,underlying293⟩,
 ⟨⟨type294,underlying294⟩,
 ⟨⟨type295,underlying295⟩,
 ⟨⟨type296,underlying296⟩,
 ⟨⟨type297,underlying297⟩,
 ⟨⟨type298,underlying298⟩,
 ⟨⟨type299,underlying299⟩,
 ⟨⟨type300,underlying300⟩,
 ⟨⟨type301,underlying301⟩,
 ⟨⟨type302,underlying302⟩,
 ⟨⟨type303,underlying303⟩,
 ⟨⟨type304,underlying304⟩,
 ⟨⟨type305,underlying305⟩,
 ⟨⟨type306,underlying306⟩,
 ⟨⟨type307,underlying307⟩,
 ⟨⟨type308,underlying308⟩,
 ⟨⟨type309,underlying309⟩,
 ⟨⟨type310,underlying310⟩,
 ⟨⟨type311,underlying311⟩,
 ⟨⟨type312,underlying312⟩,
 ⟨⟨type313,underlying313⟩,
 ⟨⟨type314,underlying314⟩,
 ⟨⟨type315,underlying315⟩,
 ⟨⟨type316,underlying316⟩,
 ⟨⟨type317,underlying317⟩,
 ⟨⟨type318,underlying318⟩,
 ⟨⟨type319,underlying319⟩,
 ⟨⟨type320,underlying320⟩,
 ⟨⟨type321,underlying321⟩,
 ⟨⟨type322,underlying322⟩,
 ⟨⟨type323,underlying323⟩,
 ⟨⟨type324,underlying324⟩,
 ⟨⟨type325,underlying325⟩,
 ⟨⟨type326,underlying326⟩,
 ⟨⟨type327,underlying327⟩,
 ⟨⟨type328,underlying328⟩,
 ⟨⟨type329,underlying329⟩,
 ⟨⟨type330,underlying330⟩,
 ⟨⟨type331,underlying331⟩,
 ⟨⟨type332,underlying332⟩,
 ⟨⟨type333,underlying333⟩,
 ⟨⟨type334,underlying334⟩,
 ⟨⟨type335,underlying335⟩,
 ⟨⟨type336,underlying336⟩,
 ⟨⟨type337,underlying337⟩,
 ⟨⟨type338,underlying338⟩,
 ⟨⟨type339,underlying339⟩,xb⟩⟩⟩⟩⟩⟩⟩⟩⟩⟩⟩⟩⟩⟩⟩⟩⟩⟩⟩⟩⟩⟩⟩⟩⟩⟩⟩⟩⟩⟩⟩⟩⟩⟩⟩⟩⟩⟩⟩⟩⟩⟩⟩⟩⟩⟩⟩⟩⟩⟩⟩⟩⟩⟩⟩⟩⟩⟩⟩⟩⟩⟩⟩⟩⟩⟩⟩⟩⟩⟩⟩⟩⟩⟩⟩⟩⟩⟩⟩⟩⟩⟩⟩⟩⟩⟩⟩⟩⟩⟩⟩⟩⟩⟩⟩⟩⟩⟩⟩⟩⟩⟩⟩⟩⟩⟩⟩⟩⟩⟩⟩⟩⟩⟩⟩⟩⟩⟩⟩⟩⟩⟩⟩⟩⟩⟩⟩⟩⟩⟩⟩⟩⟩⟩⟩⟩⟩⟩⟩⟩⟩⟩⟩⟩⟩⟩⟩⟩⟩⟩⟩⟩⟩⟩⟩⟩⟩⟩⟩⟩⟩⟩⟩⟩⟩⟩⟩⟩⟩⟩⟩⟩⟩⟩⟩⟩⟩⟩⟩⟩⟩⟩⟩⟩⟩⟩⟩⟩⟩⟩⟩⟩⟩⟩⟩⟩⟩⟩⟩⟩⟩⟩⟩⟩⟩⟩⟩⟩⟩⟩⟩⟩⟩⟩⟩⟩⟩⟩⟩⟩⟩⟩⟩⟩⟩⟩⟩⟩⟩⟩⟩⟩⟩⟩⟩⟩⟩⟩⟩⟩⟩⟩⟩⟩⟩⟩⟩⟩⟩⟩⟩⟩⟩⟩⟩⟩⟩⟩⟩⟩⟩⟩⟩⟩⟩⟩⟩⟩⟩⟩⟩⟩⟩⟩⟩⟩⟩⟩⟩⟩⟩⟩⟩⟩⟩⟩⟩⟩⟩⟩⟩⟩⟩⟩⟩⟩⟩⟩⟩⟩⟩⟩⟩⟩⟩⟩⟩⟩⟩⟩⟩⟩⟩⟩⟩⟩⟩⟩⟩⟩⟩⟩⟩⟩⟩⟩⟩⟩⟩⟩⟩⟩⟩⟩⟩⟩⟩⟩⟩⟩)
theorem mixed:prog.follows .mixedOrders=true:=by kernel_rfl
end Go.Proofs.YtfkngpmgcimdbaaGreat.Sx


namespace Go.Proofs.YtfkngpmgcimdbaaGreat
open Go Go.RowKit Sx
variable{ts:Array TypeId}{k:IntKind}{K:Value->Prop}
theorem N.min2{t:TypeId}{x y:Int}(h:K (.int k (min x y))):N (qte prog .min ts t [.int k x,.int k y] K):=by
 refine N.mk ⟨.int k (min x y),⟨rfl,rfl,λcs w=>?_⟩,h⟩;have e:(if y<x then y else x)=min x y:=by split<;>omega
 show(do pure (Next.value (<-Builtin.min_ ts t #[.int k x,.int k y])):Sem _).run prog w=_;rw[Sem.run_bind,run_min_int2,e];rfl
theorem N.max2{t:TypeId}{x y:Int}(h:K (.int k (max x y))):N (qte prog .max ts t [.int k x,.int k y] K):=by
 refine N.mk ⟨.int k (max x y),⟨rfl,rfl,λcs w=>?_⟩,h⟩;have e:(if y > x then y else x)=max x y:=by split<;>omega
 show(do pure (Next.value (<-Builtin.max_ ts t #[.int k x,.int k y])):Sem _).run prog w=_;rw[Sem.run_bind,run_max_int2,e];rfl
noncomputable def Roll(A:jgf)(Q:Exit->St->Prop)(k:Nat):St->Prop:=Nat.rec (motive:=λ_=>St->Prop) (λ_=>False) (λ_ W st=>A (thenQ W Q) st) k
theorem Bp{P:Program}{G:Tys}{n0:Nat}{c:Code}{A:(Exit->St->Prop)->St->Prop}{Q:Exit->St->Prop}{st:St}(k:Nat)(h:Roll A Q k st):N (jh6 P G n0 c A Q st):=
 N.mk ⟨(k:Nat)×{s:St // Roll A Q k s},λx=>x.2.1,λ_=>True,λx=>x.1,λx s=>∃j,x.1=j+1/\Roll A Q j s,λx s hx=>by
  obtain⟨j,hj,hr⟩:=hx;refine⟨⟨j,s,hr⟩,xb,?_,by show j<x.1;omega⟩;exact(Wk.refl _ _).g,⟨⟨k,st,h⟩,xb,(Wk.refl _ _).g⟩,λx _=>by
  obtain⟨k,s,hs⟩:=x;cases k with
  | zero=>exact hs.elim
  | succ j=>
   have:(λs'=>∃i,j+1=i+1/\Roll A Q i s')=Roll A Q j:=by
    funext s';refine propext ⟨fun⟨i,hi,hr⟩=>?_,λhr=>⟨j,rfl,hr⟩⟩;have:j=i:=by simpa using hi
    subst this;exact hr
   show A (thenQ (λs'=>∃i,j+1=i+1/\Roll A Q i s') Q) s;rw[this];exact hs⟩
theorem Tryz.own:ownKnob prog.godebug=none:=by kernel_rfl
theorem Tryz.laidOut:laidOutB prog=true:=by kernel_rfl
theorem jbd(x:Int)(m:Int)(h0:0<m)(h1:m<=9223372036854775807):0<=IntKind.i64.wrap ((IntKind.u64.wrap x).tmod m)/\IntKind.i64.wrap ((IntKind.u64.wrap x).tmod m)<m:=by
 have e:0<=IntKind.u64.wrap x:=by rw[xn];omega
 rw[Int.tmod_eq_emod_of_nonneg e];have a:=Int.emod_nonneg (IntKind.u64.wrap x) (by omega:m≠0);have b:=Int.emod_lt_of_pos (IntKind.u64.wrap x) h0;rw[yu,show(IntKind.u64.wrap x%m+9223372036854775808)%18446744073709551616-9223372036854775808=IntKind.u64.wrap x%m by omega];exact⟨a,b⟩
end Go.Proofs.YtfkngpmgcimdbaaGreat


namespace Go.Proofs.YtfkngpmgcimdbaaGreat.Sx
open Go Go.RowKit
structure jq7(X:Ctx)(ρ':Rz)(h':Hp)(w:World)(F:Nat->Prop)(T:Nat->Nat->Prop)(k:Nat)(d:Chunk):Prop where
 blk:F (ρ' k).1
 cell:∀j,j<d.n->∃x,w.cell? ⟨(ρ' k).1,(ρ' k).2+j,none⟩=some x/\Den1 (Fil h') ρ' (d.f j) x
 own:d.own=true->∀j,j<d.n->w.frozen? ⟨(ρ' k).1,(ρ' k).2+j,none⟩=false
 inv:d.x.inv (ρ' k) (T k) w
 foot:∀b,T k b->F b/\(d.n=0\/b≠(ρ' k).1)
variable{X:Ctx}{ρ:Rz}{w:World}
theorem HOK.redo{ρ':Rz}{h h':Hp}{S T:Nat->Nat->Prop}(H:HOK X ρ h w)(E:ExtOK X ρ h w S)(J A F:Nat->Prop)
  (hF:∀b,F b->∃(j:Nat)(c:Chunk),J j/\h[j]?=some (some c)/\((c.own=true/\b=(ρ j).1)\/S j b)) (hmay:∀b,F b->May X b)
  (hbase:∀i,i<X.n0->Fil h' i/\ρ' i=ρ i)
  (hold:∀(k:Nat)(d:Chunk),h'[k]?=some (some d)->¬ A k->¬ J k/\ρ' k=ρ k/\h[k]?=some (some d)/\∀j,j<d.n->∀x,Den1 (Fil h) ρ (d.f j) x->Den1 (Fil h') ρ' (d.f j) x)
  (hnew:∀(k:Nat)(d:Chunk),h'[k]?=some (some d)->A k->jq7 X ρ' h' w F T k d)
  (hsep:∀(k:Nat)(d:Chunk)(l:Nat)(e:Chunk),h'[k]?=some (some d)->A k->h'[l]?=some (some e)->A l->k≠l->(d.own=true->(ρ' k).1≠(ρ' l).1)/\∀b,T k b->(ρ' l).1≠b/\¬ T l b):HOK X ρ' h' w:=by
 have outF:∀(k:Nat)(e:Chunk),h[k]?=some (some e)->¬ J k->¬ F (ρ k).1:=λk e hk hJ hb=>by
  obtain⟨j,c,hj,hc,hb⟩:=hF _ hb;have hne:j≠k:=λe=>hJ (e▸hj)
  rcases hb with ⟨ho,hb⟩|hb
  .exact H.sep _ _ _ _ hc ho hk hne hb.symm
  .exact(E.apart _ _ _ _ _ hc hb hk hne.symm).1 rfl
 have outS:∀(k:Nat)(e:Chunk)(b:Nat),h[k]?=some (some e)->¬ J k->S k b->¬ F b:=λk e b hk hJ hS hb=>by
  obtain⟨j,c,hj,hc,hb⟩:=hF _ hb;have hne:j≠k:=λe=>hJ (e▸hj)
  obtain⟨a1,a2⟩:=E.apart _ _ b _ _ hk hS hc hne;rcases hb with ⟨ho,hb⟩|hb
  .exact a1 hb.symm
  .exact a2 hb
 have inF:∀b,F b->b<w.heap.size:=λb hb=>by
  obtain⟨j,c,hj,hc,hb⟩:=hF _ hb;rcases hb with ⟨ho,rfl⟩|hb
  .exact H.lt _ _ hc
  .exact(E.mine _ _ _ hc hb).2.1
 refine⟨H.evo,λi hi=>⟨(hbase i hi).1,(hbase i hi).2.trans (H.base i hi).2⟩,λk d hk=>?_,λk d hk j hj=>?_,λk d hk ho j hj=>?_,λk d l e hk ho hl hne=>?_,?_⟩
 .by_cases hA:A k
  .exact inF _ (hnew k d hk hA).blk
  .obtain⟨_,hρ,hk',_⟩:=hold k d hk hA;rw[hρ];exact H.lt _ _ hk'
 .by_cases hA:A k
  .exact(hnew k d hk hA).cell j hj
  .obtain⟨_,hρ,hk',hd⟩:=hold k d hk hA;rw[hρ];obtain⟨x,hx,hx2⟩:=H.cell _ _ hk' j hj;exact⟨x,hx,hd j hj x hx2⟩
 .by_cases hA:A k
  .refine⟨(hnew k d hk hA).own ho j hj,?_⟩;rcases hmay _ (hnew k d hk hA).blk with h1|h1
   .exact .inl h1
   .exact .inr (h1.2 _)
  .obtain⟨_,hρ,hk',_⟩:=hold k d hk hA;rw[hρ];exact H.own _ _ hk' ho j hj
 .by_cases hA:A k<;>by_cases hB:A l
  .exact(hsep k d l e hk hA hl hB hne).1 ho
  .obtain⟨hJ,hρ,hl',_⟩:=hold l e hl hB;rw[hρ];exact λe'=>outF l e hl' hJ (e'▸(hnew k d hk hA).blk)
  .obtain⟨hJ,hρ,hk',_⟩:=hold k d hk hA;rw[hρ];exact λe'=>outF k d hk' hJ (e'▸(hnew l e hl hB).blk)
  .obtain⟨hJ,hρ,hk',_⟩:=hold k d hk hA;obtain⟨hJ2,hρ2,hl',_⟩:=hold l e hl hB;rw[hρ,hρ2];exact H.sep _ _ _ _ hk' ho hl' hne
 .refine⟨λk b=>(A k/\T k b)\/(¬ A k/\S k b),λk d hk=>?_,λk d b hk hS=>?_,λk d b l e hk hS hl hne=>?_⟩
  .by_cases hA:A k
   .have:(λb=>(A k/\T k b)\/(¬ A k/\S k b))=T k:=by
     funext b;exact propext ⟨λh=>by rcases h with h|h;exact h.2;exact absurd hA h.1,λh=>.inl ⟨hA,h⟩⟩
    rw[this];exact(hnew k d hk hA).inv
   .have:(λb=>(A k/\T k b)\/(¬ A k/\S k b))=S k:=by
     funext b;exact propext ⟨λh=>by rcases h with h|h;exact absurd h.1 hA;exact h.2,λh=>.inr ⟨hA,h⟩⟩
    rw[this];obtain⟨_,hρ,hk',_⟩:=hold k d hk hA;rw[hρ];exact E.inv k d hk'
  .rcases hS with ⟨hA,hT⟩|⟨hA,hS⟩
   .obtain⟨h1,h2⟩:=(hnew k d hk hA).foot b hT;exact⟨h2,inF b h1,hmay b h1⟩
   .obtain⟨_,hρ,hk',_⟩:=hold k d hk hA;rw[hρ];exact E.mine k d b hk' hS
  .rcases hS with ⟨hA,hT⟩|⟨hA,hS⟩
   .by_cases hB:A l
    .obtain⟨a1,a2⟩:=(hsep k d l e hk hA hl hB (Ne.symm hne)).2 b hT;exact⟨a1,λh=>by rcases h with h|h;exact a2 h.2;exact h.1 hB⟩
    .obtain⟨hJ,hρ,hl',_⟩:=hold l e hl hB;have hFb:=((hnew k d hk hA).foot b hT).1;refine⟨by rw[hρ];exact λe'=>outF l e hl' hJ (e'▸hFb),λh=>?_⟩;rcases h with h|h
     .exact hB h.1
     .exact outS l e b hl' hJ h.2 hFb
   .obtain⟨hJ,hρ,hk',_⟩:=hold k d hk hA;by_cases hB:A l
    .refine⟨λe'=>outS k d b hk' hJ hS (e'▸(hnew l e hl hB).blk),λh=>?_⟩;rcases h with h|h
     .exact outS k d b hk' hJ hS ((hnew l e hl hB).foot b h.2).1
     .exact h.1 hB
    .obtain⟨_,hρ2,hl',_⟩:=hold l e hl hB;obtain⟨a1,a2⟩:=E.apart k d b l e hk' hS hl' hne;refine⟨by rw[hρ2];exact a1,λh=>?_⟩;rcases h with h|h
     .exact hB h.1
     .exact a2 h.2
structure Tidy(X:Ctx)(ss:List je2):Prop where
 n0:X.n0=ss.length
 m:∀b j,X.M ⟨b,j,none⟩->(∃k,k<X.n0/\b=(X.ρ0 k).1)\/May X b
 x:∀(k:Nat)(s:je2),ss[k]?=some s->s.e.x≠Ext.none->Selfish s.e.x->May X (X.ρ0 k).1
variable{ss:List je2}
theorem Tidy.may{h:Hp}(T:Tidy X ss)(H:HOK X ρ h w){j:Nat}{c:Chunk}(hj:h[j]?=some (some c))(ho:c.own=true)(hn:0<c.n)(hl:ss.length<=j):May X (ρ j).1:=by
 rcases(H.own j c hj ho 0 hn).2 with h1|h1
 .exact .inl h1
 .rcases T.m _ _ h1 with ⟨k,hk,hb⟩|h2
  .obtain⟨⟨d,hd⟩,hρ⟩:=H.base k hk;have:=H.sep j c k d hj ho hd (by have:=T.n0;omega);rw[hρ] at this;exact absurd hb this
  .exact h2
theorem Tidy.mayX{h:Hp}(T:Tidy X ss)(H:HOK X ρ h w){k:Nat}{s:je2}(hk:ss[k]?=some s)(hx:s.e.x≠Ext.none)(hs:Selfish s.e.x):May X (ρ k).1:=by
 have hl:=(xe.1 hk).1;rw[(H.base k (by rw[T.n0];exact hl)).2];exact T.x k s hk hx hs
def EndN(ss:List je2)(h:Hp)(v:Value)(K:Value->Hp->Prop):Prop:=
 ∀X ρ w x,Tidy X ss->HOK X ρ h w->Den (Fil h) ρ v x->∃v' h' ρ',HOK X ρ' h' w/\Den (Fil h') ρ' v' x/\K v' h'
theorem Bl{h:Hp}{v:Value}{K:Value->Hp->Prop}(k:K v h):N (EndN ss h v K):=N.mk λX ρ w x _ H hd=>⟨v,h,ρ,H,hd,k⟩
def Opens(ss:List je2){B:Type}(okB:B->Prop)(h1:B->Hp):Prop:=
 ∀X ρ w,Tidy X ss->HOK X ρ (partH ss) w->∃β,okB β/\∃ρ',AgreeOn (Fil (partH ss)) ρ ρ'/\(∀i,Fil (partH ss) i->Fil (h1 β) i)/\HOK X ρ' (h1 β) w
theorem Opens.same:Opens ss (λ_:Unit=>True) (λ_=>partH ss):=λX ρ w _ H=>⟨(),xb,ρ,AgreeOn.refl _ _,λ_ h=>h,H⟩
def PartsX:List je2->Prop
 | []=>True
 | s::r=>(s.e.x=Ext.none\/(s.e.own=true/\s.e.x=s.c.x))/\PartsX r
theorem PartsX.at:∀{ss:List je2},PartsX ss->∀s∈ss,qx7 s
 | t::r,hp,s,hs=>by
  rcases xj.1 hs with rfl|hs
  .exact hp.1
  .exact PartsX.at hp.2 s hs
def PostX(h:Hp):List je2->Nat->Prop
 | [],_=>True
 | s::r,k=>(s.d.x=Ext.none\/∃c,h[k]?=some (some c)/\s.d.x=c.x)/\PostX h r (k+1)
theorem PostX.at{h:Hp}:∀{ss:List je2}{k0:Nat},PostX h ss k0->∀(l:Nat)(s:je2),ss[l]?=some s->s.d.x=Ext.none\/∃c,h[k0+l]?=some (some c)/\s.d.x=c.x
 | a::r,k0,hp,0,s,hl=>by simp at hl;subst hl;exact hp.1
 | a::r,k0,hp,l+1,s,hl=>by
  rw[show k0+(l+1)=k0+1+l by omega];exact PostX.at hp.2 l s Qaf
def MadeX(h:Hp):List jfp->Prop
 | []=>True
 | n::r=>(h[n.i]?=some none/\n.d.own=true/\(0<n.d.n\/Selfish n.d.x)/\∀m∈r,n.i≠m.i/\n.k≠m.k)/\MadeX h r
theorem MadeX.at{h:Hp}:∀{ns:List jfp},MadeX h ns->∀n∈ns,h[n.i]?=some none/\n.d.own=true/\(0<n.d.n\/Selfish n.d.x)
 | t::r,hp,s,hs=>by
  rcases xj.1 hs with rfl|hs
  .exact⟨hp.1.1,hp.1.2.1,hp.1.2.2.1⟩
  .exact MadeX.at hp.2 s hs
theorem MadeX.ne{h:Hp}:∀{ns:List jfp},MadeX h ns->∀n∈ns,∀m∈ns,(n.i=m.i\/n.k=m.k)->n=m
 | t::r,hp,n,hn,m,hm,he=>by
  rcases xj.1 hn with h1|h1<;>rcases xj.1 hm with h2|h2
  .rw[h1,h2]
  .have:=hp.1.2.2.2 m h2;rw[h1] at he;omega
  .have:=hp.1.2.2.2 n h1;rw[h2] at he;omega
  .exact MadeX.ne hp.2 n h1 m h2 he
def MadeP(h:Hp):List jfp->Prop
 | []=>True
 | n::r=>(n.d.x=Ext.none\/∃c,h[n.k]?=some (some c)/\n.d.x=c.x)/\MadeP h r
theorem MadeP.at{h:Hp}:∀{ns:List jfp},MadeP h ns->∀n∈ns,n.d.x=Ext.none\/∃c,h[n.k]?=some (some c)/\n.d.x=c.x
 | t::r,hp,s,hs=>by
  rcases xj.1 hs with rfl|hs
  .exact hp.1
  .exact MadeP.at hp.2 s hs
theorem qr4{F F':Nat->Prop}{ρ ρ':Rz}(ha:AgreeOn F ρ ρ')(hF:∀i,F i->F' i):∀{vs xs:List Value},All2 (Den F ρ) vs xs->All2 (Den F' ρ') vs xs
 | [],[],_=>trivial
 | [],_::_,h=>h.elim
 | _::_,[],h=>h.elim
 | _::_,_::_,h=>⟨h.1.more ha hF,qr4 ha hF h.2⟩
section
variable{P:Program}{G:Tys}
theorem qt0{ss:List je2}{ρ:Rz}{w:World}{S:Nat->Nat->Prop}{h:Hp}{X:Ctx}(hI:∀s∈ss,h[s.i]?=some (some s.c))(hex:PartsX ss)(E:ExtOK X ρ h w S):Tidy ⟨w,subM ρ S ss,ss.length,λk=>ρ (jhh ss k)⟩ ss:=by
 have hσ:∀k s,ss[k]?=some s->jhh ss k=s.i:=λk s hk=>by show(match ss[k]? with|some s=>s.i|none=>0)=s.i;rw[hk]
 refine⟨rfl,λb j hm=>?_,λk s hk hx hs=>?_⟩
 .rcases hm with ⟨_,s,hs,_,hb,_⟩|⟨s,hs,ho,hb⟩
  .obtain⟨l,hl,hlt⟩:=y8 hs;have hl':ss[l]?=some s:=by rw[xt hl,hlt]
   exact .inl ⟨l,hl,by show b=(ρ (jhh ss l)).1;rw[hσ l s hl'];exact hb⟩
  .exact .inr (.inr ⟨.inr ⟨s,hs,ho,hb⟩,λj=>.inr ⟨s,hs,ho,hb⟩⟩)
 .have hmem:=xF hk;rcases hex.at s hmem with e|⟨ho,e⟩
  .exact absurd e hx
  .have hb:S s.i (ρ s.i).1:=by
    rw[e] at hs;exact hs _ _ _ (E.inv _ _ (hI s hmem))
   show May _ (ρ (jhh ss k)).1;rw[hσ k s hk];exact .inr ⟨.inr ⟨s,hmem,ho,hb⟩,λj=>.inr ⟨s,hmem,ho,hb⟩⟩
variable{vs:List Value}
theorem qar{g:FuncId}{fn:Func}{cd:Code}{h:Hp}{V:Value}{B:Type}(okB:B->Prop)(h1:B->Hp)(ss:List je2)(ns:List jfp)(vs':List Value)
  (hG:jfe P G) (hm:P.follows .mixedOrders=true) (hf:P.funcs[g]?=some fn) (hb:fn.body=some cd) (hr:∀xs w,(callFunc g xs).run P w=.ok (.enter g xs) w)
  (hin:PartsIn h ss) (hre:PartsRe (partX ss 0) ss) (hap:Apart ss) (hex:PartsX ss) (hmi:MadeX h ns) (hvs:All2 (Re2 (partX ss 0)) vs vs') (hop:Opens ss okB h1)
  (hwp:∀β,okB β->initK vs' fn.ntmps λt=>wpC P G ss.length cd (bodyQ P G fn λv st=>N (EndN ss st.h v λv' h'=>N (Obl (Re (partX ss 0++madeX ns) V v') (N (Obl (PostS (partX ss 0++madeX ns) h' ss 0) (N (Obl (PostN (partX ss 0++madeX ns) h' ss.length ns) (N (Obl (PostX h' ss 0/\MadeP h' ns) (N True)))))))))) ⟨t,h1 β⟩) :
  qae P g vs h V (partM ss++madeM ns) (jh7 ss):=λh₂ hrd hms X ρ w xs H hx=>by
 have hI:∀s∈ss,h₂[s.i]?=some (some s.c):=λs hs=>Q3v
 have hNw:∀n∈ns,h₂[n.i]?=some none:=λn hn=>(hms (n.i,n.d) (zK _ (madeM_mem.2 ⟨n,hn,rfl⟩))).trans (hmi.at n hn).1
 obtain⟨S,E⟩:=H.ext
 have T:=qt0 hI hex E
 obtain⟨H0,hargs⟩:=qk7 ss vs' hI hre hap hex.at hvs H E hx
 obtain⟨β,hβ,ρ',hag,hfil,H1⟩:=hop _ _ w T H0
 have hargs':All2 (Den (Fil (h1 β)) ρ') vs' xs:=qr4 hag hfil hargs
 refine .inr ⟨hr _ w,?_⟩
 refine(qfz (X:=⟨w,subM ρ S ss,ss.length,λk=>ρ (jhh ss k)⟩) (args:=⟨xs⟩) hG hm hf hb H1 hargs' (hwp β hβ)).mono ?_
 rintro e w' ⟨ρ1,v,st,x,rfl,H2,hdx,hq⟩
 obtain⟨v',h',ρ2,H3,hd3,hq⟩:=N.out hq _ _ _ _ T H2 hdx
 have q1:Re (partX ss 0++madeX ns) V v'/\N _:=N.out hq
 have q2:PostS (partX ss 0++madeX ns) h' ss 0/\N _:=N.out q1.2
 have q3:PostN (partX ss 0++madeX ns) h' ss.length ns/\N _:=N.out q2.2
 have q4:(PostX h' ss 0/\MadeP h' ns)/\N True:=N.out q3.2
 exact⟨x,rfl,qnt ss ns hI hNw hre hap (λn hn=>(hmi.at n hn).2) (λn hn m hm=>hmi.ne n hn m hm) H E H3 hd3 q1.1 q2.1 q3.1 (λl s hl _=>by have:=q4.1.1.at l s hl;rwa[xq] at this) q4.1.2.at⟩
theorem qa7{α:Type}{g:FuncId}{fn:Func}{cd:Code}{h:Hp}{B:Type}(okB:B->Prop)(h1:B->Hp)(ok:α->Prop)(V:α->Value)(ss:List je2)(dd:α->List Chunk)(ns:α->List jfp)(vs':List Value)
  (hG:jfe P G) (hm:P.follows .mixedOrders=true) (hf:P.funcs[g]?=some fn) (hb:fn.body=some cd) (hr:∀xs w,(callFunc g xs).run P w=.ok (.enter g xs) w)
  (hin:PartsIn h ss) (hre0:PartsRe (partX ss 0) ss) (hre:∀κ,ok κ->PartsRe (partX ss 0) (setD ss (dd κ))) (hap:Apart ss) (hex:PartsX ss) (hmi:∀κ,ok κ->MadeX h (ns κ)) (hvs:All2 (Re2 (partX ss 0)) vs vs') (hop:Opens ss okB h1)
  (hwp:∀β,okB β->initK vs' fn.ntmps λt=>wpC P G ss.length cd (bodyQ P G fn λv st=>N (EndN ss st.h v λv' h'=>N (jjm λκ=>ok κ/\N (Obl (Re (partX ss 0++madeX (ns κ)) (V κ) v') (N (Obl (PostS (partX ss 0++madeX (ns κ)) h' (setD ss (dd κ)) 0) (N (Obl (PostN (partX ss 0++madeX (ns κ)) h' ss.length (ns κ)) (N (Obl (PostX h' (setD ss (dd κ)) 0/\MadeP h' (ns κ)) (N True))))))))))) ⟨t,h1 β⟩) :
  CallAll P g vs h λv ms=>∃κ,ok κ/\v=V κ/\ms=partM (setD ss (dd κ))++madeM (ns κ):=λX ρ w xs H hx=>by
 obtain⟨S,E⟩:=H.ext
 have T:=qt0 (λs hs=>hin.at s hs) hex E
 obtain⟨H0,hargs⟩:=qk7 ss vs' (λs hs=>hin.at s hs) hre0 hap hex.at hvs H E hx
 obtain⟨β,hβ,ρ',hag,hfil,H1⟩:=hop _ _ w T H0
 have hargs':All2 (Den (Fil (h1 β)) ρ') vs' xs:=qr4 hag hfil hargs
 refine .inr ⟨hr _ w,?_⟩
 refine(qfz (X:=⟨w,subM ρ S ss,ss.length,λk=>ρ (jhh ss k)⟩) (args:=⟨xs⟩) hG hm hf hb H1 hargs' (hwp β hβ)).mono ?_
 rintro e w' ⟨ρ1,v,st,x,rfl,H2,hdx,hq⟩
 obtain⟨v',h',ρ2,H3,hd3,hq⟩:=N.out hq _ _ _ _ T H2 hdx
 obtain⟨κ,hok,hq⟩:=N.out hq
 have q1:Re (partX ss 0++madeX (ns κ)) (V κ) v'/\N _:=N.out hq
 have q2:PostS (partX ss 0++madeX (ns κ)) h' (setD ss (dd κ)) 0/\N _:=N.out q1.2
 have q3:PostN (partX ss 0++madeX (ns κ)) h' ss.length (ns κ)/\N _:=N.out q2.2
 have q4:(PostX h' (setD ss (dd κ)) 0/\MadeP h' (ns κ))/\N True:=N.out q3.2
 obtain⟨ρ',ha,hh,hd⟩:=qnt (h₂:=h) (hE:=h') (V:=V κ) (setD ss (dd κ)) (ns κ) (λs hs=>by
  obtain⟨t,ht,e1,e2,_⟩:=qnu hs;rw[<-e1,<-e2];exact hin.at t ht) (λn hn=>((hmi κ hok).at n hn).1) (by rw[qqf];exact hre κ hok) (qmr hap) (λn hn=>((hmi κ hok).at n hn).2) (λn hn m hm=>(hmi κ hok).ne n hn m hm) H E
  (by rw[jbc,jbb,qtz];exact H3) hd3 (by rw[qqf];exact q1.1) (by rw[qqf];exact q2.1) (by rw[qqf,qtz];exact q3.1) (λl s hl _=>by have:=q4.1.1.at l s hl;rwa[xq] at this) q4.1.2.at
 exact⟨x,rfl,V κ,_,ρ',⟨κ,hok,rfl,rfl⟩,ha,hh,hd⟩
end
open Go Go.RowKit Go.MapKept
section
variable{α:Type}
def dGet(D:List (Int×α))(k:Int):Option α:=(D.find? λq=>decide (q.1=k)).map (·.2)
def dPut(D:List (Int×α))(k:Int)(a:α):List (Int×α):=match dGet D k with
 | some _=>D.map λq=>if q.1=k then (k,a) else q
 | none=>D++[(k,a)]
def jfw(D:List (Int×α))(k:Int):List (Int×α):=D.filter λq=>!decide (q.1=k)
variable{k:Int}
theorem dGet_none{D:List (Int×α)}:dGet D k=none↔∀q∈D,q.1≠k:=by
 simp[dGet,List.find?_eq_none]
theorem qio{D:List (Int×α)}{a:α}(h:dGet D k=some a):(k,a)∈D:=by
 simp only[dGet,Option.map_eq_some_iff] at h;obtain⟨q,hq,rfl⟩:=h;have h1:=List.find?_some hq;have h2:=List.mem_of_find?_eq_some hq;simp only[xh] at h1;rw[<-h1];exact h2
theorem q2h{D:List (Int×α)}{a:α}(hd:(D.map (·.1)).Nodup)(h:(k,a)∈D):dGet D k=some a:=by
 induction D with
 | nil=>cases h
 | cons q D ih=>
  simp only[xp,xL] at hd;unfold dGet;rw[yU];by_cases e:q.1=k
  .have:decide (q.1=k)=true:=by simp[e]
   rw[this];rcases xj.1 h with rfl|h
   .rfl
   .exact absurd (xx.2 ⟨(k,a),h,rfl⟩) (e▸hd.1)
  .have:decide (q.1=k)=false:=by simp[e]
   rw[this];rcases xj.1 h with rfl|h
   .exact absurd rfl e
   .exact ih hd.2 h
end
structure MapIs{α:Type}(enc:α->Value)(D:List (Int×α))(es:Array MapEntry)(clock:Nat):Prop where
 ents:es.toList.map (λe=>(e.key,e.val))=D.map λq=>(.int .i64 q.1,enc q.2)
 stamped:Stamped es clock
 wf:∀q∈D,-9223372036854775808<=q.1/\q.1<=9223372036854775807
section
variable{α:Type}{enc:α->Value}{D:List (Int×α)}{es:Array MapEntry}{clock:Nat}
theorem MapIs.at(M:MapIs enc D es clock)(j:Nat):(es.toList[j]?).map (λe=>(e.key,e.val))=(D[j]?).map λq=>((.int .i64 q.1,enc q.2):Value×Value):=by
 have:=congrArg (λl=>l[j]?) M.ents;simpa using this
theorem MapIs.keys(M:MapIs enc D es clock):∀x∈es.toList,∃k,x.key=.int .i64 k:=λx hx=>by
 have:(x.key,x.val)∈es.toList.map (λe=>(e.key,e.val)):=xx.2 ⟨x,hx,rfl⟩;rw[M.ents] at this;obtain⟨q,_,e⟩:=xx.1 this;exact⟨q.1,(Prod.mk.inj e).1.symm⟩
theorem MapIs.isKey(M:MapIs enc D es clock):∀x∈es.toList,IsKey (.int .i64) x.key:=λx hx=>by
 obtain⟨k,e⟩:=M.keys x hx;rw[e];exact rfl
theorem MapIs.nodup(M:MapIs enc D es clock):(D.map (·.1)).Nodup:=by
 have h:=M.stamped.2.2;have e:es.toList.map (·.key)=(D.map (·.1)).map (Value.int .i64):=Q4T;rw[e] at h;exact List.Pairwise.of_map (Value.int .i64) (λa b hab e=>hab (by rw[e])) h
theorem MapIs.find(M:MapIs enc D es clock)(k:Int):(dGet D k=none/\Instr.findNow (.int .i64) (.int .i64 k) es.toList 0=some none/\∀x∈es.toList,x.key≠.int .i64 k)\/
  ∃j a,dGet D k=some a/\D[j]?=some (k,a)/\(∃e,es.toList[j]?=some e/\e.key=.int .i64 k)/\Instr.findNow (.int .i64) (.int .i64 k) es.toList 0=some (some (j,enc a)):=by
 rcases findNow_spec (d:=.int .i64) (k:=xc k) rfl es.toList 0 M.isKey with ⟨h1,h2⟩|⟨j,e,h1,h2,h3⟩
 .refine .inl ⟨dGet_none.2 λq hq e=>?_,h1,h2⟩;have:((.int .i64 q.1,enc q.2):Value×Value)∈es.toList.map (λe=>(e.key,e.val)):=by rw[M.ents];exact xx.2 ⟨q,hq,rfl⟩
  obtain⟨x,hx,ex⟩:=xx.1 this;exact h2 x hx (by rw[(Prod.mk.inj ex).1,e])
 .have hj:=M.at j;rw[h2] at hj;simp only[yC] at hj;cases hq:D[j]? with
  | none=>rw[hq] at hj;cases hj
  | some q=>
   rw[hq] at hj;simp only[yC,Option.some.injEq,Prod.mk.injEq] at hj;have hk:q.1=k:=by
    have:=hj.1;rw[h3] at this;simpa using this.symm
   obtain⟨q1,a⟩:=q;subst hk;refine .inr ⟨j,a,q2h M.nodup (xF hq),hq,⟨e,h2,h3⟩,?_⟩;rw[h1,xq,hj.2]
variable{k:Int}{j:Nat}
theorem MapIs.put(M:MapIs enc D es clock)(hk : -9223372036854775808<=k/\k<=9223372036854775807)(a:α){b:α}(hg:dGet D k=some b)(hj:D[j]?=some (k,b))(hv:Value)(hve:hv=enc a):MapIs enc (dPut D k a) (es.modify j λe=>{ e with key:=.int .i64 k,val:=hv }) clock:=by
 subst hve;have hnd:=M.nodup;have hjl:=(xe.1 hj).1;refine⟨?_,stamped_modify M.stamped j _ (λ_ _=>rfl) (λe _ he=>?_),λq hq=>?_⟩
 .unfold dPut;rw[hg];apply yp;intro i;simp only[xW,zE,zz];have hi:=M.at i;rw[zE] at hi;by_cases e:j=i
  .subst e;rw[hj] at hi ⊢;cases he:es[j]? with
   | none=>rw[he] at hi;cases hi
   | some x=>simp
  .rw[if_neg e,hi];cases hq:D[i]? with
   | none=>simp
   | some q=>
    have hne:q.1≠k:=λh=>by
     refine e ((List.getElem?_inj (l:=D.map (·.1)) (by simpa using hjl) hnd).1 ?_);rw[xW,xW,hj,hq];simp[h]
    simp[hne]
 .have hi:=M.at j;rw[zE,he,hj] at hi;simp only[yC,Option.some.injEq,Prod.mk.injEq] at hi;exact hi.1.symm
 .unfold dPut at hq;rw[hg] at hq;obtain⟨q',hq',rfl⟩:=xx.1 hq;split
  .exact hk
  .exact M.wf q' hq'
theorem MapIs.push(M:MapIs enc D es clock)(hk : -9223372036854775808<=k/\k<=9223372036854775807)(a:α)(hg:dGet D k=none)(hn:∀x∈es.toList,x.key≠.int .i64 k):MapIs enc (dPut D k a) (es.push { key:=.int .i64 k,val:=enc a,born:=clock }) (clock+1):=by
 refine⟨?_,stamped_push M.stamped hn,λq hq=>?_⟩
 .unfold dPut;rw[hg];simp only[Array.toList_push,zq,M.ents,xp,x8]
 .unfold dPut at hq;rw[hg] at hq;rcases yM.1 hq with hq|hq
  .exact M.wf q hq
  .simp only[yw] at hq;subst hq;exact hk
theorem qk8{β γ:Type}(f:β->γ):∀(l:List β)(j:Nat),(l.eraseIdx j).map f=(l.map f).eraseIdx j
 | [],_=>by simp
 | x::l,0=>by simp
 | x::l,j+1=>by simp[qk8 f l j]
theorem qqg{D:List (Int×α)}{a:α}(hnd:(D.map (·.1)).Nodup)(hj:D[j]?=some (k,a)):D.eraseIdx j=jfw D k:=by
 induction D generalizing j with
 | nil=>simp at hj
 | cons q D ih=>
  simp only[xp,xL] at hnd;cases j with
  | zero=>
   simp at hj;subst hj;have:D.filter (λq=>!decide (q.1=k))=D:=List.filter_eq_self.2 λq hq=>by
    have:q.1≠k:=λe=>hnd.1 (e▸xx.2 ⟨q,hq,rfl⟩)
    simp[this]
   simp[jfw,this]
  | succ j=>
   have hj':D[j]?=some (k,a):=by simpa using hj
   have hne:q.1≠k:=λe=>hnd.1 (e▸xx.2 ⟨(k,a),xF hj',rfl⟩)
   simp only[List.eraseIdx_cons_succ,ih hnd.2 hj'];simp[jfw,hne]
theorem MapIs.erase(M:MapIs enc D es clock){a:α}(hj:D[j]?=some (k,a)):MapIs enc (jfw D k) (es.eraseIdxIfInBounds j) clock:=by
 refine⟨?_,stamped_erase M.stamped j,λq hq=>M.wf q (List.mem_filter.1 hq).1⟩;have hl:=(xe.1 hj).1;have hsz:es.size=D.length:=by have:=congrArg List.length M.ents;simpa using this
 unfold Array.eraseIdxIfInBounds;rw[dif_pos Q9R];rw[Array.toList_eraseIdx,<-qqg M.nodup hj,qk8,qk8,M.ents]
theorem MapIs.size(M:MapIs enc D es clock):es.size=D.length:=by have:=congrArg List.length M.ents;simpa using this
theorem MapIs.nil:MapIs enc ([]:List (Int×α)) #[] 0:=⟨rfl,stamped_empty 0,λq hq=>by cases hq⟩
end
abbrev jjn{α:Type}(enc:α->Value)(D:List (Int×α)):Ext where
 inv:=λp S w=>(∀b,S b↔b=p.1)/\∃es clock,w.heap[p.1]?=some (.map es clock)/\MapIs enc D es clock
 keep:=λh hb=>⟨h.1,by obtain⟨es,clock,h1,h2⟩:=h.2;exact⟨es,clock,(hb _ ((h.1 _).2 rfl)).trans h1,h2⟩⟩
theorem qjz{α:Type}{enc:α->Value}{D:List (Int×α)}:Selfish (jjn enc D):=λp S w h=>(h.1 _).2 rfl
abbrev mapC{α:Type}(enc:α->Value)(D:List (Int×α)):Chunk:=@Chunk.mk (jjn enc D) true 0 []
section
variable{P:Program}{G:Tys}{α:Type}{enc:α->Value}{D:List (Int×α)}
variable{et:TypeId}{z:Value}
theorem q2i{ei:TypeInfo}(he:P.info? et=some ei)(hz:ei.zero=some z)(w:World):(zeroValue et).run P w=.ok z w:=by
 simp[zeroValue,typeInfo,Sem.run_bind,run_program,Result.andThen_ok,he,hz]
theorem q2j{t kt:TypeId}{ei:TypeInfo}{es:Array MapEntry}{clock:Nat}{w:World}{b:Nat}(ht:P.underlying t=some (.map kt et))(hk:P.underlying kt=some (.int .i64))(he:P.info? et=some ei)(hz:ei.zero=some z)
  (hb:w.heap[b]?=some (.map es clock)) (M:MapIs enc D es clock) (k:Int) (c:Bool) :
  (Instr.lookup t (.map (some b)) (xc k) c).run P w=.ok (if c then .tuple #[((dGet D k).map enc).getD z,.bool (dGet D k).isSome] else ((dGet D k).map enc).getD z) w:=by
 rcases M.find k with ⟨h1,h2,_⟩|⟨j,a,h1,_,_,h2⟩
 .simp[Instr.lookup,run_underlying ht,MapKept.run_getObj_map hb,run_checkKey hk (k:=xc k) rfl,run_findKey hk h2,q2i he hz,h1,Result.andThen]
 .simp[Instr.lookup,run_underlying ht,MapKept.run_getObj_map hb,run_checkKey hk (k:=xc k) rfl,run_findKey hk h2,h1,Result.andThen]
variable{c:Chunk}{k:Int}{K:Value->Prop}
theorem qb7{t kt:TypeId}{ei:TypeInfo}{b:Bool}(enc:α->Value)(D:List (Int×α))(hc:c.x=jjn enc D)(ht:P.underlying t=some (.map kt et))(hk:P.underlying kt=some (.int .i64))(he:P.info? et=some ei)(hz:ei.zero=some z)
  (v:Value) (hv:v=(if b then .tuple #[((dGet D k).map enc).getD z,.bool (dGet D k).isSome] else ((dGet D k).map enc).getD z)) (hp:qam v=true) (h:K v):N (jl0 P t c (xc k) b K):=
 N.mk ⟨v,qa5 hp,λp S w hi=>by
  rw[hc] at hi;obtain⟨_,es,clock,hb,M⟩:=hi;rw[q2j ht hk he hz hb M k b,hv],h⟩
theorem qx9{t kt:TypeId}{a:α}{v:Value}(hc:c.x=jjn enc D)(ho:c.own=true)(hkk : -9223372036854775808<=k/\k<=9223372036854775807)(hv:v=enc a)(ht:P.underlying t=some (.map kt et))(hk:P.underlying kt=some (.int .i64)):
  Turns P c (mapC enc (dPut D k a)) (λb=>Instr.mapUpdate t (.map (some b)) (xc k) v) ():=by
 refine⟨λ_=>ho,rfl,λp S w hi=>?_⟩
 rw[hc] at hi
 obtain⟨hS,es,clock,hb,M⟩:=hi
 refine⟨(hS _).2 rfl,?_⟩
 have hlt:p.1<w.heap.size:=(xO.1 hb).1
 rcases M.find k with ⟨h1,h2,h3⟩|⟨j,a',h1,hj,⟨e,he1,he2⟩,h2⟩
 .refine⟨{ w with heap:=w.heap.setIfInBounds p.1 (.map (es.push { key:=.int .i64 k,val:=v,born:=clock }) (clock+1)) },?_,rfl,rfl,rfl,by simp,λb hne=>by simp[Ne.symm hne],hS,_,_,(heap_set hb).1,?_⟩
  .simp[Instr.mapUpdate,run_underlying ht,MapKept.run_getObj_map hb,run_checkKey hk (k:=xc k) rfl,run_findKey hk h2,MapKept.run_setObj_map _ hb,Result.andThen]
  .rw[hv];exact M.push hkk a h1 h3
 .refine⟨{ w with heap:=w.heap.setIfInBounds p.1 (.map (es.modify j λe=>{ e with key:=.int .i64 k,val:=v }) clock) },?_,rfl,rfl,rfl,by simp,λb hne=>by simp[Ne.symm hne],hS,_,_,(heap_set hb).1,?_⟩
  .have hj2:es[j]?=some e:=by rw[<-zE];exact he1
   simp[Instr.mapUpdate,run_underlying ht,MapKept.run_getObj_map hb,run_checkKey hk (k:=xc k) rfl,run_findKey hk h2,hj2,he2,run_keyThatStays (d:=.int .i64) (k:=xc k) rfl,MapKept.run_setObj_map _ hb,Result.andThen]
  .exact M.put hkk a h1 hj v hv
variable{ts:Array TypeId}
theorem qya{t kt ty:TypeId}(hc:c.x=jjn enc D)(ho:c.own=true)(hts:ts[0]?=some t)(ht:P.underlying t=some (.map kt et))(hk:P.underlying kt=some (.int .i64)):
  Turns P c (mapC enc (jfw D k)) (λb=>Builtin.delete_ ts ty #[.map (some b),xc k]) (.tuple #[]):=by
 refine⟨λ_=>ho,rfl,λp S w hi=>?_⟩
 rw[hc] at hi
 obtain⟨hS,es,clock,hb,M⟩:=hi
 refine⟨(hS _).2 rfl,?_⟩
 have hlt:p.1<w.heap.size:=(xO.1 hb).1
 rcases M.find k with ⟨h1,h2,h3⟩|⟨j,a',h1,hj,_,h2⟩
 .refine⟨{ w with heap:=w.heap.setIfInBounds p.1 (.map es clock) },?_,rfl,rfl,rfl,by simp,λb hne=>by simp[Ne.symm hne],hS,_,_,(heap_set hb).1,?_⟩
  .exact Q3X
  .have:jfw D k=D:=List.filter_eq_self.2 λq hq=>by simp[dGet_none.1 h1 q hq]
   rw[this];exact M
 .refine⟨{ w with heap:=w.heap.setIfInBounds p.1 (.map (es.eraseIdxIfInBounds j) clock) },?_,rfl,rfl,rfl,by simp,λb hne=>by simp[Ne.symm hne],hS,_,_,(heap_set hb).1,M.erase hj⟩;exact Q3X
theorem jgx{t kt:TypeId}{v:Value}{K:Chunk->Prop}(enc:α->Value)(D:List (Int×α))(a:α)(hc:c.x=jjn enc D)(ho:c.own=true)(hkk : -9223372036854775808<=k/\k<=9223372036854775807)(hv:v=enc a)(ht:P.underlying t=some (.map kt et))(hk:P.underlying kt=some (.int .i64))
  (h:K (mapC enc (dPut D k a))):N (jkk P c (λb=>Instr.mapUpdate t (.map (some b)) (xc k) v) K):=N.mk ⟨_,qx9 hc ho hkk hv ht hk,h⟩
theorem jks{t kt ty:TypeId}{A:Chunk->Prop}(enc:α->Value)(D:List (Int×α))(hc:c.x=jjn enc D)(ho:c.own=true)(hts:ts[0]?=some t)(ht:P.underlying t=some (.map kt et))(hk:P.underlying kt=some (.int .i64))
  (h:A (mapC enc (jfw D k))):N (jkl P c (λb=>Builtin.delete_ ts ty #[.map (some b),xc k]) λv d=>N (Obl (v=.tuple #[]) (A d))):=
 N.mk ⟨.tuple #[],_,λρ=>by simp[den],qya hc ho hts ht hk,Bc rfl h⟩
theorem qms{t kt ty:TypeId}(enc:α->Value)(D:List (Int×α))(hc:c.x=jjn enc D)(hts:ts[0]?=some t)(ht:P.underlying t=some (.map kt et))(h:K (xc (D.length:Nat))):N (jl1 P ts ty c K):=
 N.mk ⟨xc (D.length:Nat),λρ=>by simp[den,den2,den1,den0],λp S w hi=>by
  rw[hc] at hi;obtain⟨_,es,clock,hb,M⟩:=hi;simp[Builtin.len_,hts,run_underlying ht,MapKept.run_getObj_map hb,Result.andThen,M.size,goInt],h⟩
theorem qyb{K:Chunk->Prop}(enc:α->Value)(h:K (mapC enc [])):N (q5m K):=
 N.mk ⟨mapC enc [],rfl,λw=>⟨λb=>Iff.rfl,#[],0,(heap_alloc w (.map #[] 0)).1,MapIs.nil⟩,h⟩
end
end Go.Proofs.YtfkngpmgcimdbaaGreat.Sx


namespace Go.Proofs.YtfkngpmgcimdbaaGreat
open Go Go.RowKit Sx
abbrev xa(g:FuncId)(a:Array Value)(w:World)(v:Value):Prop:=Calls prog g a w λe w'=>e=.returned v/\Below w.heap.size w w'
abbrev jf8(s:Int):Prop:=0<=s/\s<=65535
theorem qt1(x:Int):IntKind.i64.wrap ((BitVec.ofInt IntKind.i64.bits x &&& BitVec.ofInt IntKind.i64.bits 65535).toNat:Nat)=x%65536:=by
 have h1:(BitVec.ofInt IntKind.i64.bits 65535).toNat=2^16-1:=by decide
 have h2:(BitVec.ofInt IntKind.i64.bits x &&& BitVec.ofInt IntKind.i64.bits 65535).toNat=(BitVec.ofInt IntKind.i64.bits x).toNat%65536:=by
  rw[BitVec.toNat_and,h1,Nat.and_two_pow_sub_one_eq_mod]
 have h3:((BitVec.ofInt IntKind.i64.bits x).toNat:Int)=x%18446744073709551616:=by
  rw[BitVec.toNat_ofInt];have:(0:Int)<=x%((2^IntKind.i64.bits:Nat):Int):=Int.emod_nonneg _ Q9V;rw[Int.toNat_of_nonneg this];rfl
 rw[h2,yu];omega
def jfi(a b:Int):Int:=if jf8 a/\jf8 b then (if (b-a)%65536 > 32768 then (b-a)%65536-65536 else (b-a)%65536) else 0
theorem qyc(a b:Int): -32767<=jfi a b/\jfi a b<=32768:=by unfold jfi;split<;>(try split)<;>omega
theorem q2k(s:Int)(w:World):xa 22 #[xc s] w (.bool (decide (jf8 s))):=by
 refine qac (G:=tys) w tysOK mixed func22 Q9S Q9U Q9T ?_;exact Q0P
theorem q7g(s:Int)(w:World):xa 80 #[xc s] w (.bool (decide (0<=s/\s<64))):=by
 refine qac (G:=tys) w tysOK mixed func80 Q9S Q9U Q9T ?_;exact Q0P
theorem q7h(s:Int)(w:World):xa 81 #[xc s] w (.bool (decide (0<=s/\s<=1000000))):=by
 refine qac (G:=tys) w tysOK mixed func81 Q9S Q9U Q9T ?_;exact Q0P
theorem qch(s:Int)(h:Hp):qae prog 22 [xc s] h (.bool (decide (jf8 s))) [] []:=qai rfl rfl (call22 _) (q2k s)
theorem qfs(s:Int)(h:Hp):qae prog 80 [xc s] h (.bool (decide (0<=s/\s<64))) [] []:=qai rfl rfl (call80 _) (q7g s)
theorem qe7(s:Int)(h:Hp):qae prog 81 [xc s] h (.bool (decide (0<=s/\s<=1000000))) [] []:=qai rfl rfl (call81 _) (q7h s)
theorem qyd(a b:Int)(w:World):xa 109 #[xc a,xc b] w (xc (jfi a b)):=by
 refine qac (G:=tys) w tysOK mixed func109 Q9S Q9U Q9T ?_;repeat' (refine Ba ?_;first|refine Q5V ?_|refine Q5R ?_|refine Bb (qch _ _) ?_|with_reducible refine Bj (λhb=>?_) (λhb=>?_)|fail)
 all_goals
  refine congrArg _ ?_
  unfold jfi
  simp only[qt1,yS,yJ,ym,xh,xm] at *
  first
   | (rw[if_neg Q9R];first | done | fail)
   | (
     rw[if_pos Q9R]
     have e:IntKind.i64.wrap (b-a)=b-a:=by rw[yu];omega
     split<;>first
      | omega
      | (rw[yu];omega))
theorem qhg(a b:Int)(h:Hp):qae prog 109 [xc a,xc b] h (xc (jfi a b)) [] []:=qai rfl rfl (call109 _) (qyd a b)
theorem qye(a b:Int)(w:World):xa 107 #[xc a,xc b] w (.bool (decide (0<jfi a b/\jfi a b<32768))):=by
 refine qac (G:=tys) w tysOK mixed func107 Q9S Q9U Q9T ?_;repeat' (refine Ba ?_;first|refine Q5V ?_|refine Q5R ?_|refine Bb (qhg _ _ _) ?_|with_reducible refine Bj (λhb=>?_) (λhb=>?_)|fail)
 all_goals
  refine jf7 ?_
  simp only[xh,xm,xG,false_iff,true_iff,iff_true,iff_false,reduceCtorEq,yj,xI,yk,xZ] at *
  omega
theorem qnv(a b:Int)(h:Hp):qae prog 107 [xc a,xc b] h (.bool (decide (0<jfi a b/\jfi a b<32768))) [] []:=qai rfl rfl (call107 _) (qye a b)
end Go.Proofs.YtfkngpmgcimdbaaGreat


namespace Go.Proofs.YtfkngpmgcimdbaaGreat.Sx
open Go Go.RowKit
abbrev atX(q:Nat×Nat):Ext where
 inv:=λp S _=>p=q/\∀b,¬ S b
 keep:=λh _=>h
def jfd(q:Nat×Nat):Value:=.pointer (some ⟨q.1,q.2,none⟩)
variable{q:Nat×Nat}{ρ:Rz}
theorem qk9:den ρ (jfd q)=jfd q:=rfl
structure jh8{α:Type}(n:Nat)(enc:α->Nat->Value)(F:List ((Nat×Nat)×α))(S:Nat->Prop)(w:World):Prop where
 dom:∀b,S b↔∃q∈F,q.1.1=b
 nodup:(F.map (·.1.1)).Nodup
 cell:∀q∈F,∀j,j<n->w.cell? ⟨q.1.1,q.1.2+j,none⟩=some (enc q.2 j)/\w.frozen? ⟨q.1.1,q.1.2+j,none⟩=false
abbrev famX{α:Type}(n:Nat)(enc:α->Nat->Value)(F:List ((Nat×Nat)×α)):Ext where
 inv:=λ_ S w=>jh8 n enc F S w
 keep:=λ{p S w w'} h hb=>⟨h.dom,h.nodup,λq hq j hj=>by
  obtain⟨h1,h2⟩:=h.cell q hq j hj;have e:=hb q.1.1 ((h.dom _).2 ⟨q,hq,rfl⟩);refine⟨?_,?_⟩
  .rw[<-h1];unfold World.cell?;simp only[e]
  .rw[<-h2];unfold World.frozen?;simp only[e]⟩
structure jke(ρ:Rz)(h:Hp)(w:World)(S:Nat->Prop)(T:Nat->Nat->Prop):Prop where
 blk:∀(k:Nat)(d:Chunk),h[k]?=some (some d)->S (ρ k).1
 cell:∀(k:Nat)(d:Chunk),h[k]?=some (some d)->∀j,j<d.n->∃x,w.cell? ⟨(ρ k).1,(ρ k).2+j,none⟩=some x/\Den1 (Fil h) ρ (d.f j) x
 own:∀(k:Nat)(d:Chunk),h[k]?=some (some d)->∀j,j<d.n->w.frozen? ⟨(ρ k).1,(ρ k).2+j,none⟩=false
 inv:∀(k:Nat)(d:Chunk),h[k]?=some (some d)->d.x.inv (ρ k) (T k) w
 foot:∀(k:Nat)(d:Chunk)(b:Nat),h[k]?=some (some d)->T k b->S b/\(d.n=0\/b≠(ρ k).1)
 sep:∀(k:Nat)(d:Chunk)(l:Nat)(e:Chunk),h[k]?=some (some d)->h[l]?=some (some e)->k≠l->(ρ k).1≠(ρ l).1/\∀b,T k b->(ρ l).1≠b/\¬ T l b
abbrev jkt{B:Type}(ok:B->Prop)(h:B->Hp):Ext where
 inv:=λp S w=>S p.1/\∃β,ok β/\∃ρ T,ρ 0=p/\Fil (h β) 0/\jke ρ (h β) w S T
 keep:=λ{p S w w'} hh hb=>⟨hh.1,by
  obtain⟨β,hβ,ρ,T,h0,hf,K⟩:=hh.2;refine⟨β,hβ,ρ,T,h0,hf,K.blk,λk d hk j hj=>?_,λk d hk j hj=>?_,λk d hk=>?_,K.foot,K.sep⟩
  .obtain⟨x,hx,hd⟩:=K.cell k d hk j hj;refine⟨x,?_,hd⟩;have e:=hb _ (K.blk k d hk);rw[<-hx];unfold World.cell?;simp only[e]
  .have e:=hb _ (K.blk k d hk);rw[<-K.own k d hk j hj];unfold World.frozen?;simp only[e]
  .exact d.x.keep (K.inv k d hk) λb hT=>hb b (K.foot k d b hk hT).1⟩
theorem qa8{B:Type}{ok:B->Prop}{h:B->Hp}:Selfish (jkt ok h):=λp S w hh=>hh.1
abbrev packC{B:Type}(ok:B->Prop)(h:B->Hp):Chunk:=@Chunk.mk (jkt ok h) true 0 []
theorem qau{B:Type}{ok:B->Prop}{h:B->Hp}{i:Nat}{c d:Chunk}:Opens [⟨i,c,packC ok h,d⟩] ok h:=λX ρ w T H=>by
 obtain⟨S,E⟩:=H.ext;have h0:(partH [⟨i,c,packC ok h,d⟩])[0]?=some (some (packC ok h)):=rfl;have one:∀(k:Nat)(e:Chunk),(partH [⟨i,c,packC ok h,d⟩])[k]?=some (some e)->k=0:=λk e hk=>by
  cases k with
  | zero=>rfl
  | succ k=>simp[partH] at hk
 obtain⟨_,β,hβ,ρp,Tp,e0,hf,K⟩:=E.inv 0 _ h0;have n0:X.n0=1:=T.n0;refine⟨β,hβ,ρp,λk hk=>?_,λk hk=>?_,?_⟩
 .obtain⟨e,he⟩:=hk;obtain rfl:=one k e he;exact e0
 .obtain⟨e,he⟩:=hk;obtain rfl:=one k e he;exact hf
 .refine H.redo E (λk=>k=0) (λ_=>True) (S 0) (λb hb=>⟨0,_,rfl,h0,.inr hb⟩) (λb hb=>(E.mine 0 _ b h0 hb).2.2) (λk hk=>?_) (λk e hk hA=>absurd xb hA) (λk e hk _=>⟨K.blk k e hk,K.cell k e hk,λ_=>K.own k e hk,K.inv k e hk,λb hb=>K.foot k e b hk hb⟩) (λk e l f hk _ hl _ hne=>⟨λ_=>(K.sep k e l f hk hl hne).1,(K.sep k e l f hk hl hne).2⟩);rw[n0] at hk;obtain rfl:k=0:=by omega
  exact⟨hf,e0⟩
def qck(pc:Chunk)(m:Nat)(keep:List Nat):Hp->Nat->Hp
 | [],_=>[]
 | x::r,i=>(match Nat.beq i m with
  | true=>some pc
  | false=>match keep.any (Nat.beq i) with
   | true=>x
   | false=>none)::qck pc m keep r (i+1)
theorem qjk{pc:Chunk}{m:Nat}{keep:List Nat}:∀{h:Hp}{i0 k:Nat}{d:Chunk},(qck pc m keep h i0)[k]?=some (some d)->(i0+k=m/\d=pc)\/(i0+k≠m/\i0+k∈keep/\h[k]?=some (some d))
 | [],i0,k,d,hk=>by simp[qck] at hk
 | x::r,i0,0,d,hk=>by
  simp only[qck,yF,Option.some.injEq] at hk;cases e:Nat.beq i0 m with
  | true=>
   rw[e] at hk;exact .inl ⟨xN e,by simpa using hk.symm⟩
  | false=>
   rw[e] at hk;simp only at hk;cases e2:keep.any (Nat.beq i0) with
   | true=>
    rw[e2] at hk;refine .inr ⟨λe3=>?_,?_,by simp only at hk;rw[hk];rfl⟩
    .have:i0=m:=e3;rw[this,Nat.beq_refl] at e;cases e
    .rw[List.any_eq_true] at e2;obtain⟨y,hy,he⟩:=e2;have:=xN he;show i0∈keep;rw[this];exact hy
   | false=>rw[e2] at hk;cases hk
 | x::r,i0,k+1,d,hk=>by
  have:=qjk (h:=r) (i0:=i0+1) (k:=k) (d:=d) (by simpa[qck] using hk);rw[show i0+(k+1)=i0+1+k by omega];rcases this with h1|⟨h1,h2,h3⟩
  .exact .inl h1
  .exact .inr ⟨h1,h2,by simpa using h3⟩
theorem qjl{pc:Chunk}{m:Nat}{keep:List Nat}:∀{h:Hp}{i0 k:Nat},k<h.length->(i0+k=m\/(i0+k∈keep/\Fil h k))->Fil (qck pc m keep h i0) k
 | [],i0,k,hl,_=>by simp at hl
 | x::r,i0,0,_,hk=>by
  simp only[qck,Fil,yF];cases e:Nat.beq i0 m with
  | true=>exact⟨pc,rfl⟩
  | false=>
   rcases hk with hk|⟨hk,hf⟩
   .have hk:i0=m:=hk;rw[hk,Nat.beq_refl] at e;cases e
   .have:keep.any (Nat.beq i0)=true:=List.any_eq_true.2 ⟨i0,hk,Nat.beq_refl _⟩;simp only[this];obtain⟨c,hc⟩:=hf;exact⟨c,by simpa using hc⟩
 | x::r,i0,k+1,hl,hk=>by
  obtain⟨c,hc⟩:=qjl (pc:=pc) (m:=m) (keep:=keep) (h:=r) (i0:=i0+1) (k:=k) Qaf (by
   rw[show i0+1+k=i0+(k+1) by omega];exact hk.imp id fun⟨h1,c,h2⟩=>⟨h1,c,by simpa using h2⟩)
  exact⟨c,by simpa[qck] using hc⟩
def q2l(ix:List (Nat×Nat))(h hp:Hp):Prop:=
 ∀(k:Nat)(d:Chunk),hp[k]?=some (some d)->∃i c,ixK ix k=some i/\h[i]?=some (some c)/\c.own=true/\d.n<=c.n/\(∀j,j<d.n->Re1 ix (c.f j) (d.f j))/\(d.x=Ext.none\/d.x=c.x)/\(0<c.n\/Selfish c.x)
def jjo:Hp->List (Nat×Nat)->Bool
 | _,[]=>true
 | hp,(k,i)::r=>ji8 hp k&&jjo hp r
theorem qqh{hp:Hp}:∀{ix:List (Nat×Nat)},jjo hp ix=true->∀k i,(k,i)∈ix->Fil hp k
 | (a,b)::r,h,k,i,hm=>by
  simp only[jjo,xo] at h;rcases xj.1 hm with e|hm
  .simp only[Prod.mk.injEq] at e;obtain⟨rfl,rfl⟩:=e;exact filB_iff.1 h.1
  .exact qqh h.2 k i hm
def jh9:List (Nat×Nat)->Bool
 | []=>true
 | (k,i)::r=>(r.all λp=>!Nat.beq p.1 k && !Nat.beq p.2 i)&&jh9 r
theorem qft:∀{ix:List (Nat×Nat)},jh9 ix=true->∀k i k' i',(k,i)∈ix->(k',i')∈ix->(k=k'\/i=i')->k=k'/\i=i'
 | (a,b)::r,h,k,i,k',i',h1,h2,he=>by
  simp only[jh9,xo,xX] at h;have key:∀x y,(x,y)∈r->x≠a/\y≠b:=λx y hm=>by
   have:=h.1 (x,y) hm;simp only[zr] at this;exact⟨λe=>by subst e;simp at this,λe=>by subst e;simp at this⟩
  rcases xj.1 h1 with e1|h1<;>rcases xj.1 h2 with e2|h2
  .simp only[Prod.mk.injEq] at e1 e2;omega
  .simp only[Prod.mk.injEq] at e1;have:=key k' i' h2;omega
  .simp only[Prod.mk.injEq] at e2;have:=key k i h1;omega
  .exact qft h.2 k i k' i' h1 h2 he
variable{ss:List je2}{K:Value->Hp->Prop}
theorem qyf{B:Type}{ok:B->Prop}{hB:B->Hp}{h:Hp}{v:Value}(β:B)(m:Nat)(ix:List (Nat×Nat))(keep:List Nat)(hpc:∀k i,(k,i)∈ix->i<ss.length->∃s,ss[i]?=some s/\s.e.x≠Ext.none/\Selfish s.e.x)(hbs:∀i,i<ss.length->i=m\/i∈keep)(hok:ok β)(h00:ixK ix 0=some m)(hf0:Fil (hB β) 0)(hone:jh9 ix=true)(hpb:jjo (hB β) ix=true)
  (hpk:q2l ix h (hB β)) (hkk:∀k∈keep,∀l i,(l,i)∈ix->k≠i) (hkd:∀k∈keep,∀(d:Chunk),h[k]?=some (some d)->∀j,j<d.n->Safe1 (qck (packC ok hB) m keep h 0) (d.f j))
  (hv:∀ρ ρ',AgreeOn (Fil (qck (packC ok hB) m keep h 0)) ρ ρ'->den ρ' v=den ρ v) (hlt:m<h.length) (kk:K v (qck (packC ok hB) m keep h 0)):N (EndN ss h v K):=N.mk λX ρ w x T H hd=>by
 obtain⟨S,E⟩:=H.ext
 have fil0:Fil (qck (packC ok hB) m keep h 0) m:=qjl hlt (.inl (xq m))
 have inv:∀k d,(hB β)[k]?=some (some d)->∃i c,(k,i)∈ix/\h[i]?=some (some c)/\c.own=true/\d.n<=c.n/\(∀j,j<d.n->Re1 ix (c.f j) (d.f j))/\(d.x=Ext.none\/d.x=c.x)/\(0<c.n\/Selfish c.x):=λk d hk=>by
  obtain⟨i,c,h1,h2⟩:=hpk k d hk;exact⟨i,c,qey h1,h2⟩
 have ofix:∀k i,(k,i)∈ix->∃d,(hB β)[k]?=some (some d):=λk i hm=>qqh hpb k i hm
 have act:∀k i,(k,i)∈ix->∃d c,(hB β)[k]?=some (some d)/\h[i]?=some (some c)/\c.own=true/\d.n<=c.n/\(∀j,j<d.n->Re1 ix (c.f j) (d.f j))/\(d.x=Ext.none\/d.x=c.x)/\(0<c.n\/Selfish c.x):=λk i hm=>by
  obtain⟨d,hd⟩:=ofix k i hm;obtain⟨i',c,hm',h2⟩:=inv k d hd;obtain rfl:=(qft hone k i k i' hm hm' (.inl rfl)).2;exact⟨d,c,hd,h2⟩
 have mayB:∀k i,(k,i)∈ix->May X (ρ i).1:=λk i hm=>by
  obtain⟨d,c,_,hc,ho,_,_,_,h3⟩:=act k i hm;rcases h3 with h3|h3
  .by_cases e:i<ss.length
   .obtain⟨s,hs,hx,hsf⟩:=hpc k i hm e;exact T.mayX H hs hx hsf
   .exact T.may H hc ho h3 Q9R
  .exact(E.mine i c _ hc (h3 _ _ _ (E.inv i c hc))).2.2
 let ρp:Nat->Nat×Nat:=λk=>match ixK ix k with|some i=>ρ i|none=>(0,0)
 let Tp:Nat->Nat->Prop:=λk b=>∃i d,(k,i)∈ix/\(hB β)[k]?=some (some d)/\d.x≠Ext.none/\S i b
 have ixKof:∀k i,(k,i)∈ix->ixK ix k=some i:=λk i hm=>by
  obtain⟨d,hd⟩:=ofix k i hm;obtain⟨i',c,h1,_⟩:=hpk k d hd;rw[(qft hone k i k i' hm (qey h1) (.inl rfl)).2];exact h1
 have ρp_eq:∀k i,(k,i)∈ix->ρp k=ρ i:=λk i hm=>by
  show(match ixK ix k with|some i=>ρ i|none=>(0,0))=ρ i;rw[ixKof k i hm]
 let F:Nat->Prop:=λb=>∃k i,(k,i)∈ix/\(b=(ρ i).1\/Tp k b)
 have Tp_eq:∀k i d,(k,i)∈ix->(hB β)[k]?=some (some d)->d.x≠Ext.none->Tp k=S i:=λk i d hm hd hne=>by
  funext b;refine propext ⟨?_,λhb=>⟨i,d,hm,hd,hne,hb⟩⟩;rintro⟨i',_,hm',_,_,hb⟩;rw[(qft hone k i k i' hm hm' (.inl rfl)).2];exact hb
 have TpS:∀k i b,(k,i)∈ix->Tp k b->S i b:=λk i b hm hb=>by
  obtain⟨i',_,hm',_,_,hb'⟩:=hb;rw[(qft hone k i k i' hm hm' (.inl rfl)).2];exact hb'
 have K1:jke ρp (hB β) w F Tp:=by
  refine⟨λk d hk=>?_,λk d hk j hj=>?_,λk d hk j hj=>?_,λk d hk=>?_,λk d b hk hb=>?_,λk d l e hk hl hne=>?_⟩
  .obtain⟨i,c,hm,_⟩:=inv k d hk;exact⟨k,i,hm,.inl (by rw[ρp_eq k i hm])⟩
  .obtain⟨i,c,hm,hc,ho,hn,hr,_⟩:=inv k d hk;obtain⟨y,hy,hdy⟩:=H.cell i c hc j (xl hj hn);rw[ρp_eq k i hm];refine⟨y,hy,λr hrr=>?_⟩;rw[<-(hr j hj).den (r:=ρ) (r':=r) (λk' i' hm'=>by
    obtain⟨d',hd'⟩:=ofix k' i' hm';rw[hrr k' ⟨d',hd'⟩,ρp_eq k' i' hm'])]
   exact hdy.self
  .obtain⟨i,c,hm,hc,ho,hn,_⟩:=inv k d hk;rw[ρp_eq k i hm];exact(H.own i c hc ho j (xl hj hn)).1
  .obtain⟨i,c,hm,hc,ho,hn,_,hx',_⟩:=inv k d hk;by_cases en:d.x=Ext.none
   .rw[en];rintro b ⟨i',d',_,hd',hne,_⟩;rw[hk] at hd';obtain rfl:d=d':=by simpa using hd'
    exact hne en
   .rw[Tp_eq k i d hm hk en,ρp_eq k i hm];rcases hx' with e|e
    .exact absurd e en
    .rw[e];exact E.inv i c hc
  .obtain⟨i,c,hm,hc,ho,hn,_⟩:=inv k d hk;refine⟨⟨k,i,hm,.inr hb⟩,?_⟩;have:=(E.mine i c b hc (TpS k i b hm hb)).1;rw[ρp_eq k i hm];omega
  .obtain⟨i,c,hm,hc,ho,_⟩:=inv k d hk;obtain⟨i2,c2,hm2,hc2,ho2,_⟩:=inv l e hl;have hii:i≠i2:=λei=>hne (qft hone k i l i2 hm hm2 (.inr ei)).1
   refine⟨by rw[ρp_eq k i hm,ρp_eq l i2 hm2];exact H.sep i c i2 c2 hc ho hc2 hii,λb hb=>?_⟩;obtain⟨a1,a2⟩:=E.apart i c b i2 c2 hc (TpS k i b hm hb) hc2 (Ne.symm hii);exact⟨by rw[ρp_eq l i2 hm2];exact a1,λhb2=>a2 (TpS l i2 b hm2 hb2)⟩
 have m00:=qey h00
 have H':HOK X ρ (qck (packC ok hB) m keep h 0) w:=by
  refine H.redo (T:=λk b=>k=m/\F b) E (λi=>∃k,(k,i)∈ix) (λk=>k=m) F (λb hb=>?_) (λb hb=>?_) (λi hi=>?_) (λk d hk hA=>?_) (λk d hk hA=>?_) (λk d l e hk hA hl hB' hne=>?_)
  .obtain⟨k,i,hm,hb⟩:=hb;obtain⟨d,c,hd,hc,ho,_⟩:=act k i hm;rcases hb with hb|hb
   .exact⟨i,c,⟨k,hm⟩,hc,.inl ⟨ho,hb⟩⟩
   .exact⟨i,c,⟨k,hm⟩,hc,.inr (TpS k i b hm hb)⟩
  .obtain⟨k,i,hm,hb⟩:=hb;rcases hb with rfl|hb
   .exact mayB k i hm
   .obtain⟨d,c,hd,hc,_⟩:=act k i hm;exact(E.mine i c b hc (TpS k i b hm hb)).2.2
  .have hi:i<ss.length:=by have:=T.n0;omega
   rcases hbs i hi with rfl|h1
   .exact⟨fil0,rfl⟩
   .have hf:=(H.base i (by have:=T.n0;omega)).1;obtain⟨c,hc⟩:=hf;exact⟨qjl (xe.1 hc).1 (.inr ⟨by rw[xq];exact h1,c,hc⟩),rfl⟩
  .rcases qjk hk with ⟨h1,_⟩|⟨h1,h2,h3⟩
   .exact absurd Q9R hA
   .rw[xq] at h1 h2;refine⟨fun⟨l,hm⟩=>hkk k h2 l k hm rfl,rfl,h3,λj hj y hy r hrr=>?_⟩;rw[(hkd k h2 d h3 j hj).inScope ρ r hrr];exact hy.self
  .subst hA;rcases qjk hk with ⟨_,rfl⟩|⟨h1,_⟩
   .refine⟨⟨0,k,m00,.inl rfl⟩,nzj,λ_ j hj=>absurd hj (yg j),⟨⟨rfl,0,k,m00,.inl rfl⟩,β,hok,ρp,Tp,ρp_eq 0 k m00,hf0,?_⟩,λb hb=>⟨hb.2,.inl rfl⟩⟩;have:(λb=>k=k/\F b)=F:=by funext b;exact propext ⟨λh=>h.2,λh=>⟨rfl,h⟩⟩
    rw[this];exact K1
   .exact absurd Q9R h1
  .exact absurd (hA.trans hB'.symm) hne
 refine⟨v,_,ρ,H',λr hrr=>?_,kk⟩
 rw[hv ρ r hrr];exact hd.self
variable{X:Ctx}{w:World}{k m:Nat}{ps:Pz}{e:Chunk}
theorem HOK.famOut{α:Type}{h:Hp}{i n:Nat}{o:Bool}{enc:α->Nat->Value}{F F':List ((Nat×Nat)×α)}{a:α}
  (H:HOK X ρ h w) (hm:0<m) (hi:h[i]?=some (some (@Chunk.mk (famX n enc F) true m ps))) (hk:h[k]?=some none) (hmay:May X (ρ i).1) (hF:F.Perm ((q,a)::F')) (hex:e.x=atX q) (hen:e.n=n) (hef:∀j,j<n->e.f j=enc a j) (hpl:∀j,j<n->qbh (enc a j)=true) :
  ∃ρ',AgreeOn (Fil h) ρ ρ'/\HOK X ρ' ((h.set i (some (@Chunk.mk (famX n enc F') true m ps))).set k (some e)) w:=by
 obtain⟨S,E⟩:=H.ext
 have hil:=(xe.1 hi).1
 have hkl:=(xe.1 hk).1
 have hik:i≠k:=λe=>by rw[e,hk] at hi;cases hi
 have nf:¬ Fil h k:=fun⟨d,hd⟩=>by rw[hk] at hd;cases hd
 have FO:jh8 n enc F (S i) w:=E.inv i _ hi
 have memF:∀x,x∈F↔x∈(q,a)::F':=λx=>hF.mem_iff
 have qF:(q,a)∈F:=(memF _).2 Qa2
 have hS:S i q.1:=(FO.dom _).2 ⟨_,qF,rfl⟩
 have ndF:(((q,a)::F').map (·.1.1)).Nodup:=(hF.map _).nodup_iff.1 FO.nodup
 simp only[xp,xL] at ndF
 let ρ':Nat->Nat×Nat:=λj=>if j=k then q else ρ j
 have ρk:ρ' k=q:=if_pos rfl
 have ρo:∀j,j≠k->ρ' j=ρ j:=λj hj=>if_neg hj
 have hag:AgreeOn (Fil h) ρ ρ':=λj hj=>ρo j λe=>nf (e▸hj)
 let hh:=(h.set i (some (@Chunk.mk (famX n enc F') true m ps))).set k (some e)
 have get:∀j d,hh[j]?=some (some d)->(j=k/\d=e)\/(j=i/\d = @Chunk.mk (famX n enc F') true m ps)\/(j≠i/\j≠k/\h[j]?=some (some d)):=λj d hj=>Q2l
 have fil:∀j,Fil h j->Fil hh j:=λj hj=>by
  obtain⟨d,hd⟩:=hj;by_cases ej:k=j
  .exact⟨e,by subst ej;rw[xw QaG]⟩
  exact Q3I
 have qne:q.1≠(ρ i).1:=by
  rcases(E.mine i _ _ hi hS).1 with h0|h0
  .have h0:m=0:=h0;omega
  .exact h0
 refine⟨ρ',hag,?_⟩
 refine H.redo (T:=λj b=>j=i/\S i b/\b≠q.1) E (λj=>j=i) (λj=>j=i\/j=k) (λb=>b=(ρ i).1\/S i b) (λb hb=>⟨i,_,rfl,hi,hb.imp (λh=>⟨rfl,h⟩) id⟩) (λb hb=>?_) (λj hj=>?_) (λj d hj hA=>?_) (λj d hj hA=>?_) (λj d l f hj hA hl hB hne=>?_)
 .rcases hb with rfl|hb
  .exact hmay
  .exact(E.mine i _ b hi hb).2.2
 .obtain⟨hf,_⟩:=H.base j hj;exact⟨fil j hf,hag j hf⟩
 .rcases get j d hj with ⟨rfl,_⟩|⟨rfl,_⟩|⟨h1,h2,h3⟩
  .exact absurd (.inr rfl) hA
  .exact absurd (.inl rfl) hA
  .exact⟨h1,ρo j h2,h3,λl _ x hx=>hx.more hag fil⟩
 .rcases get j d hj with ⟨rfl,rfl⟩|⟨rfl,rfl⟩|⟨h1,h2,_⟩
  .refine⟨by rw[ρk];exact .inr hS,λl hl=>?_,λ_ l hl=>?_,?_,λb hb=>absurd hb.1 (Ne.symm hik)⟩
   .rw[hen] at hl;rw[ρk];exact⟨_,(FO.cell _ qF l hl).1,by rw[hef l hl];exact Den1.plain (hpl l hl)⟩
   .rw[hen] at hl;rw[ρk];exact(FO.cell _ qF l hl).2
   .rw[hex];exact⟨ρk,λb hb=>hik hb.1.symm⟩
  .refine⟨by rw[ρo j hik];exact .inl rfl,λl hl=>?_,λ_ l hl=>?_,?_,λb hb=>⟨.inr hb.2.1,?_⟩⟩
   .rw[ρo j hik];exact Q5z
   .rw[ρo j hik];exact(H.own j _ hi rfl l hl).1
   .show jh8 n enc F' (λb=>j=j/\S j b/\b≠q.1) w;refine⟨λb=>⟨λhb=>?_,fun⟨x,hx,hb⟩=>⟨rfl,(FO.dom b).2 ⟨x,(memF x).2 Qb3,hb⟩,λe=>ndF.1 (by rw[<-e,<-hb];exact xx.2 ⟨x,hx,rfl⟩)⟩⟩,ndF.2,λx hx=>FO.cell x ((memF x).2 Qb3)⟩;obtain⟨x,hx,hxb⟩:=(FO.dom b).1 hb.2.1;rcases xj.1 ((memF x).1 hx) with rfl|hx
    .exact absurd hxb.symm hb.2.2
    .exact⟨x,hx,hxb⟩
   .rw[ρo j hik];exact(E.mine j _ b hi hb.2.1).1
  .exact absurd hA (by rintro(rfl|rfl)<;>contradiction)
 .have two:∀x,(x=i\/x=k)->(x=i/\ρ' x=ρ i)\/(x=k/\ρ' x=q):=λx hx=>by
   rcases hx with rfl|rfl
   .exact .inl ⟨rfl,ρo _ hik⟩
   .exact .inr ⟨rfl,ρk⟩
  rcases two j hA with ⟨rfl,e1⟩|⟨rfl,e1⟩<;>rcases two l hB with ⟨rfl,e2⟩|⟨rfl,e2⟩
  .exact absurd rfl hne
  .exact⟨λ_=>by rw[e1,e2];exact λe=>qne e.symm,λb hb=>⟨by rw[e2];exact λe=>hb.2.2 e.symm,λh=>hik h.1.symm⟩⟩
  .exact⟨λ_=>by rw[e1,e2];exact qne,λb hb=>absurd hb.1 (Ne.symm hik)⟩
  .exact absurd rfl hne
theorem HOK.famIn{α:Type}{h:Hp}{i n:Nat}{enc:α->Nat->Value}{F:List ((Nat×Nat)×α)}{a:α}
  (H:HOK X ρ h w) (hm:0<m) (hn:0<n) (hi:h[i]?=some (some (@Chunk.mk (famX n enc F) true m ps))) (hk:h[k]?=some (some e)) (hik:i≠k) (hkb:X.n0<=k) (hmay:May X (ρ i).1) (hmk:May X (ρ k).1) (hex:e.x=atX q) (heo:e.own=true) (hen:n<=e.n) (hef:∀j,j<n->e.f j=enc a j) (hpl:∀j,j<n->qbh (enc a j)=true)
  (hsc:∀(l:Nat)(d:Chunk),l≠k->h[l]?=some (some d)->∀j,j<d.n->∀ρ ρ',(∀l,l≠k->ρ' l=ρ l)->den1 ρ' (d.f j)=den1 ρ (d.f j)) :
  HOK X ρ ((h.set i (some (@Chunk.mk (famX n enc ((q,a)::F)) true m ps))).set k none) w:=by
 obtain⟨S,E⟩:=H.ext
 have hil:=(xe.1 hi).1
 have hkl:=(xe.1 hk).1
 have FO:jh8 n enc F (S i) w:=E.inv i _ hi
 obtain⟨ρk,Sk⟩:ρ k=q/\∀b,¬ S k b:=by have:=E.inv k e hk;rw[hex] at this;exact this
 let hh:=(h.set i (some (@Chunk.mk (famX n enc ((q,a)::F)) true m ps))).set k none
 have get:∀j d,hh[j]?=some (some d)->(j=i/\d = @Chunk.mk (famX n enc ((q,a)::F)) true m ps)\/(j≠i/\j≠k/\h[j]?=some (some d)):=λj d hj=>Q2B
 have fil:∀j,j≠k->Fil h j->Fil hh j:=λj hjk hj=>by
  obtain⟨d,hd⟩:=hj;by_cases ei:i=j
  .exact⟨_,by subst ei;rw[xu (Ne.symm hjk),xw hil]⟩
  .exact⟨d,by rw[xu (Ne.symm hjk),xu ei];exact hd⟩
 have qS:¬ S i q.1:=λhs=>by
  have:=(E.apart i _ _ k e hi hs hk (Ne.symm hik)).1;rw[ρk] at this;exact this rfl
 have qi:q.1≠(ρ i).1:=by
  have:=H.sep k e i _ hk heo hi (Ne.symm hik);rw[ρk] at this;exact this
 have less:∀l d,l≠k->h[l]?=some (some d)->∀j,j<d.n->∀x,Den1 (Fil h) ρ (d.f j) x->Den1 (Fil hh) ρ (d.f j) x:=λl d hlk hd j hj x hx r hr=>by
  let r':Nat->Nat×Nat:=λi=>if i=k then ρ k else if ji8 h i then r i else ρ i
  have e1:den1 r' (d.f j)=x:=hx r' λi hf=>by
   show(if i=k then ρ k else if ji8 h i then r i else ρ i)=ρ i;by_cases ek:i=k
   .rw[if_pos ek,ek]
   .rw[if_neg ek,if_pos (filB_iff.2 hf)];exact hr i (fil i ek hf)
  let r2:Nat->Nat×Nat:=λi=>if i=k then r k else r' i
  have e2:den1 r2 (d.f j)=den1 r' (d.f j):=hsc l d hlk hd j hj r' r2 λi hi=>if_neg hi
  have e3:den1 r2 (d.f j)=x:=e2.trans e1;let r3:Nat->Nat×Nat:=λi=>if i=k then ρ k else r i
  have e4:den1 r3 (d.f j)=den1 r (d.f j):=hsc l d hlk hd j hj r r3 λi hi=>if_neg hi
  have e5:den1 r3 (d.f j)=x:=hx r3 λi hf=>by
   show(if i=k then ρ k else r i)=ρ i;by_cases ek:i=k
   .rw[if_pos ek,ek]
   .rw[if_neg ek];exact hr i (fil i ek hf)
  exact e4.symm.trans e5
 refine H.redo (T:=λj b=>j=i/\(S i b\/b=q.1)) E (λj=>j=i\/j=k) (λj=>j=i) (λb=>b=(ρ i).1\/b=q.1\/S i b) (λb hb=>?_) (λb hb=>?_) (λj hj=>?_) (λj d hj hA=>?_) (λj d hj hA=>?_) (λj d l f hj hA hl hB hne=>absurd (hA.trans hB.symm) hne)
 .rcases hb with hb|hb|hb
  .exact⟨i,_,.inl rfl,hi,.inl ⟨rfl,hb⟩⟩
  .exact⟨k,e,.inr rfl,hk,.inl ⟨heo,by rw[ρk];exact hb⟩⟩
  .exact⟨i,_,.inl rfl,hi,.inr hb⟩
 .rcases hb with rfl|rfl|hb
  .exact hmay
  .rw[ρk] at hmk;exact hmk
  .exact(E.mine i _ b hi hb).2.2
 .exact⟨fil j Q9R (H.base j hj).1,rfl⟩
 .rcases get j d hj with ⟨rfl,_⟩|⟨h1,h2,h3⟩
  .exact absurd rfl hA
  .exact⟨λh=>by rcases h with h|h;exact h1 h;exact h2 h,rfl,h3,λl hl x hx=>less j d h2 h3 l hl x hx⟩
 .rcases get j d hj with ⟨rfl,rfl⟩|⟨h1,_⟩
  .refine⟨.inl rfl,λl hl=>?_,λ_ l hl=>(H.own j _ hi rfl l hl).1,?_,λb hb=>⟨?_,?_⟩⟩
   .obtain⟨x,hx,hd⟩:=H.cell j _ hi l hl;exact⟨x,hx,less j _ hik hi l hl x hd⟩
   .show jh8 n enc ((q,a)::F) (λb=>j=j/\(S j b\/b=q.1)) w;refine⟨λb=>⟨λhb=>?_,fun⟨x,hx,hb⟩=>⟨rfl,?_⟩⟩,?_,λx hx l hl=>?_⟩
    .rcases hb.2 with hb|hb
     .obtain⟨x,hx,hxb⟩:=(FO.dom b).1 hb;exact⟨x,yE _ hx,hxb⟩
     .exact⟨(q,a),by simp,hb.symm⟩
    .rcases xj.1 hx with rfl|hx
     .exact .inr hb.symm
     .exact .inl ((FO.dom b).2 ⟨x,hx,hb⟩)
    .simp only[xp,xL];refine⟨λhmem=>?_,FO.nodup⟩;obtain⟨x,hx,hxb⟩:=xx.1 hmem;exact qS ((FO.dom _).2 ⟨x,hx,hxb⟩)
    .rcases xj.1 hx with rfl|hx
     .obtain⟨y,hy,hdy⟩:=H.cell k e hk l (xl hl hen);rw[hef l hl] at hdy;have:=q2g (hpl l hl) hdy;subst this;rw[ρk] at hy;have h2:=(H.own k e hk heo l (xl hl hen)).1;rw[ρk] at h2;exact⟨hy,h2⟩
     .exact FO.cell x hx l hl
   .rcases hb.2 with hb|hb
    .exact .inr (.inr hb)
    .exact .inr (.inl hb)
   .rcases hb.2 with hb|rfl
    .exact(E.mine j _ b hi hb).1
    .exact .inr qi
  .exact absurd hA h1
inductive AtRe(q:Nat×Nat)(k:Nat):Value->Value->Prop
 | same (v:Value):AtRe q k v v
 | ptr {s:Nat}:AtRe q k (jfd q) (.pointer (some ⟨k,0,some s⟩))
theorem qr5{F:Nat->Prop}{ρ:Rz}{q:Nat×Nat}{k:Nat}(hF:F k)(hρ:ρ k=q):∀{vs vs' xs:List Value},All2 (AtRe q k) vs vs'->All2 (Den F ρ) vs xs->All2 (Den F ρ) vs' xs
 | [],[],xs,_,h=>h
 | [],_::_,_,h,_=>h.elim
 | _::_,[],_,h,_=>h.elim
 | _::_,_::_,[],_,h=>h.elim
 | v::vs,v'::vs',x::xs,h,h'=>by
  refine⟨?_,qr5 hF hρ h.2 h'.2⟩;have h1:=h.1;cases h1 with
  | same=>exact h'.1
  | ptr=>
   intro r hr;have e1:x=jfd q:=h'.1.self.symm.trans qk9;have e2:r k=q:=(hr k hF).trans hρ;rw[e1];simp[den,den2,den1,den0,jft,e2,jfd]
theorem qff{P:Program}{g:FuncId}{vs:List Value}{h:Hp}{v:Value}{ms:Mz}{rh:List Nat}{c:Chunk}(vs':List Value)(hk:h[k]?=some (some c))(hx:c.x=atX q)(hvs:All2 (AtRe q k) vs vs')(hin:k∈rh\/∃d,(k,d)∈ms)(hc:qae P g vs' h v ms rh):qae P g vs h v ms rh:=
 λh₂ hr hm X ρ w xs H hxs=>by
  have hk2:h₂[k]?=some (some c):=by
   rcases hin with h1|⟨d,h1⟩
   .exact(hr k h1).trans hk
   .exact(hm _ h1).trans hk
  obtain⟨S,E⟩:=H.ext;have hρ:ρ k=q:=by have:=E.inv k c hk2;rw[hx] at this;exact this.1
  exact hc h₂ hr hm X ρ w xs H (qr5 ⟨c,hk2⟩ hρ hvs hxs)
theorem HOK.setX{h:Hp}{n:Nat}{o:Bool}(H:HOK X ρ h w)(hk:h[k]?=some (some (@Chunk.mk Ext.none o n ps)))(y:Ext)(hy:∀S,(∀b,¬ S b)->y.inv (ρ k) S w):HOK X ρ (h.set k (some (@Chunk.mk y o n ps))) w:=by
 obtain⟨S,E⟩:=H.ext;have hkl:=(xe.1 hk).1;have get:∀j d,(h.set k (some (@Chunk.mk y o n ps)))[j]?=some (some d)->∃c:Chunk,h[j]?=some (some c)/\d.own=c.own/\d.n=c.n/\d.ps=c.ps/\(d.x=c.x\/(j=k/\d.x=y/\c.x=Ext.none)):=λj d hj=>by
  by_cases ej:k=j
  .subst ej;rw[xw hkl] at hj;obtain rfl:_=d:=by simpa using hj
   exact⟨_,hk,rfl,rfl,rfl,.inr ⟨rfl,rfl,rfl⟩⟩
  .rw[xu ej] at hj;exact⟨d,hj,rfl,rfl,rfl,.inl rfl⟩
 have fil:∀j,Fil h j->Fil (h.set k (some (@Chunk.mk y o n ps))) j:=λj hj=>hj.set
 refine⟨H.evo,λi hi=>⟨fil i (H.base i hi).1,(H.base i hi).2⟩,λj d hj=>?_,λj d hj l hl=>?_,λj d hj ho l hl=>?_,λj d l f hj ho hl hne=>?_,S,λj d hj=>?_,λj d b hj hb=>?_,λj d b l f hj hb hl hne=>?_⟩
 .obtain⟨c,hc,_⟩:=get j d hj;exact H.lt j c hc
 .obtain⟨c,hc,_,e2,e3,_⟩:=get j d hj;obtain⟨x,hx,hd⟩:=H.cell j c hc l Q9R;refine⟨x,hx,?_⟩;have:d.f l=c.f l:=by unfold Chunk.f;rw[e3]
  rw[this];exact hd.more (AgreeOn.refl _ _) fil
 .obtain⟨c,hc,e1,e2,_⟩:=get j d hj;exact H.own j c hc (by rw[<-e1];exact ho) l Q9R
 .obtain⟨c,hc,e1,_⟩:=get j d hj;obtain⟨c2,hc2,_⟩:=get l f hl;exact H.sep j c l c2 hc (by rw[<-e1];exact ho) hc2 hne
 .obtain⟨c,hc,_,_,_,e⟩:=get j d hj;rcases e with e|⟨rfl,e,e'⟩
  .rw[e];exact E.inv j c hc
  .have:=E.inv j c hc;rw[e'] at this;rw[e];exact hy _ this
 .obtain⟨c,hc,_,e2,_⟩:=get j d hj;rw[e2];exact E.mine j c b hc hb
 .obtain⟨c,hc,_⟩:=get j d hj;obtain⟨c2,hc2,_⟩:=get l f hl;exact E.apart j c b l c2 hc hb hc2 hne
theorem HOK.mark{h:Hp}{n:Nat}{o:Bool}(H:HOK X ρ h w)(hk:h[k]?=some (some (@Chunk.mk Ext.none o n ps))):HOK X ρ (h.set k (some (@Chunk.mk (atX (ρ k)) o n ps))) w:=
 H.setX hk _ λS hS=>⟨rfl,hS⟩
theorem HOK.famNil{α:Type}{h:Hp}{n:Nat}{o:Bool}{enc:α->Nat->Value}(H:HOK X ρ h w)(hk:h[k]?=some (some (@Chunk.mk Ext.none o n ps))):HOK X ρ (h.set k (some (@Chunk.mk (famX m enc []) o n ps))) w:=
 H.setX hk _ λS hS=>⟨λb=>⟨λhb=>absurd hb (hS b),fun⟨q,hq,_⟩=>by cases hq⟩,yN,λq hq=>by cases hq⟩
abbrev atZ:Ext where
 inv:=λp S _=>p.2=0/\∀b,¬ S b
 keep:=λh _=>h
theorem q2m{α:Type}{h:Hp}{v:Value}{n:Nat}{o:Bool}(m:Nat)(enc:α->Nat->Value)(hk:h[k]?=some (some (@Chunk.mk Ext.none o n ps)))(kk:N (EndN ss (h.set k (some (@Chunk.mk (famX m enc []) o n ps))) v K)):N (EndN ss h v K):=
 N.mk λX ρ w x T H hd=>N.out kk X ρ w x T (H.famNil hk) (hd.more (AgreeOn.refl _ _) λj hj=>hj.set)
theorem qip{h:Hp}{v:Value}{n:Nat}{o:Bool}(v':Nat×Nat->Value)(hk:h[k]?=some (some (@Chunk.mk Ext.none o n ps)))(hv:∀q ρ,ρ k=q->den ρ v=den ρ (v' q))(kk:∀q,N (EndN ss (h.set k (some (@Chunk.mk (atX q) o n ps))) (v' q) K)):N (EndN ss h v K):=
 N.mk λX ρ w x T H hd=>N.out (kk (ρ k)) X ρ w x T (H.mark hk) (λr hr=>by
  have h1:AgreeOn (Fil h) ρ r:=λi hi=>hr i hi.set
  rw[<-hv (ρ k) r (h1 k ⟨_,hk⟩)];exact hd r h1)
theorem qvy{α:Type}{h:Hp}{v:Value}{i n:Nat}{enc:α->Nat->Value}{F:List ((Nat×Nat)×α)}(a:α)(hm:0<m)(hn:0<n)(hi:h[i]?=some (some (@Chunk.mk (famX n enc F) true m ps)))(hk:h[k]?=some (some e))(hik:i≠k)(hkb:ss.length<=k)
  (hib:i<ss.length->∃s,ss[i]?=some s/\s.e.x≠Ext.none/\Selfish s.e.x) (hex:e.x=atX q) (heo:e.own=true) (hen:n<=e.n) (hef:∀j,j<n->e.f j=enc a j) (hpl:∀j,j<n->qbh (enc a j)=true)
  (hsc:∀(l:Nat)(d:Chunk),l≠k->h[l]?=some (some d)->∀j,j<d.n->∀ρ ρ',(∀l,l≠k->ρ' l=ρ l)->den1 ρ' (d.f j)=den1 ρ (d.f j)) (hv:qam v=true)
  (kk:(∀x∈F,x.1≠q)->N (EndN ss ((h.set i (some (@Chunk.mk (famX n enc ((q,a)::F)) true m ps))).set k none) v K)):N (EndN ss h v K):=
 N.mk λX ρ w x T H hd=>by
  have mi:May X (ρ i).1:=by
   by_cases hl:i<ss.length
   .obtain⟨s,h1,h2,h3⟩:=hib hl;exact T.mayX H h1 h2 h3
   .exact T.may H hi rfl hm Q9R
  have mk:May X (ρ k).1:=T.may H hk heo Q9R hkb;have H2:=H.famIn hm hn hi hk hik (by rw[T.n0];exact hkb) mi mk hex heo hen hef hpl hsc;have hne:∀x∈F,x.1≠q:=λy hy e'=>by
   obtain⟨S,E⟩:=H.ext;have FO:jh8 n enc F (S i) w:=E.inv i _ hi;have hρ:ρ k=q:=by have:=E.inv k e hk;rw[hex] at this;exact this.1
   have:=(E.apart i _ _ k e hi ((FO.dom _).2 ⟨y,hy,rfl⟩) hk (Ne.symm hik)).1;rw[hρ,e'] at this;exact this rfl
  exact N.out (kk hne) X ρ w x T H2 (λr hr=>by rw[qa5 hv,<-hd.self,qa5 hv])
end Go.Proofs.YtfkngpmgcimdbaaGreat.Sx


namespace Go.Proofs.YtfkngpmgcimdbaaGreat
open Go Go.RowKit Sx
variable{a:Nat}
theorem qt2(h:a<18446744073709551616):(BitVec.ofInt IntKind.u64.bits (a:Int)).toNat=a:=by
 rw[BitVec.toNat_ofInt];show((a:Int)%18446744073709551616).toNat=a;omega
theorem qt3(h:a<18446744073709551616):IntKind.u64.wrap ((a:Nat):Int)=a:=by
 rw[xn];omega
theorem jqf{b:Nat}(ha:a<18446744073709551616)(hb:b<18446744073709551616):IntKind.u64.wrap ((BitVec.ofInt IntKind.u64.bits (a:Int) ||| BitVec.ofInt IntKind.u64.bits (b:Int)).toNat:Nat)=((a ||| b:Nat):Int):=by
 rw[BitVec.toNat_or,qt2 ha,qt2 hb];exact qt3 (Nat.or_lt_two_pow (n:=64) ha hb)
theorem jl7{b:Nat}(ha:a<18446744073709551616)(hb:b<18446744073709551616):IntKind.u64.wrap ((BitVec.ofInt IntKind.u64.bits (a:Int) &&& BitVec.ofInt IntKind.u64.bits (b:Int)).toNat:Nat)=((a &&& b:Nat):Int):=by
 rw[BitVec.toNat_and,qt2 ha,qt2 hb];exact qt3 (xQ Nat.and_le_left ha)
theorem jku(a n:Nat):IntKind.u64.wrap ((a:Int)*2^n)=((a*2^n%18446744073709551616:Nat):Int):=by
 rw[xn];have:((a:Int)*2^n)=((a*2^n:Nat):Int):=by rw[yn,Int.natCast_pow];rfl
 rw[this];omega
abbrev noC:Chunk:=⟨false,0,[]⟩
abbrev wnC(o a:Bool)(l:Int)(s:Nat):Chunk:=⟨o,3,[(0,3,.agg ⟨[.bool a,xc l,.int .u64 (s:Int)]⟩)]⟩
def bitW(l q:Int):Nat:=if -jfi l q<0\/-jfi l q>=64 then 0 else 2^(-jfi l q).toNat
theorem qr6(l q:Int):bitW l q<18446744073709551616:=by
 unfold bitW;split
 .decide
 .have:(-jfi l q).toNat<64:=by omega
  exact yV Q9V this
structure Win where
 any:Bool
 last:Int
 seen:Nat
def Win.zero:Win:=⟨false,0,0⟩
def whear(W:Win)(q:Int):Int×Win:=
 if W.any=false then (0,⟨true,q,1⟩)
 else if jfi W.last q=32768 then (9,W)
 else if 0<jfi W.last q then (0,⟨true,q,(W.seen*2^(jfi W.last q).toNat%18446744073709551616) ||| 1⟩)
 else if bitW W.last q=0\/W.seen &&& bitW W.last q≠0 then (9,W)
 else (0,⟨true,W.last,W.seen ||| bitW W.last q⟩)
abbrev jqg(o:Bool)(W:Win):Chunk:=wnC o W.any W.last W.seen
abbrev winX(x:Ext)(W:Win):Chunk:=@Chunk.mk x true 3 [(0,3,.agg ⟨[.bool W.any,xc W.last,.int .u64 (W.seen:Int)]⟩)]
variable{ix:List (Nat×Nat)}
theorem jl8{x y:Ext}{W:Win}:qbg ix (winX x W) (winX y W):=λj hj=>Q3T
variable{l:Int}
theorem jny{o o' a:Bool}{s:Nat}:qbg ix (wnC o a l s) (wnC o' a l s):=λj hj=>Q3T
theorem jnz{x:Ext}{o a:Bool}{s:Nat}:qbg ix (winX x ⟨a,l,s⟩) (wnC o a l s):=λj hj=>Q3T
variable{c:Chunk}
theorem qjm{a:Bool}{s:Nat}{hp:Hp}{n:Nat}{x:Ext}(hh:hp[n]?=some (some c))(ho:c.own=true)(hn:3<=c.n)(h0:c.f 0=.bool a)(h1:c.f 1=xc l)(h2:c.f 2=.int .u64 (s:Int)):PostC ix hp n (winX x ⟨a,l,s⟩):=
 ⟨_,hh,λ_=>ho,hn,λj hj=>by
  match j,hj with
  | 0,_=>rw[h0];exact .plain rfl
  | 1,_=>rw[h1];exact .plain rfl
  | 2,_=>rw[h2];exact .plain rfl⟩
theorem q7i(x:Ext)(W:Win)(q:Int)(i:Nat)(h:Hp)(hi:h[i]?=some (some (winX x W))):
  qae prog 110 [xd i,xc q] h (.int .u64 (bitW W.last q:Int)) [] [i]:=by
 obtain⟨a,l,s⟩:=W
 show qae _ _ _ h (.int .u64 (bitW l q:Int)) [] [i]
 refine qak (G:=tys) [⟨i,_,wnC false a l s,noC⟩] [] [xd 0,xc q] tysOK mixed func110 Q9S (call110) ⟨hi,xb⟩ ⟨⟨λh=>Qaa,nlr _,jnz⟩,xb⟩ Q9X xb Q83 ?_
 have hd:=qyc l q
 have en:IntKind.i64.wrap (0-jfi l q) = -jfi l q:=by rw[yu];omega
 repeat' (refine Ba ?_;first|refine Q5V ?_|refine Q5R ?_|refine Bb (qhg _ _ _) ?_|with_reducible refine Bj (λhb=>?_) (λhb=>?_)|refine Q6o ?_|refine Bc xb ?_|exact Be|fail)
 .refine Ba ?_;simp only[en,xh] at hb;exact Q5J
 .refine Ba ?_;rename_i hb1;simp only[en,xh,xm] at hb hb1;exact Q5J
 .refine Ba ?_;rename_i hb1;simp only[en,xh,xm] at hb hb1;refine Bc (by rw[en];omega) ?_;have e:IntKind.u64.wrap (1*2^sh (IntKind.i64.wrap (0-jfi l q)) IntKind.u64)=(bitW l q:Int):=by
   rw[en];have e1:sh (-jfi l q) IntKind.u64=(-jfi l q).toNat:=by show min (-jfi l q).toNat 64=_;omega
   have e2:bitW l q=2^(-jfi l q).toNat:=by unfold bitW;rw[if_neg Q9R]
   have e3:=jku 1 (-jfi l q).toNat;rw[e1];have hlt:=qr6 l q;rw[e2] at hlt ⊢;rw[zh,xC hlt] at e3;exact e3
  exact Q1s
theorem qhy(x:Ext)(W W':Win)(q e:Int)(i:Nat)(hs:W.seen<18446744073709551616)(hq:jf8 q)(he:whear W q=(e,W'))(h:Hp)(hi:h[i]?=some (some (winX x W))):
  qae prog 83 [xd i,xc q] h (xc e) [(i,winX x W')] []:=by
 refine qar (G:=tys) (λ_:Unit=>True) (λ_=>_) [⟨i,_,winX x W,winX x W'⟩] [] [xd 0,xc q] tysOK mixed func83 Q9S (call83) ⟨hi,xb⟩ ⟨⟨λh=>⟨rfl,nlr _⟩,nlr _,jl8⟩,xb⟩ Q9X Q81 xb Q83 Opens.same ?_
 rintro⟨⟩ -
 have hd:=qyc W.last q
 have hbw:=qr6 W.last q
 repeat' (refine Ba ?_;first|refine Q5V ?_|refine Q5R ?_|refine Bf (by simp only[xg hq];rfl) ?_|refine Bb (qch _ _) ?_|refine Bb (qhg _ _ _) ?_|refine Bb (q7i _ _ _ _ _ Q9S) ?_|with_reducible refine Bj (λhb=>?_) (λhb=>?_)|fail)
 .simp only[yS,yJ] at hb;have e1:whear W q=(0,⟨true,q,1⟩):=by unfold whear;rw[if_pos hb]
  exact Q0O
 .rename_i hb1;simp only[yS,ym,yv] at hb hb1;have e1:whear W q=(9,W):=by unfold whear;rw[if_neg (by rw[hb1];decide),if_pos hb]
  exact Q0O
 .rename_i hb2 hb1;simp only[yS,ym,yv,beq_eq_false_iff_ne,xh,xZ] at hb hb1 hb2;have e1:whear W q=(0,⟨true,q,(W.seen*2^(jfi W.last q).toNat%18446744073709551616) ||| 1⟩):=by unfold whear;rw[if_neg (by rw[hb2];decide),if_neg hb1,if_pos hb]
  rw[e1] at he;obtain⟨rfl,rfl⟩:=Prod.mk.inj he;refine Ba ?_;refine Bc Q9R ?_;have e2:IntKind.u64.wrap ((W.seen:Int)*2^sh (jfi W.last q) IntKind.u64)=((W.seen*2^(jfi W.last q).toNat%18446744073709551616:Nat):Int):=by
   rcases Int.le_total (jfi W.last q) 64 with h64|h64
   .have e3:sh (jfi W.last q) IntKind.u64=(jfi W.last q).toNat:=by show min (jfi W.last q).toNat 64=_;omega
    rw[e3];exact jku _ _
   .have e3:sh (jfi W.last q) IntKind.u64=64:=by show min (jfi W.last q).toNat 64=_;omega
    rw[e3,jku];have e4:∀m:Nat,64<=m->W.seen*2^m%18446744073709551616=0:=λm hm=>by
     obtain⟨r,rfl⟩:=Nat.exists_eq_add_of_le hm;rw[yf,show(2:Nat)^64=18446744073709551616 by decide,<-xR,zu];exact Nat.mul_mod_left _ _
    rw[e4 64 (nlr _),e4 _ Q9R]
  rw[e2];have e5:IntKind.u64.wrap ((BitVec.ofInt IntKind.u64.bits ((W.seen*2^(jfi W.last q).toNat%18446744073709551616:Nat):Int) ||| BitVec.ofInt IntKind.u64.bits 1).toNat:Nat)=((W.seen*2^(jfi W.last q).toNat%18446744073709551616 ||| 1:Nat):Int):=jqf (b:=1) (xr _ Q9V) Q9V;repeat' (refine Ba ?_;first|refine Q5V ?_|refine Q5R ?_|refine Bl ?_|refine Q6o ?_|refine Bc ⟨qjm Q9S rfl (nlr _) (by exact congrArg Value.bool hb2) Q9S (by exact congrArg (Value.int IntKind.u64) e5),xb⟩ ?_|refine Q61 ?_|exact Be|fail)
 .rename_i hb3 hb2 hb1;simp only[yS,ym,yv,beq_eq_false_iff_ne,xh,xm,xZ] at hb hb1 hb2 hb3;have hz:bitW W.last q=0:=by omega
  have e1:whear W q=(9,W):=by unfold whear;rw[if_neg (by rw[hb3];decide),if_neg hb2,if_neg hb1,if_pos (.inl hz)]
  exact Q0O
 .rename_i hb4 hb3 hb2 hb1;simp only[yS,ym,yv,beq_eq_false_iff_ne,xh,xm,xZ,bne_iff_ne,ne_eq] at hb hb1 hb2 hb3 hb4;rw[jl7 hs hbw] at hb;have e1:whear W q=(9,W):=by unfold whear;rw[if_neg (by rw[hb4];decide),if_neg hb3,if_neg hb2,if_pos (.inr Q9R)]
  exact Q0O
 .rename_i hb4 hb3 hb2 hb1;simp only[yS,ym,yv,beq_eq_false_iff_ne,xh,xm,xZ,bne_eq_false_iff_eq,ne_eq] at hb hb1 hb2 hb3 hb4;rw[jl7 hs hbw] at hb;have e1:whear W q=(0,⟨true,W.last,W.seen ||| bitW W.last q⟩):=by unfold whear;rw[if_neg (by rw[hb4];decide),if_neg hb3,if_neg hb2,if_neg Q9R]
  rw[e1] at he;obtain⟨rfl,rfl⟩:=Prod.mk.inj he;have e5:=jqf hs hbw;repeat' (refine Ba ?_;first|refine Q5V ?_|refine Q5R ?_|refine Bl ?_|refine Q6o ?_|refine Bc ⟨qjm Q9S rfl (nlr _) (by exact congrArg Value.bool hb4) Q9S (by exact congrArg (Value.int IntKind.u64) e5),xb⟩ ?_|refine Q61 ?_|exact Be|fail)
structure Ent where
 node:Int
 boot:Int
 heard:Int
 has:Bool
 x:Int
 y:Int
 a:Int
 b:Int
 d:Int
 when_:Int
abbrev _root_.Go.Proofs.Ez:=List (Int×Ent)
def Ent.zero:Ent:=⟨0,0,0,false,0,0,0,0,0,0⟩
abbrev entV(e:Ent):Value:=.agg ⟨[xc e.node,xc e.boot,xc e.heard,.bool e.has,xc e.x,xc e.y,xc e.a,xc e.b,xc e.d,xc e.when_]⟩
structure jkf where
 boot:Int
 left:Bool
 q:Nat×Nat
abbrev _root_.Go.Proofs.Fz:=List (Int×jkf)
abbrev jfa(l:jkf):Value:=.agg ⟨[xc l.boot,.bool l.left,jfd l.q]⟩
structure jg7 where
 boot:Int
 left:Bool
 W:Win
structure Tbl where
 most:Int
 E:Ez
 lives:Int->Option jg7
def winF(W:Win)(j:Nat):Value:=match j with
 | 0=>.bool W.any
 | 1=>.int .i64 W.last
 | _=>.int .u64 (W.seen:Int)
structure LB where
 D:Fz
 F:List ((Nat×Nat)×Win)
def qba(lv:Int->Option jg7)(β:LB):Prop:=
 (∀n,dGet β.D n=none->lv n=none)/\(∀n r,dGet β.D n=some r->∃W,(r.q,W)∈β.F/\lv n=some ⟨r.boot,r.left,W⟩)/\
 ∀n m r s,dGet β.D n=some r->dGet β.D m=some s->r.q=s.q->n=m
abbrev mainC(F:List ((Nat×Nat)×Win))(most:Int):Chunk:=@Chunk.mk (famX 3 winF F) true 3 [(0,3,.agg ⟨[xc most,.map (some 1),.map (some 2)]⟩)]
abbrev jgs(T:Tbl)(β:LB):Hp:=[some (mainC β.F T.most),some (mapC entV T.E),some (mapC jfa β.D)]
abbrev tblC(T:Tbl):Chunk:=packC (qba T.lives) (jgs T)
def Tbl.new(most:Int):Tbl:=⟨max 1 (min most 64),[],λ_=>none⟩
theorem q7j{F:List ((Nat×Nat)×Win)}{most:Int}{i j:Nat}(h0:c.f 0=xc most)(h1:c.f 1=.map (some i))(h2:c.f 2=.map (some j))(hi:ixK ix 1=some i)(hj:ixK ix 2=some j):∀l,l<3->Re1 ix (c.f l) ((mainC F most).f l):=λl hl=>by
 match l,hl with
 | 0,_=>rw[h0];exact .plain rfl
 | 1,_=>rw[h1];exact .map hi
 | 2,_=>rw[h2];exact .map hj
theorem qb3{ss:List je2}{h:Hp}{v:Value}{K:Value->Hp->Prop}(T:Tbl)(β:LB)(m i j:Nat)(keep:List Nat)(hpc:∀l,(l=m\/l=i\/l=j)->l<ss.length->∃s,ss[l]?=some s/\s.e.x≠Ext.none/\Selfish s.e.x)(hbs:∀i,i<ss.length->i=m\/i∈keep)(hok:qba T.lives β)
  (hm:h[m]?=some (some c)) (ho:c.own=true) (hn:c.n=3) (hx:c.x=famX 3 winF β.F) (h0:c.f 0=xc T.most) (h1:c.f 1=.map (some i)) (h2:c.f 2=.map (some j)) (hi:h[i]?=some (some (mapC entV T.E))) (hj:h[j]?=some (some (mapC jfa β.D))) (hd:m≠i/\m≠j/\i≠j)
  (hkk:∀k∈keep,k≠m/\k≠i/\k≠j) (hkd:∀k∈keep,∀(d:Chunk),h[k]?=some (some d)->∀l,l<d.n->Safe1 (qck (tblC T) m keep h 0) (d.f l))
  (hv:∀ρ ρ',AgreeOn (Fil (qck (tblC T) m keep h 0)) ρ ρ'->den ρ' v=den ρ v) (kk:K v (qck (tblC T) m keep h 0)):N (EndN ss h v K):=by
 refine qyf (ok:=qba T.lives) (hB:=jgs T) β m [(0,m),(1,i),(2,j)] keep (λk l hk hl=>hpc l ?_ hl) hbs hok rfl ⟨_,rfl⟩ ?_ rfl ?_ (λk hk l i' hm'=>?_) hkd hv (xe.1 hm).1 kk
 .exact Q5s
 .have nb:∀a b:Nat,a≠b->Nat.beq a b=false:=λa b hab=>by
   cases e:Nat.beq a b with
   | false=>rfl
   | true=>exact absurd (xN e) hab
  simp only[jh9,yx,List.all_nil,nb _ _ hd.1.symm,nb _ _ hd.2.1.symm,nb _ _ hd.2.2.symm];rfl
 .intro k d hk
  match k,hk with
  | 0,hk=>
   obtain rfl:_=d:=by simpa using hk
   exact⟨m,c,rfl,hm,ho,by rw[hn];exact nlr _,q7j h0 h1 h2 rfl rfl,.inr hx.symm,.inl Q9R⟩
  | 1,hk=>
   obtain rfl:_=d:=by simpa using hk
   exact⟨i,_,rfl,hi,rfl,nlr _,nzj,.inr rfl,.inr qjz⟩
  | 2,hk=>
   obtain rfl:_=d:=by simpa using hk
   exact⟨j,_,rfl,hj,rfl,nlr _,nzj,.inr rfl,.inr qjz⟩
  | k+3,hk=>simp at hk
 .exact Q3J
theorem q2n:qba (λ_=>none) ⟨[],[]⟩:=⟨λ_ _=>rfl,λ_ _ h=>by simp[dGet] at h,λ_ _ _ _ h=>by simp[dGet] at h⟩
theorem qbn{v:Value}(h:qam v=true){F:Nat->Prop}:∀ρ ρ',AgreeOn F ρ ρ'->den ρ' v=den ρ v:=λρ ρ' _=>by rw[qa5 h,qa5 h]
theorem qnw(T:Tbl):(tblC T).x≠Ext.none:=λe=>by
 have h1:∀p S w,(tblC T).x.inv p S w->S p.1:=qa8;exact Q5N
theorem qbw{i:Nat}{T T':Tbl}:∀l,(l=0\/l=1\/l=2)->l<[(⟨i,tblC T,tblC T,tblC T'⟩:je2)].length->∃s,[(⟨i,tblC T,tblC T,tblC T'⟩:je2)][l]?=some s/\s.e.x≠Ext.none/\Selfish s.e.x:=λl _ hl=>by
 obtain rfl:l=0:=by simpa using hl
 exact⟨_,rfl,qnw T,qa8⟩
theorem jg8{h:Hp}{T:Tbl}{m:Nat}:∀k∈([]:List Nat),∀(d:Chunk),h[k]?=some (some d)->∀l,l<d.n->Safe1 (qck (tblC T) m [] h 0) (d.f l):=λk hk=>by cases hk
theorem jn0(most:Int)(k:Nat)(h:Hp)(hk:h[k]?=some none):
  qae prog 26 [xc most] h (xd k) [(k,tblC (Tbl.new most))] []:=by
 refine qar (G:=tys) (λ_:Unit=>True) (λ_=>[]) [] [⟨k,10,tblC (Tbl.new most)⟩] [xc most] tysOK mixed func26 Q9S (call26) xb xb xb xb ⟨⟨hk,rfl,.inr qa8,by simp⟩,xb⟩ ⟨.plain rfl,xb⟩ Opens.same ?_
 rintro⟨⟩ -
 repeat' (refine Ba ?_;first|refine Q5V ?_|refine Q5R ?_|refine Q6S ?_|fail)
 refine Ba ?_
 refine qyb entV ?_
 repeat' (refine Ba ?_;first|refine Q5V ?_|refine Q5R ?_|refine Q6S ?_|fail)
 refine Ba ?_
 refine qyb jfa ?_
 repeat' (refine Ba ?_;first|refine Q5V ?_|refine Q5R ?_|refine Q6S ?_|fail)
 refine Ba ?_
 refine q2m 3 winF (k:=10) Q9S ?_
 refine qb3 (Tbl.new most) ⟨[],[]⟩ 10 8 9 [] (λ_ _ hl=>absurd hl Qa2) (λi hi=>absurd hi Qa2) q2n Q9S Q9S Q9S Q9S Q9S Q9S Q9S Q9S Q9S Q9V (λk hk=>by cases hk) jg8 (λρ ρ' ha=>by have:=ha 10 ⟨_,rfl⟩;simp[den,den2,den1,den0,jft,this]) ?_
 refine Bc (.one (.ptr rfl)) ?_
 refine Bc xb ?_
 refine Bc ⟨⟨xi _,_,rfl,id,nlr _,nzj⟩,xb⟩ ?_
 refine Bc ⟨xb,.inr ⟨_,rfl,rfl⟩,xb⟩ ?_
 exact Be
end Go.Proofs.YtfkngpmgcimdbaaGreat


namespace Go.Proofs
open Go.Shelf
def Tryz.keysA_ren:Go.Shelf.Ren:=⟨fun|7=>90|10=>129|n=>n,fun|23=>128|26=>3|3=>114|28=>167|0=>0|27=>166|33=>68|4=>4|n=>n,fun|n=>n⟩
theorem Tryz.keysA:Go.Proofs.SlLaysZI.n7 prog Tryz.keysA_ren:={
 mixed:=by kernel_rfl
 f7:=⟨Tryz.f90.name,by decide,func90.trans (congrArg some Q9W)⟩
 f10:=⟨Tryz.f129.name,by decide,func129.trans (congrArg some Q9W)⟩
 t0:=underlying0
 a0:=Tryz.isAgg0
 z0:=Tryz.sizeOf0
 v0:=Tryz.zeroValue0
 t4:=underlying4
 a4:=Tryz.isAgg4
 z4:=Tryz.sizeOf4
 v4:=Tryz.zeroValue4
 t23:=underlying128
 a23:=Tryz.isAgg128
 z23:=Tryz.sizeOf128
 v23:=Tryz.zeroValue128
 t26:=underlying3
 a26:=Tryz.isAgg3
 z26:=Tryz.sizeOf3
 v26:=Tryz.zeroValue3
 t27:=underlying166
 a27:=Tryz.isAgg166
 z27:=Tryz.sizeOf166
 v27:=Tryz.zeroValue166
 t28:=underlying167
 a28:=Tryz.isAgg167
 z28:=Tryz.sizeOf167
 v28:=Tryz.zeroValue167
 t33:=underlying68
 a33:=Tryz.isAgg68
 z33:=Tryz.sizeOf68
 v33:=Tryz.zeroValue68 }
def Tryz.sortedA_ren:Go.Shelf.Ren:=⟨fun|6=>89|8=>127|9=>128|11=>149|13=>151|12=>150|23=>184|24=>185|14=>175|15=>176|16=>177|17=>178|18=>179|19=>180|20=>181|21=>182|22=>183|25=>201|26=>202|27=>203|28=>204|29=>205|30=>140|31=>222|n=>n,fun|26=>3|28=>167|24=>92|0=>0|3=>3|37=>150|48=>104|50=>58|4=>4|40=>248|39=>247|45=>144|5=>5|9=>9|51=>272|55=>276|57=>298|58=>299|33=>68|n=>n,fun|n=>n⟩
theorem Tryz.sortedA:Go.Proofs.SlLaysZI.n6 prog Tryz.sortedA_ren:={
 mixed:=by kernel_rfl
 f6:=⟨Tryz.f89.name,by decide,func89.trans (congrArg some Q9W)⟩
 f8:=⟨Tryz.f127.name,by decide,func127.trans (congrArg some Q9W)⟩
 f11:=⟨Tryz.f149.name,by decide,func149.trans (congrArg some Q9W)⟩
 t0:=underlying0
 a0:=Tryz.isAgg0
 z0:=Tryz.sizeOf0
 v0:=Tryz.zeroValue0
 t24:=underlying92
 a24:=Tryz.isAgg92
 z24:=Tryz.sizeOf92
 v24:=Tryz.zeroValue92
 t26:=underlying3
 a26:=Tryz.isAgg3
 z26:=Tryz.sizeOf3
 v26:=Tryz.zeroValue3
 t28:=underlying167
 a28:=Tryz.isAgg167
 z28:=Tryz.sizeOf167
 v28:=Tryz.zeroValue167
 i26:=by kernel_rfl }
def Tryz.sortA_ren:Go.Shelf.Ren:=⟨fun|5=>128|8=>151|7=>150|19=>184|20=>185|10=>175|11=>176|12=>177|13=>178|14=>179|15=>180|16=>181|17=>182|18=>183|30=>201|31=>202|32=>203|33=>204|34=>205|35=>140|40=>222|n=>n,fun|23=>92|25=>3|3=>3|32=>150|22=>92|0=>0|44=>104|46=>58|4=>4|36=>248|35=>247|41=>144|5=>5|9=>9|53=>272|57=>276|63=>298|64=>299|n=>n,fun|n=>n⟩
theorem Tryz.sortA:Go.Proofs.SlLaysM.n5 prog Tryz.sortA_ren:={
 mixed:=by kernel_rfl
 f5:=⟨Tryz.f128.name,by decide,func128.trans (congrArg some Q9W)⟩
 f7:=⟨Tryz.f150.name,by decide,func150.trans (congrArg some Q9W)⟩
 f8:=func151.trans (congrArg some Q9W)
 f10:=⟨Tryz.f175.name,by decide,func175.trans (congrArg some Q9W)⟩
 f11:=⟨Tryz.f176.name,by decide,func176.trans (congrArg some Q9W)⟩
 f12:=⟨Tryz.f177.name,by decide,func177.trans (congrArg some Q9W)⟩
 f13:=⟨Tryz.f178.name,by decide,func178.trans (congrArg some Q9W)⟩
 f14:=⟨Tryz.f179.name,by decide,func179.trans (congrArg some Q9W)⟩
 f15:=⟨Tryz.f180.name,by decide,func180.trans (congrArg some Q9W)⟩
 f16:=⟨Tryz.f181.name,by decide,func181.trans (congrArg some Q9W)⟩
 f17:=⟨Tryz.f182.name,by decide,func182.trans (congrArg some Q9W)⟩
 f18:=⟨Tryz.f183.name,by decide,func183.trans (congrArg some Q9W)⟩
 f19:=func184.trans (congrArg some Q9W)
 f20:=func185.trans (congrArg some Q9W)
 f30:=⟨Tryz.f201.name,by decide,func201.trans (congrArg some Q9W)⟩
 f31:=func202.trans (congrArg some Q9W)
 f32:=func203.trans (congrArg some Q9W)
 f33:=⟨Tryz.f204.name,by decide,func204.trans (congrArg some Q9W)⟩
 f34:=⟨Tryz.f205.name,by decide,func205.trans (congrArg some Q9W)⟩
 f35:=⟨Tryz.f140.name,by decide,func140.trans (congrArg some Q9W)⟩
 f40:=⟨Tryz.f222.name,by decide,func222.trans (congrArg some Q9W)⟩
 t0:=underlying0
 a0:=Tryz.isAgg0
 z0:=Tryz.sizeOf0
 v0:=Tryz.zeroValue0
 t3:=underlying3
 a3:=Tryz.isAgg3
 z3:=Tryz.sizeOf3
 v3:=Tryz.zeroValue3
 t4:=underlying4
 a4:=Tryz.isAgg4
 z4:=Tryz.sizeOf4
 v4:=Tryz.zeroValue4
 t5:=underlying5
 a5:=Tryz.isAgg5
 z5:=Tryz.sizeOf5
 v5:=Tryz.zeroValue5
 t9:=underlying9
 a9:=Tryz.isAgg9
 z9:=Tryz.sizeOf9
 v9:=Tryz.zeroValue9
 t22:=underlying92
 a22:=Tryz.isAgg92
 z22:=Tryz.sizeOf92
 v22:=Tryz.zeroValue92
 t23:=underlying92
 a23:=Tryz.isAgg92
 z23:=Tryz.sizeOf92
 v23:=Tryz.zeroValue92
 t25:=underlying3
 a25:=Tryz.isAgg3
 z25:=Tryz.sizeOf3
 v25:=Tryz.zeroValue3
 t32:=underlying150
 a32:=Tryz.isAgg150
 z32:=Tryz.sizeOf150
 v32:=Tryz.zeroValue150
 t35:=underlying247
 a35:=Tryz.isAgg247
 z35:=Tryz.sizeOf247
 v35:=Tryz.zeroValue247
 t36:=underlying248
 a36:=Tryz.isAgg248
 z36:=Tryz.sizeOf248
 v36:=Tryz.zeroValue248
 t41:=underlying144
 a41:=Tryz.isAgg144
 z41:=Tryz.sizeOf144
 v41:=Tryz.zeroValue144
 t44:=underlying104
 a44:=Tryz.isAgg104
 z44:=Tryz.sizeOf104
 v44:=Tryz.zeroValue104
 t46:=underlying58
 a46:=Tryz.isAgg58
 z46:=Tryz.sizeOf58
 v46:=Tryz.zeroValue58
 t53:=underlying272
 a53:=Tryz.isAgg272
 z53:=Tryz.sizeOf272
 v53:=Tryz.zeroValue272
 t57:=underlying276
 a57:=Tryz.isAgg276
 z57:=Tryz.sizeOf276
 v57:=Tryz.zeroValue276
 t63:=underlying298
 a63:=Tryz.isAgg298
 z63:=Tryz.sizeOf298
 v63:=Tryz.zeroValue298
 t64:=underlying299
 a64:=Tryz.isAgg299
 z64:=Tryz.sizeOf299
 v64:=Tryz.zeroValue299 }
end Go.Proofs


namespace Go.Proofs.YtfkngpmgcimdbaaGreat
open Go Go.RowKit Sx
theorem HOK.newB{X:Ctx}{ρ:Rz}{h:Hp}{w w':World}{i g:Nat}{d:Chunk}(H:HOK X ρ h w)(hi:h[i]?=some none)(hB:Below w.heap.size w w')(hg:w.heap.size<=g/\g<w'.heap.size)(hx:d.x=Ext.none)
  (hc:∀j,j<d.n->w'.cell? ⟨g,j,none⟩=some (d.f j)/\qbh (d.f j)=true/\w'.frozen? ⟨g,j,none⟩=false):∃ρ',AgreeOn (Fil h) ρ ρ'/\ρ' i=(g,0)/\HOK X ρ' (h.set i (some d)) w':=by
 have H2:=H.frame hB
 obtain⟨S,E⟩:=H.ext
 obtain⟨S2,E2⟩:=H2.ext
 have hl:=(xe.1 hi).1
 have nf:¬ Fil h i:=fun⟨d,hd⟩=>by rw[hi] at hd;cases hd
 let ρ':Nat->Nat×Nat:=λk=>if k=i then (g,0) else ρ k
 have hag:AgreeOn (Fil h) ρ ρ':=λk hk=>Q4z
 have hρi:ρ' i=(g,0):=if_pos rfl
 have hρk:∀k,k≠i->ρ' k=ρ k:=λk hk=>if_neg hk
 have get:∀k e,(h.set i (some d))[k]?=some (some e)->(k=i/\e=d)\/(k≠i/\h[k]?=some (some e)):=λk e hk=>Q1g
 have fil:∀k,Fil h k->Fil (h.set i (some d)) k:=λk hk=>hk.set
 refine⟨ρ',hag,hρi,H2.evo,λk hk=>⟨fil k (H2.base k hk).1,?_⟩,λk e hk=>?_,λk e hk j hj=>?_,λk e hk hoe j hj=>?_,λk e l f hk hoe hlf hne=>?_,?_⟩
 .rw[hag k (H2.base k hk).1];exact(H2.base k hk).2
 .rcases get k e hk with ⟨rfl,rfl⟩|⟨hne,hk⟩
  .rw[hρi];exact hg.2
  .rw[hρk k hne];exact H2.lt _ _ hk
 .rcases get k e hk with ⟨rfl,rfl⟩|⟨hne,hk⟩
  .rw[hρi];obtain⟨h1,h2,_⟩:=hc j hj;exact⟨_,by simpa using h1,Den1.plain h2⟩
  exact Q4U
 .rcases get k e hk with ⟨rfl,rfl⟩|⟨hne,hk⟩
  .rw[hρi];exact⟨by simpa using (hc j hj).2.2,.inl (xH H.evo.size hg.1)⟩
  .rw[hρk k hne];exact H2.own _ _ hk hoe j hj
 .exact Q2R
 .refine⟨λk b=>k≠i/\S k b,λk e hk=>?_,λk e b hk hS=>?_,λk e b l f hk hS hl' hne=>?_⟩
  .rcases get k e hk with ⟨rfl,rfl⟩|⟨hne,hk⟩
   .rw[hx];exact λb hb=>hb.1 rfl
   .have:(λb=>k≠i/\S k b)=S k:=by funext b;exact propext ⟨λh=>h.2,λh=>⟨hne,h⟩⟩
    exact Q4K
  .rcases get k e hk with ⟨rfl,rfl⟩|⟨hne,hk⟩
   .exact absurd rfl hS.1
   exact Q4x
  .rcases get k e hk with ⟨rfl,rfl⟩|⟨hk1,hk⟩
   .exact absurd rfl hS.1
   .have hlt:=(E.mine k e b hk hS.2).2.1;rcases get l f hl' with ⟨hli,hfd⟩|⟨hl1,hl'⟩
    .refine⟨by rw[hli,hρi];show g≠b;omega,λh=>h.1 hli⟩
    .obtain⟨a1,a2⟩:=E.apart _ _ b _ _ hk hS.2 hl' hne;exact⟨by rw[hρk l hl1];exact a1,λh=>a2 h.2⟩
theorem wfI{a:Int}(h : -9223372036854775808<=a/\a<=9223372036854775807):(Lit.int .i64 a).wf=true:=by
 have h1:IntKind.min .i64 = -9223372036854775808:=by decide
 have h2:IntKind.max .i64=9223372036854775807:=by decide
 simp only[Lit.wf,h1,h2,xo,xh];exact h
theorem Tryz.sortsA(m:Nat):AnyZI.SortsIn prog Tryz.sortedA_ren Fence.wide m:=
 ⟨λblk off cap ss W hH hblk hsz=>callsIn_wide.2 (AnyM.slices_Sort_int Tryz.sortA blk off cap ss W hH hblk hsz),
  λp cap W=>callsIn_wide.2 (AnyM.slices_Sort_int_none Tryz.sortA p cap W)⟩
abbrev q5u:FuncId:=90
abbrev qqi:FuncId:=129
abbrev qt4:FuncId:=89
theorem jbe(mb:Option Nat)(W:World):Calls prog q5u #[.map mb] W λe w'=>e=.returned (.func (.func qqi) #[] #[.pointer (some ⟨W.heap.size,0,none⟩)])/\w'=W.alloc (.cells #[.map mb] 128):=
 callsIn_wide.1 (AnyZI.keys_in Tryz.keysA Fence.wide 5 xb rfl mb W)
theorem qjn{H:Type}:∀l:List (Lit×DataW H),(l.foldr DataW.insert []).Perm l
 | []=>.nil
 | x::l=>(WideShapes.insert_perm x _).trans ((qjn l).cons x)
abbrev leZ:Int->Int->Bool:=λx y=>decide (x<=y)
def sortK{α:Type}(D:List (Int×α)):List Int:=(D.map (·.1)).mergeSort leZ
variable{α:Type}
theorem qqj(D:List (Int×α)):(sortK D).length=D.length:=by simp[sortK]
theorem qvz(D:List (Int×α)):(sortK D).Perm (D.map (·.1)):=List.mergeSort_perm _ _
theorem q2o{enc:α->Value}(D:List (Int×α))(B b:Nat)(W:World)(hB:B<W.heap.size)(hc:W.cell? ⟨B,0,none⟩=some (.map (some b))){es:Array MapEntry}{clock:Nat}(hb:W.heap[b]?=some (.map es clock))(M:MapIs enc D es clock)(hl:D.length<=100000):
  Calls prog qt4 #[.func (.func qqi) #[] #[.pointer (some ⟨B,0,none⟩)]] W λe w'=>∃v,e=.returned v/\w'.ownsRow W.heap.size 3 1 v D.length ((sortK D).map encZ)/\(v=.slice none 0 0↔D=[])/\Below W.heap.size W w':=by
 let R:Value->Option (DataW Unit×List MemPlace):=λ_=>some (.nil,[])
 let D0:DataW Unit:=.map ((es.toList.map (Go.WideElems.rg prog 3 R)).foldr DataW.insert [])
 have hk:=underlying3
 have hrd:∀x∈es.toList,∃k,x.key=.int .i64 k/\Go.WideElems.rd prog 3 R x=some (.int .i64 k,.nil):=λx hx=>by
  have:(x.key,x.val)∈es.toList.map (λe=>(e.key,e.val)):=xx.2 ⟨x,hx,rfl⟩;rw[M.ents] at this;obtain⟨q,hq,e⟩:=xx.1 this;have e1:=(Prod.mk.inj e).1.symm;have hw:=M.wf q hq;refine⟨q.1,e1,?_⟩;unfold Go.WideElems.rd;rw[e1,Maps.keyOf_int_mk hk (wfI hw)];rfl
 have hsz:=M.size
 have hown:W.ownsMap prog 3 R b es.size D0:=⟨es,clock,hb,⟨by rw[hsz];exact xH hl Q9V,M.stamped,λx hx=>by obtain⟨k,_,h2⟩:=hrd x hx;exact⟨_,h2⟩⟩,nlr _,rfl⟩
 have hD0:Maps.size D0=D.length:=by
  show((es.toList.map (Go.WideElems.rg prog 3 R)).foldr DataW.insert []).length=_;rw[(qjn _).length_eq];simp[hsz]
 have hkeys:(intKeys D0).Perm (D.map (·.1)):=by
  show(((es.toList.map (Go.WideElems.rg prog 3 R)).foldr DataW.insert []).map λp=>Go.intOf p.1).Perm _;refine((qjn _).map _).trans ?_;have e1:((es.toList.map (Go.WideElems.rg prog 3 R)).map λp=>Go.intOf p.1)=(es.toList.map λe=>e.key).map λv=>match v with|.int _ a=>a|_=>0:=by
   rw[zp,zp];refine yo λx hx=>?_
   obtain⟨k,h1,h2⟩:=hrd x hx;simp only[Function.comp_def,Go.WideElems.rg,h2,h1,yR,Go.intOf]
  have e2:es.toList.map (λe=>e.key)=D.map λq=>(.int .i64 q.1:Value):=Q4T
  rw[e1,e2,zp];exact .refl _
 have hseq:=AnyZI.keys_gives (ρ:=Tryz.keysA_ren) { Tryz.keysA with } Fence.wide 2 xb rfl Q9R B b es.size D0 W hB hc hown
 have cS:=AnyZI.sorted_in Tryz.sortedA Fence.wide 5 xb xb xb xb rfl Q9R (Tryz.sortsA _) (enters_of func128 Q9W rfl) qqi #[.pointer (some ⟨B,0,none⟩)] trivial (enters_of func129 Q9W rfl) _ _ (by rw[hD0];exact xH hl Q9V) (by rw[hD0];omega) W hseq
 refine(callsIn_wide.1 cS).mono ?_
 rintro e w' ⟨v,ss,rfl,hS,hrow,hnil,hbel⟩
 have hp:ss.Perm (D.map (·.1)):=hS.trans hkeys
 have hlen:ss.length=D.length:=by rw[hp.length_eq];simp
 have hsort:ss.mergeSort (λx y=>decide (x<=y))=sortK D:=mergeSort_of_perm_i hp
 rw[hsort,hlen] at hrow
 refine⟨v,rfl,hrow,hnil.trans ⟨λh=>?_,λh=>?_⟩,hbel⟩
 .rw[h] at hlen;exact ze.1 hlen.symm
 .rw[h] at hlen;exact ze.1 hlen
abbrev jqh(k:Nat):Value:=.func (.func qqi) ⟨[]⟩ ⟨[xd k]⟩
abbrev jl9(i:Nat):Chunk:=@Chunk.mk atZ true 1 [(0,1,.map (some i))]
theorem qyg(i k:Nat)(c:Chunk)(h:Hp)(hi:h[i]?=some (some c))(hk:h[k]?=some none):qae prog q5u [.map (some i)] h (jqh k) [(k,jl9 i)] [i]:=λh₂ hr hm X ρ w xs H hx=>by
 have hi2:h₂[i]?=some (some c):=(hr i Qa2).trans hi;have hk2:h₂[k]?=some none:=(hm _ Q8a).trans hk;obtain⟨x,rfl⟩:∃x,xs=[x]:=by
  match xs,hx with
  | [x],_=>exact⟨x,rfl⟩
 have hx1:x=.map (some (ρ i).1):=hx.1.self.symm;refine .inr ⟨call90 _ w,?_⟩;rw[hx1];refine(jbe (some (ρ i).1) w).mono ?_;rintro e w' ⟨rfl,rfl⟩;obtain⟨ρ',ha,hρ,H'⟩:=H.alloc (c:=⟨true,1,[(0,1,.map (some i))]⟩) (xs:=#[.map (some (ρ i).1)]) (ty:=128) hk2 rfl (λj y hy=>by
  cases j with
  | zero=>
   simp at hy;subst hy;exact λr hr=>by
    have:=hr i ⟨c,hi2⟩;show den1 r (.map (some i))=_;simp[den1,den0,this]
  | succ j=>simp at hy)
 have H3:=H'.setX (k:=k) (xw (xe.1 hk2).1) atZ λS hS=>⟨by rw[hρ],hS⟩
 rw[zm] at H3;refine⟨_,rfl,ρ',ha,H3,λr hr=>?_⟩;have:=hr k ⟨jl9 i,by show(h₂.set k _)[k]?=_;rw[xw (xe.1 hk2).1]⟩;simp[den,den2,den1,den0,jft,this,hρ]
abbrev jhi(l:List Int):Chunk:=⟨true,l.length,[(0,l.length,.agg ⟨l.map (Value.int .i64)⟩)]⟩
theorem qr7{l:List Int}{j:Nat}{x:Int}(h:l[j]?=some x):(jhi l).f j=xc x:=by
 have hl:=(xe.1 h).1;show qa9 [(0,l.length,.agg ⟨l.map (Value.int .i64)⟩)] j=_;rw[qan,if_pos Q9R];simp[cellIn,h]
def jn1{α:Type}(D:List (Int×α))(k:Nat)(v:Value)(ms:Mz):Prop:=
 (D=[]/\v=.slice none 0 0/\ms=[])\/∃cap,0<D.length/\D.length<=cap/\v=.slice (some ⟨k,0,some 0⟩) D.length cap/\ms=[(k,jhi (sortK D))]
theorem qnx{enc:α->Value}(D:List (Int×α))(i l k:Nat)(c:Chunk)(h:Hp)(hi:h[i]?=some (some c))(hc:c.x=jjn enc D)(hl:h[l]?=some (some (jl9 i)))(hk:h[k]?=some none)(hlen:D.length<=100000):CallAll prog qt4 [jqh l] h (jn1 D k):=λX ρ w xs H hx=>by
 obtain⟨x,rfl⟩:∃x,xs=[x]:=by
  match xs,hx with
  | [x],_=>exact⟨x,rfl⟩
 obtain⟨S,E⟩:=H.ext;have hz:(ρ l).2=0:=(E.inv l _ hl).1;have hx1:x=.func (.func qqi) #[] #[.pointer (some ⟨(ρ l).1,0,none⟩)]:=by
  rw[<-hx.1.self];simp[den,den2,den1,den0,jft,hz]
 obtain⟨hS,es,clock,hb,M⟩:(∀b,S i b↔b=(ρ i).1)/\∃es clock,w.heap[(ρ i).1]?=some (.map es clock)/\MapIs enc D es clock:=by have:=E.inv i c hi;rw[hc] at this;exact this
 have hcell:w.cell? ⟨(ρ l).1,0,none⟩=some (.map (some (ρ i).1)):=by
  obtain⟨y,hy,hd⟩:=H.cell l _ hl 0 (by show 0<1;decide);rw[hz] at hy;have:=hd.self;rw[hy,<-this];rfl
 refine .inr ⟨call89 _ w,?_⟩;rw[hx1];refine(q2o D (ρ l).1 (ρ i).1 w (H.lt l _ hl) hcell hb M hlen).mono ?_;rintro e w' ⟨v,rfl,⟨_,hrow⟩,hnil,hbel⟩;rcases hrow with ⟨rfl,h0⟩|⟨g,cap,cur,rfl,hbase,hg,hcap,hmax,hsz,htake⟩
 .exact⟨_,rfl,.slice none 0 0,[],ρ,.inl ⟨ze.1 h0,rfl,rfl⟩,AgreeOn.refl _ _,H.frame hbel,λr _=>rfl⟩
 .have hpos:0<D.length:=by
   rcases xU D.length with h0|h0
   .have:=hnil.2 (ze.1 h0);cases this
   .exact h0
  have hlt:g<w'.heap.size:=(xO.1 hg).1;rw[x9] at htake hsz;obtain⟨ρ',ha,hρ,H'⟩:=HOK.newB (d:=jhi (sortK D)) H hk hbel ⟨hbase,hlt⟩ rfl (λj hj=>by
   have hj:j<(sortK D).length:=hj;have e1:(sortK D)[j]?=some (sortK D)[j]:=by simp[hj]
   rw[qr7 e1];refine⟨?_,rfl,by simp[World.frozen?,hg]⟩;have h1:(cur.toList.take D.length)[j]?=((sortK D).map encZ)[j]?:=by rw[htake]
   rw[List.getElem?_take_of_lt (by rw[<-qqj D];exact hj)] at h1;simp only[World.cell?,hg];simp only[Option.isSome_none,xG,if_false];rw[<-zE,h1];simp[hj])
  refine⟨_,rfl,.slice (some ⟨k,0,some 0⟩) D.length cap,[(k,jhi (sortK D))],ρ',.inr ⟨cap,hpos,hcap,rfl,rfl⟩,ha,H',λr hr=>?_⟩;have:=hr k ⟨jhi (sortK D),by show(h.set k _)[k]?=_;rw[xw (xe.1 hk).1]⟩;simp[den,den2,den1,den0,jft,this,hρ]
end Go.Proofs.YtfkngpmgcimdbaaGreat


namespace Go.Proofs.YtfkngpmgcimdbaaGreat.Sx
open Go Go.RowKit
def ixI:List (Nat×Nat)->Nat->Option Nat
 | [],_=>none
 | (k,i)::r,n=>match Nat.beq i n with
  | true=>some k
  | false=>ixI r n
def qt5:List (Nat×Nat)->Nat->Nat->Bool
 | [],_,_=>true
 | (k,i)::r,a,b=>(!Nat.beq k a && !Nat.beq i b)&&qt5 r a b
def jkv:List (Nat×Nat)->Bool
 | []=>true
 | (k,i)::r=>qt5 r k i&&jkv r
def qqk(ix:List (Nat×Nat)):Nat->Bool
 | 0=>true
 | n+1=>(match ixI ix n with
  | some k=>Nat.beq k n
  | none=>false)&&qqk ix n
def jiw(h:Hp):List (Nat×Nat)->Bool
 | []=>true
 | (_,i)::r=>ji8 h i&&jiw h r
theorem qjo:∀{ix:List (Nat×Nat)}{a b:Nat},qt5 ix a b=true->∀k i,(k,i)∈ix->k≠a/\i≠b
 | [],_,_,_,k,i,h=>by simp at h
 | (x,y)::r,a,b,h,k,i,hm=>by
  simp only[qt5,xo,zr] at h;rcases xj.1 hm with e|hm
  .simp only[Prod.mk.injEq] at e;obtain⟨rfl,rfl⟩:=e;exact⟨λe=>by subst e;simp at h,λe=>by subst e;simp at h⟩
  .exact qjo h.2 k i hm
theorem qe8:∀{ix:List (Nat×Nat)},jkv ix=true->∀k i k' i',(k,i)∈ix->(k',i')∈ix->((k=k'\/i=i')->k=k'/\i=i')
 | [],_,k,i,k',i',h,_,_=>by simp at h
 | (x,y)::r,hn,k,i,k',i',h,h',he=>by
  simp only[jkv,xo] at hn;rcases xj.1 h with e|hm<;>rcases xj.1 h' with e'|hm'
  .simp only[Prod.mk.injEq] at e e';omega
  .simp only[Prod.mk.injEq] at e;have:=qjo hn.1 k' i' hm';omega
  .simp only[Prod.mk.injEq] at e';have:=qjo hn.1 k i hm;omega
  .exact qe8 hn.2 k i k' i' hm hm' he
theorem qr8:∀{ix:List (Nat×Nat)}{i k:Nat},ixI ix i=some k->(k,i)∈ix
 | [],_,_,h=>by cases h
 | (a,b)::r,i,k,h=>by
  simp only[ixI] at h;cases e:Nat.beq b i with
  | true=>
   exact Q4G
  | false=>rw[e] at h;exact yE _ (qr8 h)
theorem q5v:∀{ix:List (Nat×Nat)}{i k:Nat},jkv ix=true->(k,i)∈ix->ixI ix i=some k
 | [],_,_,_,h=>by simp at h
 | (a,b)::r,i,k,hn,h=>by
  simp only[ixI];cases e:Nat.beq b i with
  | true=>
   have e:=xN e;subst e;have:=(qe8 hn a b k b Qa2 h (.inr rfl)).1;rw[this]
  | false=>
   simp only[jkv,xo] at hn;rcases xj.1 h with e'|hm
   .simp only[Prod.mk.injEq] at e';obtain⟨rfl,rfl⟩:=e';rw[Nat.beq_refl] at e;cases e
   .exact q5v hn.2 hm
theorem qmt{ix:List (Nat×Nat)}:∀{n:Nat},qqk ix n=true->∀i,i<n->ixI ix i=some i
 | 0,_,i,h=>absurd h Q9R
 | n+1,hb,i,h=>by
  simp only[qqk,xo] at hb;rcases xP i n with h1|h1
  .exact qmt hb.2 i h1
  .obtain rfl:i=n:=by omega
   cases e:ixI ix i with
   | none=>rw[e] at hb;simp at hb
   | some k=>rw[e] at hb;simp only at hb;rw[xN hb.1]
theorem qla{h:Hp}:∀{ix:List (Nat×Nat)},jiw h ix=true->∀k i,(k,i)∈ix->Fil h i
 | [],_,k,i,hm=>by simp at hm
 | (a,b)::r,hb,k,i,hm=>by
  simp only[jiw,xo] at hb;rcases xj.1 hm with e|hm
  .simp only[Prod.mk.injEq] at e;obtain⟨rfl,rfl⟩:=e;exact filB_iff.1 hb.1
  .exact qla hb.2 k i hm
class XLe (c' c:Chunk):Prop where
 le:c'.x=Ext.none\/c'.x=c.x
instance XLe.none{o:Bool}{n:Nat}{ps:Pz}{c:Chunk}:XLe (@Chunk.mk Ext.none o n ps) c:=⟨.inl rfl⟩
instance XLe.refl(c:Chunk):XLe c c:=⟨.inr rfl⟩
structure ChunkReLe(ix:List (Nat×Nat))(c' c:Chunk):Prop where
 [x:XLe c' c]
 own:c'.own=true->c.own=true
 le:c'.n<=c.n
 re:∀j,j<c'.n->Re1 ix (c'.f j) (c.f j)
variable{ix:List (Nat×Nat)}
theorem ChunkReLe.same{o:Bool}{n:Nat}{ps:Pz}(hp:∀j,j<n->qbh (qa9 ps j)=true):ChunkReLe ix ⟨o,n,ps⟩ ⟨o,n,ps⟩:=⟨id,nlr _,λj hj=>.plain (hp j hj)⟩
def jma(ix:List (Nat×Nat)):List (Option Value)->List (Option Value)->Prop->Prop
 | [],[],A=>A
 | _::a,none::b,A=>jma ix a b A
 | some u::a,some v::b,A=>N (Obl (Re ix v u) (jma ix a b A))
 | _,_,_=>False
def jmb(ix:List (Nat×Nat))(h:Hp):Hp->Nat->Prop->Prop
 | [],_,A=>A
 | none::b,i,A=>jmb ix h b (i+1) A
 | some c'::b,i,A=>match ixI ix i with
  | some k=>jha h k λc=>N (Obl (ChunkReLe ix c' c) (jmb ix h b (i+1) A))
  | none=>False
def jmc(n0:Nat)(ix:List (Nat×Nat))(st s:St)(A:Prop):Prop:=
 match st,s with
 | ⟨t,h⟩,⟨t',h'⟩=>match jkv ix&&qqk ix n0&&jiw h' ix with
  | true=>jma ix t t' (jmb ix h h' 0 A)
  | false=>False
theorem qny{ix:List (Nat×Nat)}:∀{t t':List (Option Value)}{A:Prop},jma ix t t' A->t'.length=t.length/\(∀(i:Nat)(v:Value),t'[i]?=some (some v)->∃u,t[i]?=some (some u)/\Re ix v u)/\A
 | [],[],A,h=>⟨rfl,λi v hi=>by simp at hi,h⟩
 | x::a,none::b,A,h=>by
  have h:jma ix a b A:=by cases x<;>exact h
  obtain⟨h1,h2,h3⟩:=qny h;refine⟨by simp[h1],λi v hi=>?_,h3⟩;cases i with
  | zero=>simp at hi
  | succ i=>simpa using h2 i v Qa4
 | some u::a,some v::b,A,h=>by
  obtain⟨e,h⟩:=N.out h;obtain⟨h1,h2,h3⟩:=qny h;refine⟨by simp[h1],λi w hi=>?_,h3⟩;cases i with
  | zero=>simp at hi;subst hi;exact⟨u,rfl,e⟩
  | succ i=>simpa using h2 i w Qa4
 | none::a,some v::b,A,h=>h.elim
 | [],_::_,A,h=>h.elim
 | _::_,[],A,h=>by cases ‹Option Value›<;>exact h.elim
theorem qnz{ix:List (Nat×Nat)}{h:Hp}:∀{b:Hp}{i0:Nat}{A:Prop},jmb ix h b i0 A->(∀(i:Nat)(c':Chunk),b[i]?=some (some c')->∃k c,ixI ix (i0+i)=some k/\h[k]?=some (some c)/\ChunkReLe ix c' c)/\A
 | [],i0,A,hh=>⟨λi c' hi=>by simp at hi,hh⟩
 | none::b,i0,A,hh=>by
  obtain⟨h1,h2⟩:=qnz (b:=b) hh;refine⟨λi c' hi=>?_,h2⟩;cases i with
  | zero=>simp at hi
  | succ i=>have:=h1 i c' Qa4;rwa[show i0+1+i=i0+(i+1) by omega] at this
 | some c0::b,i0,A,hh=>by
  simp only[jmb] at hh;split at hh
  .rename_i k hk;obtain⟨c,hc,hh⟩:=qb2 hh;obtain⟨e,hh⟩:=N.out hh;obtain⟨h1,h2⟩:=qnz (b:=b) hh;refine⟨λi c' hi=>?_,h2⟩;cases i with
   | zero=>simp at hi;subst hi;exact⟨k,c,hk,hc,e⟩
   | succ i=>have:=h1 i c' Qa4;rwa[show i0+1+i=i0+(i+1) by omega] at this
  .exact hh.elim
theorem qyh{n0:Nat}{st s:St}{A:Prop}(hh:jmc n0 ix st s A):Wkg n0 st s/\A:=by
 obtain⟨t,h⟩:=st;obtain⟨t',h'⟩:=s;simp only[jmc] at hh;cases hb:jkv ix&&qqk ix n0&&jiw h' ix with
 | false=>rw[hb] at hh;exact hh.elim
 | true=>
  rw[hb] at hh;simp only[xo] at hb;obtain⟨a1,a2,hh⟩:=qny hh;obtain⟨b1,hA⟩:=qnz hh;refine⟨λX ρ a w hn R=>?_,hA⟩;subst hn;let ρ':Nat->Nat×Nat:=λi=>match ixI ix i with
   | some k=>ρ k
   | none=>ρ i
  have hρ:∀k i,(k,i)∈ix->ρ' i=ρ k:=λk i hm=>by
   show(match ixI ix i with|some k=>ρ k|none=>ρ i)=ρ k;rw[q5v hb.1.1 hm]
  have hr:∀r,AgreeOn (Fil h') ρ' r->∀k i,(k,i)∈ix->r i=ρ k:=λr hrr k i hm=>(hrr i (qla hb.2 k i hm)).trans (hρ k i hm)
  have hat:∀i c',h'[i]?=some (some c')->∃k c,(k,i)∈ix/\h[k]?=some (some c)/\ChunkReLe ix c' c:=λi c' hi=>by
   obtain⟨k,c,h1,h2,h3⟩:=b1 i c' hi;rw[xq] at h1;exact⟨k,c,qr8 h1,h2,h3⟩
  refine⟨ρ',R.defers,R.size.trans a1.symm,λi v hi=>?_,R.heap.evo,λi hi=>?_,λi c' hi=>?_,λi c' hi j hj=>?_,λi c' hi ho j hj=>?_,λi c' j d' hi ho hj hne=>?_,?_⟩
  .obtain⟨u,hu,hre⟩:=a2 i v hi;obtain⟨x,hx,hd⟩:=R.slot i u hu;exact⟨x,hx,λr hrr=>(hre.den (hr r hrr)).trans hd.self⟩
  .have hm:=qr8 (qmt hb.1.2 i hi);exact⟨qla hb.2 i i hm,(hρ i i hm).trans (R.heap.base i hi).2⟩
  .obtain⟨k,c,hm,hc,_⟩:=hat i c' hi;rw[hρ k i hm];exact R.heap.lt k c hc
  .obtain⟨k,c,hm,hc,L⟩:=hat i c' hi;obtain⟨x,hx,hd⟩:=R.heap.cell k c hc j (xl hj L.le);rw[hρ k i hm];exact⟨x,hx,λr hrr=>((L.re j hj).den (hr r hrr)).trans hd.self⟩
  .obtain⟨k,c,hm,hc,L⟩:=hat i c' hi;rw[hρ k i hm];exact R.heap.own k c hc (L.own ho) j (xl hj L.le)
  .obtain⟨k,c,hm,hc,L⟩:=hat i c' hi;obtain⟨l,d,hm',hd,_⟩:=hat j d' hj;rw[hρ k i hm,hρ l j hm'];exact R.heap.sep k c l d hc (L.own ho) hd λe=>hne (qe8 hb.1.1 k i l j hm hm' (.inl e)).2
  .obtain⟨S,E⟩:=R.heap.ext;refine⟨λi b=>∃k c',(k,i)∈ix/\h'[i]?=some (some c')/\c'.x≠Ext.none/\S k b,λi c' hi=>?_,λi c' b hi hS=>?_,λi c' b j d' hi hS hj hne=>?_⟩
   .obtain⟨k,c,hm,hc,L⟩:=hat i c' hi;by_cases en:c'.x=Ext.none
    .rw[en];rintro b ⟨_,c'',_,hi',h1,_⟩;rw[hi] at hi';obtain rfl:c'=c'':=by simpa using hi'
     exact h1 en
    .have:(λb=>∃k c',(k,i)∈ix/\h'[i]?=some (some c')/\c'.x≠Ext.none/\S k b)=S k:=by
      funext b;refine propext ⟨?_,λhb=>⟨k,c',hm,hi,en,hb⟩⟩;rintro⟨k',_,hm',_,_,hb'⟩;rw[(qe8 hb.1.1 k i k' i hm hm' (.inr rfl)).1];exact hb'
     rw[this,hρ k i hm];rcases L.x.le with e|e
     .exact absurd e en
     .rw[e];exact E.inv k c hc
   .obtain⟨k,c,hm,hc,L⟩:=hat i c' hi;obtain⟨k',_,hm',_,_,hb'⟩:=hS;rw[<-(qe8 hb.1.1 k i k' i hm hm' (.inr rfl)).1] at hb';obtain⟨h1,h2,h3⟩:=E.mine k c b hc hb';have:=L.le;exact⟨by rw[hρ k i hm];omega,h2,h3⟩
   .obtain⟨k,c,hm,hc,L⟩:=hat i c' hi;obtain⟨k',_,hm',_,_,hb'⟩:=hS;rw[<-(qe8 hb.1.1 k i k' i hm hm' (.inr rfl)).1] at hb';obtain⟨l,d,hml,hd,_⟩:=hat j d' hj;obtain⟨a1,a2⟩:=E.apart k c b l d hc hb' hd λe=>hne (qe8 hb.1.1 l j k i hml hm (.inl e)).2
    refine⟨by rw[hρ l j hml];exact a1,?_⟩;rintro⟨l',_,hml',_,_,hbl⟩;rw[<-(qe8 hb.1.1 l j l' j hml hml' (.inr rfl)).1] at hbl;exact a2 hbl
def jkw{α:Type}(p:α->Prop)(K:List (Nat×Nat)->α->Prop):Prop:=∃y ix,p y/\K ix y
theorem Bm{α:Type}{p:α->Prop}{K:List (Nat×Nat)->α->Prop}(y:α)(ix:List (Nat×Nat))(hp:p y)(k:K ix y):N (jkw p K):=N.mk ⟨y,ix,hp,k⟩
section
variable{P:Program}{G:Tys}
theorem qmu:∀{n:Nat}{K:Hp->Prop},qts n K↔K (List.replicate n none)
 | 0,K=>Iff.rfl
 | n+1,K=>qmu (n:=n) (K:=λr=>K (none::r))
theorem appK_iff:∀{h:Hp}{n:Nat}{K:Hp->Prop},jkc h n K↔K (h++List.replicate n none)
 | [],n,K=>qmu
 | x::r,n,K=>appK_iff (h:=r) (n:=n) (K:=λr'=>K (x::r'))
theorem Bq{n0:Nat}{c:Code}{A:(Exit->St->Prop)->St->Prop}{Q:Exit->St->Prop}{t:List (Option Value)}{h:Hp}{α:Type}(inv:α->Prop)(μ:α->Nat)(sets:α->Vz)(hs:α->Mz)(x0:α)(ix0:List (Nat×Nat))(h0:inv x0)
  (hw:updK (maskC c) (sets x0) t 0 λt'=>jkc h 3 λhp=>jhb hp (hs x0) λh'=>jmc n0 ix0 ⟨t,h⟩ ⟨t',h'⟩ (N True))
  (hr:∀x,inv x->updK (maskC c) (sets x) t 0 λt'=>jkc h 3 λhp=>jhb hp (hs x) λh'=>A (thenQ (λs=>N (jkw (λy=>inv y/\μ y<μ x) λix y=>updK (maskC c) (sets y) t 0 λt''=>jkc h 3 λhp=>jhb hp (hs y) λh''=>jmc n0 ix s ⟨t'',h''⟩ (N True))) Q) ⟨t',h'⟩):N (jh6 P G n0 c A Q ⟨t,h⟩):=by
 refine N.mk ⟨α,λx=>⟨jlt (maskC c) (sets x) t 0,modH (h++List.replicate 3 none) (hs x)⟩,inv,μ,λx s=>N (jkw (λy=>inv y/\μ y<μ x) λix y=>updK (maskC c) (sets y) t 0 λt''=>jkc h 3 λhp=>jhb hp (hs y) λh''=>jmc n0 ix s ⟨t'',h''⟩ (N True)),λx s hq=>?_,⟨x0,h0,(qyh (setM_iff.1 (appK_iff.1 (updK_iff.1 hw)))).1⟩,λx hx=>setM_iff.1 (appK_iff.1 (updK_iff.1 (hr x hx)))⟩
 obtain⟨y,ix,⟨hy,hlt⟩,hk⟩:=N.out hq
 exact⟨y,hy,(qyh (setM_iff.1 (appK_iff.1 (updK_iff.1 hk)))).1,hlt⟩
end
end Go.Proofs.YtfkngpmgcimdbaaGreat.Sx


namespace Go.Proofs.YtfkngpmgcimdbaaGreat
open Go.ChangeShapes Go.WideShapes Go.ChangeAt Go.RowKit
theorem q7k{k:IntKind}{a b:Int}(h:a=b):Ending.returned (.int k a)=.returned (.int k b):=by rw[h]
theorem qql(a:Addr)(n:Nat):(a.add n).block=a.block:=by unfold Addr.add;split<;>rfl
theorem qyi(a:Addr)(i j:Nat):(a.add i).add j=a.add (i+j):=by
 unfold Addr.add;by_cases hi:i=0
 .by_cases hj:j=0<;>simp[hi,hj]
 .by_cases hj:j=0
  .simp[hi,hj]
  .simp[hi,hj,ye]
theorem qr9(b i:Nat):(⟨b,0,none⟩:Addr).add i=⟨b,i,none⟩:=by
 unfold Addr.add;split
 .subst i;rfl
 .simp
def Seg(w:World)(B:Nat)(A:Option Addr)(m:Nat)(f:Nat->Value):Prop:=
 0<m->∃x,A=some x/\x.block<B/\∀j,j<m->w.cell? (x.add j)=some (f j)
section
variable{w w':World}{B B' m:Nat}{A:Option Addr}{f:Nat->Value}
theorem Seg.zero:Seg w B A 0 f:=λh=>absurd h Q9R
theorem Seg.keep(h:Seg w B A m f)(hk:∀p:Addr,p.block<B->w'.cell? p=w.cell? p):Seg w' B A m f:=λhm=>by
 obtain⟨x,e,hb,hc⟩:=h hm;exact⟨x,e,hb,λj hj=>(hk _ (by rw[qql];exact hb)).trans (hc j hj)⟩
theorem Seg.below(h:Seg w B A m f)(hb:Below B w w'):Seg w' B A m f:=h.keep λ_ hp=>hb.cell hp
theorem Seg.more(h:Seg w B A m f)(hB:B<=B'):Seg w B' A m f:=λhm=>by
 obtain⟨x,e,hb,hc⟩:=h hm;exact⟨x,e,by omega,hc⟩
theorem Seg.same{g:Nat->Value}(h:Seg w B A m f)(e:∀j,j<m->f j=g j):Seg w B A m g:=λhm=>by
 obtain⟨x,ex,hb,hc⟩:=h hm;exact⟨x,ex,hb,λj hj=>by rw[hc j hj,e j hj]⟩
theorem Seg.less{n:Nat}(h:Seg w B A m f)(e:n<=m):Seg w B A n f:=λhm=>by
 obtain⟨x,ex,hb,hc⟩:=h Q9R;exact⟨x,ex,hb,λj hj=>hc j Q9R⟩
theorem Seg.alloc(h:Seg w B A m f)(hB:B<=w.heap.size)(o:Obj):Seg (w.alloc o) B A m f:=h.below ((Below.refl _ _).alloc hB o)
theorem Seg.drew(h:Seg w B A m f):Seg w.drew B A m f:=h
end
theorem Seg.new(w:World)(ty:TypeId)(vs:Array Value)(b:Nat)(hb:b=w.heap.size)(f:Nat->Value)(hf:∀j,j<vs.size->vs[j]?=some (f j)):
  Seg (w.alloc (.cells vs ty)) (w.heap.size+1) (some ⟨b,0,none⟩) vs.size f:=λ_=>
 ⟨_,rfl,by simp[hb],λj hj=>by rw[qr9,World.cell?_alloc_at _ _ _ _ hb];exact hf j hj⟩
section
variable{H:Type}{enc:TypeId×Value->H}{P:Program}
theorem qj0(hl:laidOutB P=true){W W':World}(bel:Below W.heap.size W W'):∀(ts:List TypeId)(vs:List Value)(ds:List (DataW H))(p:List MemPlace),
  (∀t∈ts,P.readableRec t=true/\t<P.types.size)->DataW.TrodAll enc P W 0 (λ_=>true) true ts vs ds p->DataW.TrodAll enc P W' 0 (λb=>decide (b<W.heap.size)) true ts vs ds p
 | [],vs,ds,p,_,h=>by
  obtain⟨rfl,rfl,rfl⟩:=trodAll_nil h;exact trodAll_mk0
 | t::ts,vs,ds,p,ht,h=>by
  obtain⟨v,vs,d,ds,p,q,rfl,rfl,rfl,h0,hr⟩:=trodAll_cons h;have lt:∀x∈p,x.block<W.heap.size:=by obtain⟨m,hm⟩:=h0;exact DataW.trod_lt m _ _ _ hm
  exact trodAll_cons_mk (Below.trod hl (ht t Qa2).1 (ht t Qa2).2 h0 bel lt) (qj0 hl bel ts vs ds q (λx hx=>ht x Qb3) hr)
theorem qlb:∀(ts:List TypeId)(vs:List Value)(ds:List (DataW H))(p:List MemPlace){w:World}{base:Nat}{sp:Nat->Bool}{hd:Bool},DataW.TrodAll enc P w base sp hd ts vs ds p->ds.length=ts.length
 | [],vs,ds,p,_,_,_,_,h=>by
  obtain⟨rfl,rfl,rfl⟩:=trodAll_nil h;rfl
 | t::ts,vs,ds,p,_,_,_,_,h=>by
  obtain⟨v,vs,d,ds,p,q,rfl,rfl,rfl,h0,hr⟩:=trodAll_cons h;simp[qlb ts vs ds q hr]
end
theorem qv0{H:Type}{enc:TypeId×Value->H}{C:Checked}{os:Os}{f:FuncId}{fn:Func}{s:ChangeSpec}{tb:TypeId}
  (own:ownKnob C.prog.godebug=none) (started:os.Started) (noInit:C.prog.inits.idxOf? f=none) (hfn:C.prog.funcs[f]?=some fn)
  (hl:laidOutB C.prog=true) (hr:fn.params.toList.all (λt=>C.prog.readableRec t&&decide (t<C.prog.types.size))=true)
  (hres:fn.resultTypes = #[tb]) (hb:C.prog.underlying tb=some .bool) (hvars:s.vars=[])
  (hspec:∀ds:List (DataW H),ds.length=fn.params.toList.length->s.fn H ds={ results:=[.lit (.bool true)],args:=ds })
  (witness:∃(w:World)(tape:Tape)(i:Input),w.os=os/\(w.forCall tape i).Shaped C.prog/\i.vars=[]/\Input.okWide C.prog (w.forCall tape i) .any w.heap.size f i/\
   s.pre6 enc C.prog fn [] false (w.forCall tape i).memory i.args/\({}:Assume).holds C.prog (lone (Frame.enter C.prog f i.args .normal) [] (w.forCall tape i)))
  (walk:∀(W:World)(base:Nat)(args:Array Value)(ds:List (DataW H))(p:List MemPlace),
   (∀(j:Nat) t v,fn.params[j]?=some t->args[j]?=some v->Value.okWide C.prog W .any base t v)->
   DataW.TrodAll enc C.prog W 0 (λ_=>true) true fn.params.toList args.toList ds p->
   (DataW.weightsEach C.prog fn.params.toList ds).all (·<=reachBytes)=true->
   Calls C.prog f args W λe W'=>e=.returned (.bool true)/\Below W.heap.size W W') :
  ReturnsInHanded {} C os f .any (s.pre6 enc C.prog fn [] false) (s.post enc C.prog fn false true false false):=by
 refine returnsInHanded_of_change_sized (C:=C) own started noInit hfn witness ?_
 intro W base args ds gs before hval hW _ hsz _
 have hW':=hW
 obtain⟨p,q,hA,hV,rfl,hfz,hnd⟩:=hW
 rw[hvars] at hV
 obtain⟨rfl,rfl⟩:=trodVars_none hV
 have hvt:s.plain.varTypes C.prog=[]:=by simp[ChangeSpec.plain,DataSpec.varTypes,hvars]
 rw[hvt] at hsz
 simp only[zv] at hsz
 refine(walk W base args ds p hval hA hsz).mono λe W' ⟨he,bel⟩=>?_
 subst he
 have hlen:ds.length=fn.params.toList.length:=qlb _ _ _ _ hA
 have hs:=hspec ds hlen
 refine⟨_,rfl,ds,[],p++[],[],p,[],hW',?_,?_,?_,bel.frame _,λh=>by cases h⟩
 .rw[zv,hs,hres];exact trodAll_mk1 (shut_bool hb _)
 .rw[zv,hs];refine qj0 hl bel _ _ _ _ (λt ht=>?_) hA;have:=xX.1 hr t ht;simpa using this
 .rw[zv,hs,hvars];simp[DataW.TrodVars]
def qmv(P:Program):Nat->TypeId->Nat->Option TypeId
 | 0,_,_=>none
 | d+1,t,j=>
  match P.underlying t with
  | some (.struct fs)=>(fs.toList.find? λf=>decide (f.offset<=j)&&decide (j<f.offset+P.cellsOf f.type)).bind λf=>qmv P d f.type (j-f.offset)
  | some (.array n e)=>if j<n*P.cellsOf e then qmv P d e (j%P.cellsOf e) else none
  | _=>if j=0 then some t else none
section
variable{H:Type}{enc:TypeId×Value->H}{P:Program}{w:World}{base:Nat}{spare:Nat->Bool}{held:Bool}
theorem qiq:∀(d:Nat)(t:TypeId)(j:Nat)(l:TypeId)(fuel:Nat)(cs:List Value)(x:DataW H×List MemPlace),qmv P d t j=some l->j<cs.length->DataW.trod enc P w base spare held fuel t cs=some x->
  ∃(v:Value)(y:DataW H×List MemPlace)(n:Nat),cs[j]?=some v/\DataW.trod enc P w base spare held n l [v]=some y
 | 0,_,_,_,_,_,_,h,_,_=>by simp[qmv] at h
 | d+1,t,j,l,fuel,cs,x,h,hj,ht=>by
  unfold qmv at h;split at h
  .rename_i fs hu;obtain⟨f,hf,hl⟩:=Option.bind_eq_some_iff.1 h;obtain⟨xs,n,hn,hx,hlen,hxl,hg⟩:=DataW.trod_struct hu ht;have hp:=List.find?_some hf;simp only[xo,xh] at hp;obtain⟨i,hi,hie⟩:=y8 (List.mem_of_find?_eq_some hf);have hfi:fs[i]?=some f:=by simp at hi;rw[za hi];simpa using hie
   have hgi:=hg i f hfi;have hxi:i<xs.length:=by rw[hxl];simpa using hi
   rw[xt hxi] at hgi;obtain⟨v,y,n',hv,hy⟩:=qiq d f.type (j-f.offset) l n _ _ hl Qah hgi;refine⟨v,y,n',?_,hy⟩;rw[yL,List.getElem?_drop] at hv;split at hv
   .rwa[show f.offset+(j-f.offset)=j by omega] at hv
   .cases hv
  .rename_i n e hu;split at h
   .rename_i hjn;obtain⟨xs,n',hn,hx,hlen,hxl,hg⟩:=DataW.trod_array hu ht;have hc:0<P.cellsOf e:=by
     rcases xU (P.cellsOf e) with h0|h0
     .rw[h0] at hjn;omega
     .exact h0
    have hq:j / P.cellsOf e<n:=(xV hc).2 hjn;have hgi:=hg (j / P.cellsOf e) hq;rw[xt Q9R] at hgi;have hm:=xr j hc;have hd:=xz j (P.cellsOf e);have hd':j / P.cellsOf e*P.cellsOf e+j%P.cellsOf e=j:=by rw[xk];exact hd
    obtain⟨v,y,n'',hv,hy⟩:=qiq d e (j%P.cellsOf e) l n' _ _ h Qah hgi;refine⟨v,y,n'',?_,hy⟩;rw[yL,if_pos hm,List.getElem?_drop,hd'] at hv;exact hv
   .cases h
  .split at h
   .rename_i hj0;subst hj0;obtain rfl:t=l:=by simpa using h
    match cs,hj with
    | [v],_=>exact⟨v,x,fuel,rfl,ht⟩
    | v::v'::r,_=>
     exfalso;cases fuel with
     | zero=>simp[DataW.trod] at ht
     | succ n=>
      unfold DataW.trod at ht;split at ht<;>simp_all
   .cases h
end
section
variable{H:Type}{enc:TypeId×Value->H}{P:Program}{w:World}
theorem qyj{t e:TypeId}{C:Nat}{v:Value}{d:DataW H}{p:List MemPlace}(ht:P.underlying t=some (.slice e))(hC:P.cellsOf e=C)(h:DataW.Trod enc P w 0 (λ_=>true) true t v d p)(hsh:∃A len cap,v=.slice A len cap):
  ∃(A:Option Addr)(len cap:Nat)(f:Nat->Value),v=.slice A len cap/\len<=cap/\cap<=maxLen/\((len=0/\d=.nil)\/∃el sp,d=.slice el sp/\el.length=len)/\Seg w w.heap.size A (len*C) f/\
   ∀i,i<len->∃(x:DataW H×List MemPlace)(n:Nat)(cs:List Value),DataW.trod enc P w 0 (λ_=>true) true n e cs=some x/\cs.length=C/\∀j,j<C->cs[j]?=some (f (i*C+j)):=by
 obtain⟨A,len,cap,rfl⟩:=hsh
 obtain⟨fuel,hf⟩:=h
 rcases Deep.open_slice ht hf with ⟨hcs,hx⟩|⟨a,len',cap',m,n,D,Pl,hcs,hb,hl,hm,hmm,hx,hi⟩
 .simp[Value.cells] at hcs;obtain⟨rfl,rfl,rfl⟩:=hcs;simp only[Prod.mk.injEq] at hx;exact⟨none,0,0,λ_=>undef,rfl,nlr _,by simp,.inl ⟨rfl,hx.1⟩,by rw[yG];exact Seg.zero,λi hi=>absurd hi Q9R⟩
 .simp[Value.cells] at hcs;obtain⟨rfl,rfl,rfl⟩:=hcs;simp only[Prod.mk.injEq] at hx;have hmc:m=cap:=by simpa using hmm
  subst hmc;rw[hC] at hi;have hrow:∀i,i<len->∃cs',(cs'.length=C/\∀j,j<C->w.cell? ((a.add (i*C)).add j)=cs'[j]?)/\DataW.trod enc P w 0 (λ_=>true) true n e cs'=some (D i,Pl i):=λi hil=>by
   obtain⟨cs',hc,ht'⟩:=hi i Q9R;obtain⟨_,hcl,hat⟩:=World.cells?_some hc;exact⟨cs',⟨hcl,hat⟩,ht'⟩
  refine⟨some a,len,m,λj=>(w.cell? (a.add j)).getD undef,rfl,hl,hm,.inr ⟨_,_,hx.1,by simp⟩,?_,?_⟩
  .intro hpos;have hcell:∀j,j<len*C->w.cell? (a.add j)=some ((w.cell? (a.add j)).getD undef):=by
    intro j hj;have hC0:0<C:=by
     rcases xU C with h0|h0
     .rw[h0] at hj;omega
     .exact h0
    obtain⟨cs',⟨hcl,hat⟩,_⟩:=hrow (j / C) ((xV hC0).2 hj);have hr:=xr j hC0;have hd:=xz j C;have:=hat (j%C) hr;rw[qyi,show j / C*C+j%C=j by rw[xk];exact hd,xt Q9R] at this;rw[this];rfl
   refine⟨a,rfl,?_,hcell⟩;have:=World.block_lt_of_cell? _ _ (hcell 0 hpos);rwa[qql] at this
  .intro i hil;obtain⟨cs',⟨hcl,hat⟩,ht'⟩:=hrow i hil;refine⟨_,n,cs',ht',hcl,λj hj=>?_⟩;have:=hat j hj;rw[qyi,xt Q9R] at this;show cs'[j]?=some ((w.cell? (a.add (i*C+j))).getD undef);rw[this,xt Q9R];rfl
end
theorem qsa{P:Program}{W:World}{r:Reach}{base:Nat}{t e:TypeId}{v:Value}(ht:P.underlying t=some (.slice e))(hv:Value.okWide P W r base t v):∃A len cap,v=.slice A len cap:=okWide_slice ht hv
section
variable{H:Type}{enc:TypeId×Value->H}{P:Program}{w:World}{base:Nat}{spare:Nat->Bool}{held:Bool}
theorem qbe{d:Nat}{t:TypeId}{j:Nat}{l:TypeId}{fuel:Nat}{cs:List Value}{x:DataW H×List MemPlace}{k:IntKind}{u:Value}(hl:qmv P d t j=some l)(hu:P.underlying l=some (.int k))(hj:cs[j]?=some u)
  (h:DataW.trod enc P w base spare held fuel t cs=some x):u=.int k (intOf u)/\(Lit.int k (intOf u)).wf=true:=by
 have hjl:j<cs.length:=(xe.1 hj).1
 obtain⟨v,y,n,hv,hy⟩:=qiq d t j l fuel cs x hl hjl h
 rw[hj] at hv
 obtain rfl:=Option.some.inj hv
 obtain⟨z,hz,_,hw⟩:=DataW.trod_int hu hy
 obtain rfl:u=.int k z:=by simpa using hz
 exact⟨rfl,hw⟩
end
variable{w:World}
theorem qlc{a:Addr}{o:Obj}{v:Value}(h:w.cell? a=some v):(w.alloc o).cell? a=some v:=by
 rw[World.cell?_alloc_lt w o a (World.block_lt_of_cell? _ _ h)];exact h
theorem qme{a:Addr}{v:Value}(h:w.cell? a=some v):w.drew.cell? a=some v:=h
theorem qn0{a b:Addr}{u v:Value}(h:w.cell? a=some v)(hne:b≠a):(w.setCell b u).cell? a=some v:=by
 rw[World.cell?_setCell_other w b a u hne];exact h
theorem qn1{b:Addr}{u v:Value}(h:w.cell? b=some v):(w.setCell b u).cell? b=some u:=World.cell?_setCell_same w b u h
theorem qf0{B:Nat}{a:World}(h:Below B a w)(n:Nat):Below B a (w.drewN n):=⟨h.os,h.tape,h.output,h.size,h.block⟩
end Go.Proofs.YtfkngpmgcimdbaaGreat


namespace Go.Proofs.YtfkngpmgcimdbaaGreat.Sx
open Go Go.RowKit
theorem qa6{o:Bool}{n:Nat}{f:Nat->Value}{j:Nat}(h:j<n):(⟨o,n,[(0,n,.agg ⟨segL n f⟩)]⟩:Chunk).f j=f j:=by
 refine Q3R ?_;exact qhc h
theorem qmw{o:Bool}{m p:Nat}{f:Nat->Value}{v:Value}(hp:p<m)(h1:v.oneCell'=true)(hv:f p=v):Reads ⟨o,m,[(0,m,.agg ⟨segL m f⟩)]⟩ p false 1 v:=
 ⟨hp,h1,by rw[qa6 hp];exact hv⟩
def lit1(v:Value):Bool:=
 match v with
 | .int _ _ | .bool _ | .string _ | .float _ _ | .complex _ _ _ | .nilFunc | .nilIface=>true
 | .pointer none | .slice none _ _=>true
 | _=>false
theorem qv1{v:Value}(h:lit1 v=true):qbh v=true:=by
 cases v with
 | pointer a=>cases a<;>first | rfl | (simp[lit1] at h)
 | slice a l c=>cases a<;>first | rfl | (simp[lit1] at h)
 | _=>first | rfl | (simp[lit1] at h)
theorem qqm{h:Hp}{v:Value}(hv:lit1 v=true):Safe1 h v:=by
 cases v with
 | pointer a=>cases a<;>first | trivial | (simp[lit1] at hv)
 | slice a l c=>cases a<;>first | trivial | (simp[lit1] at hv)
 | _=>first | trivial | (simp[lit1] at hv)
variable{l:List Value}
theorem qhh{h:Hp}(hl:l.all lit1=true):Safe h (.agg ⟨l⟩):=λx hx=>qqm (xX.1 hl x hx)
theorem qhi{h:Hp}{o:Bool}{n:Nat}(hn:l.length=n)(hl:l.all lit1=true):∀j,j<(⟨o,n,[(0,n,.agg ⟨l⟩)]⟩:Chunk).n->Safe1 h ((⟨o,n,[(0,n,.agg ⟨l⟩)]⟩:Chunk).f j):=λj hj=>by
 have hj:j<n:=hj;show Safe1 h (qa9 _ _);refine Q5i ?_;exact qqm (xX.1 hl _ (zA _))
structure jqi where
 a:Addr
 n:Nat
 f:Nat->Value
def SeenIn(w:World)(s:jqi):Prop:=s.a.spot=none/\s.a.block<w.heap.size/\∀j,j<s.n->w.cell? (s.a.add j)=some (s.f j)/\qbh (s.f j)=true
theorem SeenIn.of{w:World}{A:Option Addr}{m:Nat}{f:Nat->Value}(h:Seg w w.heap.size A m f)(hm:0<m)(hp:∀j,j<m->qbh (f j)=true):∃a,A=some a/\SeenIn w ⟨a,m,f⟩:=by
 obtain⟨a,rfl,hb,hc⟩:=h hm;refine⟨a,rfl,?_,hb,λj hj=>⟨hc j hj,hp j hj⟩⟩;have:=hc 0 hm;cases e:a.spot with
 | none=>rfl
 | some s=>
  exfalso;have e0:a.add 0=a:=rfl;rw[e0] at this;unfold World.cell? at this;rw[e] at this;simp at this;split at this<;>simp at this
variable{P:Program}{base:Nat}
theorem qld{W:World}{r:Reach}{t e:TypeId}{a:Addr}{len cap:Nat}(ht:P.underlying t=some (.slice e))(hv:Value.okWide P W r base t (.slice (some a) len cap)):a.spot=none/\a.block<W.heap.size/\len<=cap:=by
 simp only[Value.okWide,ht,Cell.okWide,Cell.ok,World.has] at hv;obtain⟨h1,h2,h3,h4,row,cells,h5,_⟩:=hv;refine⟨h4,?_,h1⟩;unfold World.shape? at h5;cases e:W.heap[a.block]? with
 | none=>rw[e] at h5;simp at h5
 | some o=>exact(xO.1 e).1
theorem qv2{W:World}{r:Reach}{t e:TypeId}{len cap:Nat}(ht:P.underlying t=some (.slice e))(hv:Value.okWide P W r base t (.slice none len cap)):len=0/\cap=0:=by
 simp only[Value.okWide,ht,Cell.okWide,Cell.ok] at hv;split at hv<;>simp_all
theorem SeenIn.some{w:World}{r:Reach}{t e:TypeId}{a:Addr}{len cap m:Nat}{f:Nat->Value}(ht:P.underlying t=Option.some (.slice e))(hv:Value.okWide P w r base t (.slice (Option.some a) len cap))
  (h:Seg w w.heap.size (Option.some a) m f) (hp:∀j,j<m->lit1 (f j)=true):SeenIn w ⟨a,m,f⟩:=by
 obtain⟨h1,h2,_⟩:=qld ht hv
 refine⟨h1,h2,λj hj=>⟨?_,qv1 (hp j hj)⟩⟩
 obtain⟨x,hx,_,hc⟩:=h (xQ (xi _) hj)
 obtain rfl:a=x:=by simpa using hx
 exact hc j hj
inductive ArgIs(sg:List jqi):Value->Value->Prop
 | plain {v:Value} (h:qap v=true):ArgIs sg v v
 | slice {k l c s0 n:Nat} {a:Addr} {f:Nat->Value} (h:sg[k]?=some ⟨a,n,f⟩):ArgIs sg (.slice (some ⟨k,0,some s0⟩) l c) (.slice (some a) l c)
section
variable{P:Program}{G:Tys}
end
end Go.Proofs.YtfkngpmgcimdbaaGreat.Sx


namespace Go.Proofs.YtfkngpmgcimdbaaGreat
open Go Go.RowKit Sx
def jf4(x:Ent):Nat->Value
 | 0=>.int .i64 x.node
 | 1=>.int .i64 x.boot
 | 2=>.int .i64 x.heard
 | 3=>.bool x.has
 | 4=>.int .i64 x.x
 | 5=>.int .i64 x.y
 | 6=>.int .i64 x.a
 | 7=>.int .i64 x.b
 | 8=>.int .i64 x.d
 | _=>.int .i64 x.when_
theorem qj1(x:Ent)(k:Nat):qbh (jf4 x k)=true:=by unfold jf4;split<;>rfl
theorem qle(x:Ent){k:Nat}(h:k<10):cellIn (entV x) k=jf4 x k:=Q4n
theorem qsb(j:Nat):jf0 10 (entV Ent.zero) j=jf4 (Ent.zero) (j%10):=by
 unfold jf0;have h:j%10<10:=xr _ Q9V;generalize j%10=k at h;exact Q4n
abbrev enC(o:Bool)(c:Nat)(T:Nat->Ent):Chunk:=⟨o,c*10,[(0,c*10,.agg ⟨segL (c*10) λj=>jf4 (T (j / 10)) (j%10)⟩)]⟩
variable{c j:Nat}{T:Nat->Ent}
theorem jkx{o:Bool}(h:j<c*10):(enC o c T).f j=jf4 (T (j / 10)) (j%10):=qa6 h
variable{ix:List (Nat×Nat)}
theorem qt6{o o':Bool}{T':Nat->Ent}(h:∀i,i<c->T i=T' i):qbg ix (enC o c T) (enC o' c T'):=λj hj=>by
 have hj:j<c*10:=hj;rw[qa6 hj,qa6 hj,h (j / 10) Q9R];exact .plain (qj1 _ _)
theorem qt7{T':Nat->Ent}{hp:Hp}{n:Nat}(h:∀i,i<c->T i=T' i)(hh:hp[n]?=some (some (enC true c T'))):PostC ix hp n (enC true c T):=⟨_,hh,id,nlr _,qt6 h⟩
theorem qfg{T':Nat->Ent}(h:∀i,i<c->T i=T' i):ChunkReLe ix (enC true c T) (enC true c T'):=⟨id,nlr _,qt6 h⟩
theorem jjp{o:Bool}{p n:Nat}(i:Nat)(hn:n=10)(h:i<c)(e:p=i*10):Reads (enC o c T) p true n (entV (T i)):=by
 subst e hn;refine⟨by show i*10+10<=c*10;omega,_,rfl,rfl,λj hj=>?_⟩;rw[qa6 Q9R,show(i*10+j) / 10=i by omega,show(i*10+j)%10=j by omega];exact(qle _ hj).symm
def seten(T:Nat->Ent)(l:Nat)(x:Ent)(i:Nat):Ent:=if i=l then x else T i
theorem jmd{l p:Nat}{x:Ent}(h:l<c)(e:p=l*10):Writes (enC true c T) p (1*10) (entV x) (enC true c (seten T l x)):=by
 subst e;refine⟨rfl,by show l*10+1*10<=c*10;omega,rfl,λj hj=>?_⟩;have hj:j<c*10:=hj;rw[qa6 hj,qa6 hj];unfold seten;by_cases e:l*10<=j/\j<l*10+1*10
 .rw[if_pos e,if_pos Q9R,qle _ Q9R];congr 1;omega
 .rw[if_neg e,if_neg Q9R]
def jgb(T:Nat->Ent)(l:Nat)(x:Ent)(i:Nat):Ent:=if i<l then T i else if i=l then x else Ent.zero
variable{ci:Chunk}
theorem q2p{l cap:Nat}{x:Ent}(h:l<cap)(hc:∀j,j<l*10->ci.f j=jf4 (T (j / 10)) (j%10))(hj:j<cap*10):(grown ci l 1 10 (entV x) (entV Ent.zero) cap).f j=jf4 (jgb T l x (j / 10)) (j%10):=by
 unfold jgb;by_cases h1:j<l*10
 .exact Q5F
 .rw[if_neg Q9R];by_cases h2:j<(l+1)*10
  .have:=qgh (ci:=ci) (l:=l) (m:=1) (size:=10) (cap:=cap) (v:=entV x) (z:=entV Ent.zero) (j:=j-l*10) Q9R;rw[show l*10+(j-l*10)=j by omega] at this;rw[this,if_pos Q9R,qle _ Q9R];congr 1;omega
  .rw[qfq Q9R hj,if_neg Q9R];exact qsb j
theorem qf1{l cap:Nat}{T':Nat->Ent}{x:Ent}(h:l<cap)(hc:∀j,j<l*10->ci.f j=jf4 (T (j / 10)) (j%10))(he:∀i,i<cap->T' i=jgb T l x i):ChunkReLe ix (enC true cap T') (grown ci l 1 10 (entV x) (entV Ent.zero) cap):=
 ⟨λ_=>rfl,by show cap*10<=cap*10;omega,λj hj=>by
  have hj:j<cap*10:=hj;rw[qa6 hj,q2p h hc hj,he _ Q9R];exact .plain (qj1 _ _)⟩
def entT(E:Ez)(i:Nat):Ent:=match (sortK E)[i]? with
 | some k=>(dGet E k).getD Ent.zero
 | none=>Ent.zero
variable{E:Ez}
theorem qlf{i:Nat}{k:Int}{e:Ent}(h:(sortK E)[i]?=some k)(he:dGet E k=some e):entT E i=e:=by
 unfold entT;rw[h];simp only[he];rfl
theorem qgm{i:Nat}(h:i<E.length):∃k,(sortK E)[i]?=some k/\∃e,(k,e)∈E:=by
 have hl:i<(sortK E).length:=by rw[qqj];exact h
 refine⟨(sortK E)[i],by simp[hl],?_⟩;have:(sortK E)[i]∈E.map (·.1):=(qvz E).mem_iff.1 (zA hl);obtain⟨q,hq,e⟩:=xx.1 this;exact⟨q.2,by rw[<-e];exact hq⟩
theorem qir{α:Type}{E:List (Int×α)}{k:Int}{e:α}(h:(k,e)∈E):∃e',dGet E k=some e':=by
 cases hg:dGet E k with
 | some e'=>exact⟨e',rfl⟩
 | none=>exact absurd rfl (dGet_none.1 hg _ h)
abbrev jgg(x:Ext)(o:Bool)(most:Int)(i j:Nat):Chunk:=@Chunk.mk x o 3 [(0,3,.agg ⟨[xc most,.map (some i),.map (some j)]⟩)]
abbrev jjq(most:Int):Chunk:=⟨false,2,[(0,2,.agg ⟨[xc most,.map (some 1)]⟩)]⟩
theorem qt8{x:Ext}{o:Bool}{most:Int}{i:Nat}(hi:ixK ix 1=some i):qbg ix (jgg x o most i j) (jjq most):=λl hl=>by
 match l,hl with
 | 0,_=>exact .plain rfl
 | 1,_=>exact .map hi
theorem qcf{α:Type}{enc:α->Value}{D D':List (Int×α)}:qbg ix (mapC enc D) (mapC enc D'):=nzj
theorem qb4{α:Type}{enc:α->Value}{D:List (Int×α)}{h:Hp}{k:Nat}(hh:h[k]?=some (some (mapC enc D))):PostC ix h k (mapC enc D):=⟨_,hh,id,nlr _,nzj⟩
def jqj(E:Ez)(k:Nat)(pre:Mz)(v:Value)(ms:Mz):Prop:=
 (E=[]/\v=.slice none 0 0/\ms=pre)\/∃cap,0<E.length/\E.length<=cap/\v=.slice (some ⟨k,0,some 0⟩) E.length cap/\ms=pre++[(k,enC true cap λi=>if i<E.length then entT E i else Ent.zero)]
theorem q2q{h:Hp}(hj:j<c*10):Safe1 h ((enC true c T).f j):=by
 rw[jkx hj];generalize T (j / 10)=x;generalize j%10=k;unfold jf4;split<;>trivial
theorem jky{v u:Value}(h:v=u)(hp:qam v=true):Re ix v u:=by subst h;exact .plain hp
theorem qbz{k:IntKind}{a b:Int}(h:a=b):Value.int k a=.int k b:=by rw[h]
def allF(E:Ez)(r i:Nat):Ent:=if i<r then entT E i else Ent.zero
variable{P:Program}
theorem qyk{G:Tys}{n0:Nat}{c:Code}{A:(Exit->St->Prop)->St->Prop}{Q:Exit->St->Prop}{t:List (Option Value)}{h:Hp}(mk:Nat)(hw:updK mk [] t 0 λt'=>wkK n0 ⟨t,h⟩ ⟨t',h⟩ (N True))(k:updK mk [] t 0 λt'=>N (jh6 P G n0 c A Q ⟨t',h⟩)):N (jh6 P G n0 c A Q ⟨t,h⟩):=by
 have h1:=(qqc (updK_iff.1 hw)).1;obtain⟨α,mk',inv,μ,nx,p1,⟨x,p2,p3⟩,p4⟩:=(updK_iff.1 k).out;exact N.mk ⟨α,mk',inv,μ,nx,p1,⟨x,p2,λX ρ a w hn R=>p3 X ρ a w hn (by subst hn;exact h1.rel R)⟩,p4⟩
variable{l:List Int}
theorem qn2{p n:Nat}{x:Int}(i:Nat)(hn:n=1)(h:l[i]?=some x)(e:p=i*1):Reads (jhi l) p false n (xc x):=by
 subst e hn;have hl:=(xe.1 h).1;exact⟨by show i*1<l.length;omega,rfl,by rw[x9];exact qr7 h⟩
theorem qf9{o:Bool}{n m:Nat}{l:List Value}(hl:l.length=n)(hm:m=n):Reads ⟨o,n,[(0,n,.agg ⟨l⟩)]⟩ 0 true m (.agg ⟨l⟩):=by
 subst hm;refine⟨by show 0+m<=m;omega,_,rfl,hl,λj hj=>?_⟩;show qa9 [(0,m,.agg ⟨l⟩)] (0+j)=_;rw[qan,if_pos Q9R];simp[cellIn]
variable{K:Value->Mz->Prop}
theorem qjp{cj:Chunk}{g m size bytes:Nat}{z:Value}{slot:Nat}(v:Value)(hr:Reads cj g true (m*size) v)(h0:0<m)(h1:m<=9223372036854775807)(h2:m*bytes<=140737488355328)
  (k:∀cap,m<=cap->K (.slice (some ⟨slot,0,some 0⟩) m cap) [(slot,grown ⟨true,0,[]⟩ 0 m size v z cap)]):N (App0N cj g m size bytes z slot K):=N.mk (.inl ⟨v,hr,h0,h1,h2,k⟩)
theorem qlg{k s l:Nat}{cj:Chunk}{g m size bytes:Nat}{z:Value}{slot:Nat}(v:Value)(hr:Reads cj g true (m*size) v)(hf:flatB v (m*size)=true)(hl:l*size<=ci.n)(h1:l+m<=9223372036854775807)(h2:(l+m)*bytes<=140737488355328)
  (d:Chunk) (hw:l+m<=c->Writes ci (l*size) (m*size) v d) (k1:l+m<=c->K (.slice (some ⟨k,0,some s⟩) (l+m) c) [(k,d)]) (k2:c<l+m->∀cap,l+m<=cap->K (.slice (some ⟨slot,0,some 0⟩) (l+m) cap) [(slot,grown ci l m size v z cap)]):N (jm6 ci k s l c cj g m size bytes z slot K):=
 N.mk ⟨v,hr,hf,hl,h1,h2,λh=>⟨d,hw h,k1 h⟩,k2⟩
theorem qci{F:List ((Nat×Nat)×Win)}{most:Int}(h1:ixK ix 1=some 1)(h2:ixK ix 2=some 2):ChunkReLe ix (mainC F most) (mainC F most):=⟨id,nlr _,λj hj=>by
 match j,hj with
 | 0,_=>exact .plain rfl
 | 1,_=>exact .map h1
 | 2,_=>exact .map h2⟩
theorem qez{most:Int}(h1:ixK ix 1=some 1):ChunkReLe ix (jjq most) (jjq most):=⟨id,nlr _,λj hj=>by
 match j,hj with
 | 0,_=>exact .plain rfl
 | 1,_=>exact .map h1⟩
theorem qb0{α:Type}{enc:α->Value}{D:List (Int×α)}:ChunkReLe ix (mapC enc D) (mapC enc D):=⟨id,nlr _,nzj⟩
theorem qgn(h1:ixK ix 1=some 1):ChunkReLe ix (jl9 1) (jl9 1):=⟨id,nlr _,λj hj=>by
 match j,hj with
 | 0,_=>exact .map h1⟩
theorem qe9:ChunkReLe ix (jhi l) (jhi l):=⟨id,nlr _,λj hj=>by
 have hj:j<l.length:=hj;have e:l[j]?=some l[j]:=by simp[hj]
 rw[qr7 e];exact .plain rfl⟩
theorem qav{g:FuncId}{vs:List Value}{h:Hp}{R R':Value->Mz->Prop}(hc:CallAll P g vs h R)(hr:∀v ms,R v ms->R' v ms):CallAll P g vs h R':=λX ρ w xs H hx=>by
 rcases hc X ρ w xs H hx with ⟨x,w',h1,v,ms,ρ',h2,h3⟩|⟨h1,h2⟩
 .exact .inl ⟨x,w',h1,v,ms,ρ',hr _ _ h2,h3⟩
 .refine .inr ⟨h1,h2.mono ?_⟩;rintro e w' ⟨x,he,v,ms,ρ',h3,h4⟩;exact⟨x,he,v,ms,ρ',hr _ _ h3,h4⟩
theorem jkz(T:Tbl)(hE:T.E.length<=64)(i K:Nat)(h:Hp)(hi:h[i]?=some (some (tblC T)))(hK:h[K]?=some none):
  CallAll prog 57 [xd i] h (jqj T.E K [(i,tblC T)]):=by
 have key:=qa7 (G:=tys) (h:=h) (vs:=[xd i]) (qba T.lives) (jgs T) (α:=Option Nat) (λκ=>match κ with|none=>T.E=[]|some cap=>0<T.E.length/\T.E.length<=cap) (λκ=>match κ with|none=>.slice none 0 0|some cap=>.slice (some ⟨K,0,some 0⟩) T.E.length cap) [⟨i,tblC T,tblC T,tblC T⟩] (λ_=>[tblC T])
  (λκ=>match κ with|none=>[]|some cap=>[⟨K,8,enC true cap λi=>if i<T.E.length then entT T.E i else Ent.zero⟩]) [xd 0] tysOK mixed func57 Q9S (call57) ⟨hi,xb⟩ ⟨Q7X,xb⟩ Q9I Q9X Q81 (λκ hκ=>by
   cases κ with
   | none=>exact trivial
   | some cap=>exact⟨⟨hK,rfl,.inl Qbj,by simp⟩,xb⟩) ⟨.ptr rfl,xb⟩ qau ?_
 .exact Q2F
 intro β hβ
 repeat' (refine Ba ?_;first|refine Q5V ?_|refine Q5R ?_|refine Bb (qyg 1 3 _ _ Q9S Q9S) ?_|fail)
 refine Ba ?_
 refine Bh (qnx T.E 1 3 7 _ _ Q9S rfl Q9S Q9S Q9R) λv ms hR=>?_
 rcases hR with ⟨hE0,rfl,rfl⟩|⟨kc,hpos,hkc,rfl,rfl⟩
 .refine Q0c ?_;refine Bp 1 ?_;refine Q0c ?_;refine qb3 T β 0 1 2 [] qbw (λi hi=>.inl Qa4) hβ Q9S Q9S Q9S Q9S Q9S Q9S Q9S Q9S Q9S Q9V (λk hk=>by cases hk) jg8 (qbn rfl) ?_;refine Bn none ⟨hE0,?_⟩;exact Q2z
 .refine Q0c ?_;refine qyk 4096 ?_ ?_
  .exact Q31
  refine Ba ?_;refine Bq (α:=Option (Nat×Nat)) (λx=>match x with|none=>True|some q=>1<=q.1/\q.1<=T.E.length/\q.1<=q.2) (λx=>match x with|none=>T.E.length|some q=>T.E.length-q.1) (λx=>match x with|none=>[(15,xc 0),(3,.slice none 0 0)]|some q=>[(15,xc (q.1:Int)),(3,.slice (some ⟨8,0,some 0⟩) q.1 q.2)]) (λx=>match x with|none=>[]|some q=>[(8,enC true q.2 (allF T.E q.1))]) none [(0,0),(1,1),(2,2),(3,3),(7,7)] trivial ?_ ?_
  .exact Q22
  .intro x hx;cases x with
   | none=>
    obtain⟨k0,hk0,e0,he0⟩:=qgm (E:=T.E) (i:=0) hpos;obtain⟨e1,hg⟩:=qir he0;refine Q0c ?_;refine Bi 0 1 rfl hpos ?_;repeat' (refine Ba ?_;first|refine Q5V ?_|refine Q5R ?_|refine Bk _ (qn2 0 rfl hk0 rfl) ?_|refine Q7Q ?_|fail)
    refine Ba ?_;refine qjp (entV e1) Q8O Q9V Q9V Q9V λcap hcap=>?_
    refine Q0c ?_;refine Bm (some (1,cap)) [(0,0),(1,1),(2,2),(3,3),(7,7),(9,8)] ⟨⟨nlr _,hpos,hcap⟩,by show T.E.length-1<T.E.length;omega⟩ ?_;have hgr:∀i,i<cap->allF T.E 1 i=jgb (λ_=>Ent.zero) 0 e1 i:=λi _=>Q3A
    exact Q1M
   | some q=>
    obtain⟨r,c⟩:=q;obtain⟨q1,q2,q3⟩:=hx;have q1:1<=r:=q1;have q2:r<=T.E.length:=q2;have q3:r<=c:=q3;by_cases hlt:r<T.E.length
    .obtain⟨k0,hk0,e0,he0⟩:=qgm (E:=T.E) (i:=r) hlt;obtain⟨e1,hg⟩:=qir he0;have hset:allF T.E (r+1)=seten (allF T.E r) r e1:=Q2S;have hgr:∀cap i,i<cap->allF T.E (r+1) i=jgb (allF T.E r) r e1 i:=λcap i _=>Q37
     refine Q0c ?_;refine Bi r 1 rfl hlt ?_;repeat' (refine Ba ?_;first|refine Q5V ?_|refine Q5R ?_|refine Bk _ (qn2 r rfl hk0 Qaj) ?_|refine Q7Q ?_|fail)
     refine Ba ?_;refine qlg (entV e1) Q8O Q9S (by show r*10<=c*10;omega) Q9R (by show(r+1)*80<=_;omega) (enC true c (seten (allF T.E r) r e1)) (λh=>jmd Q9R rfl) (λhr=>?_) (λhg2 cap hcap=>?_)
     .refine Q0c ?_;refine Bm (some (r+1,c)) [(0,0),(1,1),(2,2),(3,3),(7,7),(8,8)] ⟨⟨by show 1<=r+1;omega,hlt,hr⟩,by show T.E.length-(r+1)<T.E.length-r;omega⟩ ?_;exact Q1G
     .refine Q0c ?_;refine Bm (some (r+1,cap)) [(0,0),(1,1),(2,2),(3,3),(7,7),(10,8)] ⟨⟨by show 1<=r+1;omega,hlt,hcap⟩,by show T.E.length-(r+1)<T.E.length-r;omega⟩ ?_;repeat' (refine Ba ?_;first|refine Q5V ?_|refine Q5R ?_|exact Be|refine Bc (qci Q9S Q9S) ?_|refine Q6m ?_|refine Q7C ?_|refine Bc (qf1 (ci:=enC true c (allF T.E r)) hcap (λj hj=>jkx Q9R) (hgr cap)) ?_|fail)
    .obtain rfl:r=T.E.length:=by omega
     refine Q0c ?_;refine qb3 T β 0 1 2 [8] qbw (λi hi=>.inl Qa4) hβ Q9S Q9S Q9S Q9S Q9S Q9S Q9S Q9S Q9S Q9V (λk hk=>by simp at hk;omega) (λk hk d hd l hl=>?_) Q8V ?_
     .obtain rfl:k=8:=by simpa using hk
      obtain rfl:enC true c (allF T.E T.E.length)=d:=by simpa using hd
      exact q2q hl
     refine Bn (some c) ⟨⟨q1,q3⟩,?_⟩;refine Bc (.one (.slice rfl)) ?_;refine Q2E ?_;refine Bc ⟨⟨xT rfl,qt7 (T':=allF T.E T.E.length) (λ_ _=>rfl) Q9S⟩,xb⟩ ?_;exact Q4Z
theorem jk0(x:Ext)(o:Bool)(most:Int)(E:Ez)(hE:E.length<=64)(i i1 i2 K:Nat)(h:Hp)(hi:h[i]?=some (some (jgg x o most i1 i2)))(h1:h[i1]?=some (some (mapC entV E)))(hii:i≠i1)(hK:h[K]?=some none):
  CallAll prog 57 [xd i] h (jqj E K [(i1,mapC entV E)]):=by
 have key:=qa7 (G:=tys) (h:=h) (vs:=[xd i]) (λ_:Unit=>True) (λ_=>_) (α:=Option Nat) (λκ=>match κ with|none=>E=[]|some cap=>0<E.length/\E.length<=cap) (λκ=>match κ with|none=>.slice none 0 0|some cap=>.slice (some ⟨K,0,some 0⟩) E.length cap) [⟨i,_,jjq most,noC⟩,⟨i1,mapC entV E,mapC entV E,mapC entV E⟩] (λ_=>[noC,mapC entV E])
  (λκ=>match κ with|none=>[]|some cap=>[⟨K,7,enC true cap λi=>if i<E.length then entT E i else Ent.zero⟩]) [xd 0] tysOK mixed func57 Q9S (call57) ⟨hi,h1,xb⟩ Q9e (λκ _=>Q9e) (by simp[Apart,hii]) ⟨.inl rfl,.inr ⟨rfl,rfl⟩,xb⟩ (λκ hκ=>by
   cases κ with
   | none=>exact trivial
   | some cap=>exact⟨⟨hK,rfl,.inl Qbj,by simp⟩,xb⟩) ⟨.ptr rfl,xb⟩ Opens.same ?_
 .exact Q2F
 rintro⟨⟩ -
 repeat' (refine Ba ?_;first|refine Q5V ?_|refine Q5R ?_|refine Bb (qyg 1 2 _ _ Q9S Q9S) ?_|fail)
 refine Ba ?_
 refine Bh (qnx E 1 2 6 _ _ Q9S rfl Q9S Q9S Q9R) λv ms hR=>?_
 rcases hR with ⟨hE0,rfl,rfl⟩|⟨kc,hpos,hkc,rfl,rfl⟩
 .refine Q0c ?_;refine Bp 1 ?_;refine Q0c ?_;refine Bl ?_;refine Bn none ⟨hE0,?_⟩;refine Bc (.plain rfl) ?_;refine Bc ⟨qb4 Q9S,xb⟩ ?_;refine Bc xb ?_;refine Bc ⟨⟨.inl rfl,.inr ⟨_,rfl,rfl⟩,xb⟩,xb⟩ ?_;exact Be
 .refine Q0c ?_;refine qyk 4096 ?_ ?_
  .exact Q31
  refine Ba ?_;refine Bq (α:=Option (Nat×Nat)) (λx=>match x with|none=>True|some q=>1<=q.1/\q.1<=E.length/\q.1<=q.2) (λx=>match x with|none=>E.length|some q=>E.length-q.1) (λx=>match x with|none=>[(15,xc 0),(3,.slice none 0 0)]|some q=>[(15,xc (q.1:Int)),(3,.slice (some ⟨7,0,some 0⟩) q.1 q.2)]) (λx=>match x with|none=>[]|some q=>[(7,enC true q.2 (allF E q.1))]) none [(0,0),(1,1),(2,2),(6,6)] trivial ?_ ?_
  .exact Q22
  .intro x hx;cases x with
   | none=>
    obtain⟨k0,hk0,e0,he0⟩:=qgm (E:=E) (i:=0) hpos;obtain⟨e1,hg⟩:=qir he0;refine Q0c ?_;refine Bi 0 1 rfl hpos ?_;repeat' (refine Ba ?_;first|refine Q5V ?_|refine Q5R ?_|refine Bk _ (qn2 0 rfl hk0 rfl) ?_|refine Q7V ?_|fail)
    refine Ba ?_;refine qjp (entV e1) Q8O Q9V Q9V Q9V λcap hcap=>?_
    refine Q0c ?_;refine Bm (some (1,cap)) [(0,0),(1,1),(2,2),(6,6),(8,7)] ⟨⟨nlr _,hpos,hcap⟩,by show E.length-1<E.length;omega⟩ ?_;have hgr:∀i,i<cap->allF E 1 i=jgb (λ_=>Ent.zero) 0 e1 i:=λi _=>Q3A
    exact Q1M
   | some q=>
    obtain⟨r,c⟩:=q;obtain⟨q1,q2,q3⟩:=hx;have q1:1<=r:=q1;have q2:r<=E.length:=q2;have q3:r<=c:=q3;by_cases hlt:r<E.length
    .obtain⟨k0,hk0,e0,he0⟩:=qgm (E:=E) (i:=r) hlt;obtain⟨e1,hg⟩:=qir he0;have hset:allF E (r+1)=seten (allF E r) r e1:=Q2S;have hgr:∀cap i,i<cap->allF E (r+1) i=jgb (allF E r) r e1 i:=λcap i _=>Q37
     refine Q0c ?_;refine Bi r 1 rfl hlt ?_;repeat' (refine Ba ?_;first|refine Q5V ?_|refine Q5R ?_|refine Bk _ (qn2 r rfl hk0 Qaj) ?_|refine Q7V ?_|fail)
     refine Ba ?_;refine qlg (entV e1) Q8O Q9S (by show r*10<=c*10;omega) Q9R (by show(r+1)*80<=_;omega) (enC true c (seten (allF E r) r e1)) (λh=>jmd Q9R rfl) (λhr=>?_) (λhg2 cap hcap=>?_)
     .refine Q0c ?_;refine Bm (some (r+1,c)) [(0,0),(1,1),(2,2),(6,6),(7,7)] ⟨⟨by show 1<=r+1;omega,hlt,hr⟩,by show E.length-(r+1)<E.length-r;omega⟩ ?_;exact Q1G
     .refine Q0c ?_;refine Bm (some (r+1,cap)) [(0,0),(1,1),(2,2),(6,6),(9,7)] ⟨⟨by show 1<=r+1;omega,hlt,hcap⟩,by show E.length-(r+1)<E.length-r;omega⟩ ?_;repeat' (refine Ba ?_;first|refine Q5V ?_|refine Q5R ?_|exact Be|refine Bc (qez Q9S) ?_|refine Q6m ?_|refine Q7C ?_|refine Bc (qf1 (ci:=enC true c (allF E r)) hcap (λj hj=>jkx Q9R) (hgr cap)) ?_|fail)
    .obtain rfl:r=E.length:=by omega
     refine Q0c ?_;refine Bl ?_;refine Bn (some c) ⟨⟨q1,q3⟩,?_⟩;refine Bc (.one (.slice rfl)) ?_;refine Bc ⟨qb4 Q9S,xb⟩ ?_;refine Bc ⟨⟨xT rfl,qt7 (T':=allF E E.length) (λ_ _=>rfl) Q9S⟩,xb⟩ ?_;refine Bc ⟨⟨.inl rfl,.inr ⟨_,rfl,rfl⟩,xb⟩,.inl rfl,xb⟩ ?_;exact Be
end Go.Proofs.YtfkngpmgcimdbaaGreat
