/-
  Stretches that bear blocks of their own: how they are opened and closed; contracts of callees that take or make such.
-/
import Derived.MapKept
import Derived.Shelf.SlIterI.Nil
import Derived.Shelf.SortM.Plain
import Derived.Shelf.SortM.SortNone
import Derived.Ground.GgzProg
import Derived.Ground.SlgmProg
import Derived.Test.YtfkngpmgcimdbaaGreatProg
import Derived.WideShapes
import Derived.WalkKit
import Derived.WalkSpells
import Derived.WalkLawsBesides
import Derived.ProofKit
import Derived.OpenShut
import Derived.ChangeOld
import Derived.SizedLaws
import Derived.Lib.Hide
import Derived.Deep.Slices
import Derived.Test.YtfkngpmgcimdbaaGreatR2
set_option linter.unusedVariables false
set_option linter.unusedSimpArgs false
set_option maxRecDepth 100000
set_option maxHeartbeats 20000000
theorem Go.Proofs.xj:type_of% @decide_eq_false_iff_not:=@decide_eq_false_iff_not
theorem Go.Proofs.xy:type_of% @not_false_eq_true:=@not_false_eq_true
theorem Go.Proofs.yb:type_of% @ge_iff_le:=@ge_iff_le
theorem Go.Proofs.xR:type_of% @gt_iff_lt:=@gt_iff_lt
theorem Go.Proofs.xH:type_of% @List.nodup_cons:=@List.nodup_cons
theorem Go.Proofs.ze:type_of% @BitVec.toNat_ofInt:=@BitVec.toNat_ofInt
theorem Go.Proofs.yG:type_of% @Bool.not_eq_eq_eq_not:=@Bool.not_eq_eq_eq_not
theorem Go.Proofs.y8:type_of% @Bool.not_eq_true':=@Bool.not_eq_true'
theorem Go.Proofs.yy:type_of% @List.nodup_nil:=@List.nodup_nil
theorem Go.Proofs.yR:type_of% @Nat.pow_lt_pow_right:=@Nat.pow_lt_pow_right
theorem Go.Proofs.xv:type_of% @Nat.mod_eq_of_lt:=@Nat.mod_eq_of_lt
theorem Go.Proofs.xf:type_of% @decide_eq_true:=@decide_eq_true
theorem Go.Proofs.yk:type_of% @beq_iff_eq:=@beq_iff_eq
theorem Go.Proofs.x8:type_of% @Nat.pow_add:=@Nat.pow_add
theorem Go.Proofs.x5:type_of% @Nat.mul_assoc:=@Nat.mul_assoc
theorem Go.Proofs.zg:type_of% @Nat.mul_right_comm:=@Nat.mul_right_comm
theorem Go.Proofs.xS:type_of% @Nat.eq_zero_or_pos:=@Nat.eq_zero_or_pos
theorem Go.Proofs.x6:type_of% @Nat.mul_one:=@Nat.mul_one
theorem Go.Proofs.zh:type_of% @List.append_nil:=@List.append_nil
theorem Go.Proofs.xQ:type_of% @Nat.div_lt_iff_lt_mul:=@Nat.div_lt_iff_lt_mul
theorem Go.Proofs.xu:type_of% @Nat.div_add_mod:=@Nat.div_add_mod
theorem Go.Proofs.xm:type_of% @Nat.mul_comm:=@Nat.mul_comm
theorem Go.Proofs.xM:type_of% @Nat.lt_of_le_of_lt:=@Nat.lt_of_le_of_lt
theorem Go.Proofs.xe:type_of% @decide_eq_false:=@decide_eq_false
open Go.Proofs.Tryz
namespace Go.Proofs
section
variable{Z Y:Prop}
theorem Q0a(k:Y)(h:Wr Y->Z:=by
 intro kQ;repeat' (refine Ba ?_;first|refine Q55 ?_|refine Q51 ?_|refine Q5i ?_|refine Q5e ?_|fail)
 refine Ba ?_;exact kQ.o):Z:=h ⟨k⟩
theorem Q0H(h:Z:=by
 rw[e1] at he;obtain⟨rfl,rfl⟩:=Prod.mk.inj he;repeat' (refine Ba ?_;first|refine Q55 ?_|refine Q51 ?_|refine Bn ?_|refine Q5x ?_|refine Bc ⟨qjl Q8F rfl (nlr _) Q8F Q8F Q8F,xb⟩ ?_|refine Q5c ?_|exact Be|fail)):Z:=h
theorem Q0I(h:Z:=by
 repeat' (refine Ba ?_;first|refine Q55 ?_|refine Q51 ?_|with_reducible refine Bi (λhb=>?_) (λhb=>?_)|fail)
 all_goals
  refine jfn ?_
  simp only[xh,xj,xz,false_iff,true_iff,iff_true,iff_false,reduceCtorEq,ya,xy,yb,xR] at *
  omega):Z:=h
theorem Q0K(k:Y)(h:Wr Y->Z:=by
 intro kQ;repeat' (refine Ba ?_;first|refine Q55 ?_|refine Q51 ?_|refine Bb (qh0 _ _ _) ?_|refine Q5i ?_|refine Q5e ?_|fail)
 refine Ba ?_;exact kQ.o):Z:=h ⟨k⟩
theorem Q1h(h:Z:=by
 rw[e];repeat' (refine Ba ?_;first|refine Q55 ?_|refine Q51 ?_|refine Bb (qg7 _ _ _) ?_|with_reducible refine Bi (λhb=>?_) (λhb=>?_)|refine Q5x ?_|refine Bc xb ?_|exact Be|fail)):Z:=h
theorem Q1m(h:Z:=by repeat' (refine Ba ?_;first|refine Q55 ?_|refine Q51 ?_|exact Be|refine Q5y ?_|refine Bc (qlb Q9y) ?_|fail)):Z:=h
theorem Q1p(h:Z:=by repeat' (refine Ba ?_;first|refine Q55 ?_|refine Q51 ?_|exact Be|refine Bc (qex Q8F) ?_|refine Q65 ?_|refine Q5l ?_|refine Q6d ?_|refine Bc (qyh λi _=>by rw[hset]) ?_|fail)):Z:=h
theorem Q1v(h:Z:=by repeat' (refine Ba ?_;first|refine Q55 ?_|refine Q51 ?_|exact Be|refine Bc (qex Q8F) ?_|refine Q65 ?_|refine Q5l ?_|refine Bc (.one (.map rfl)) ?_|refine Q6s ?_|refine Bc (qfx (l:=0) hcap (λj hj=>absurd hj Q8E) hgr) ?_|fail)):Z:=h
theorem Q1z(h:Z:=by repeat' (refine Ba ?_;first|refine Q55 ?_|refine Q51 ?_|refine Q5x ?_|refine Bc xb ?_|exact Be|fail)):Z:=h
theorem Q1K(h:Z:=by repeat' (refine Ba ?_;first|refine Q55 ?_|refine Q51 ?_|exact Be|refine Bc (qex Q8F) ?_|refine Q65 ?_|refine Q5l ?_|refine Bc (.one (.map rfl)) ?_|refine Q6s ?_|fail)):Z:=h
theorem Q2C(h:Z:=by
 refine qax key λv ms hR=>?_
 obtain⟨κ,hκ,rfl,rfl⟩:=hR;cases κ with
 | none=>exact .inl ⟨hκ,rfl,rfl⟩
 | some cap=>exact .inr ⟨cap,hκ.1,hκ.2,rfl,rfl⟩):Z:=h
theorem Q2K(h:Z:=by
 funext i;unfold allF seten;by_cases h0:i=r
 .subst h0;rw[if_pos Q8E,if_pos rfl];exact qla hk0 hg
 .rw[if_neg h0];by_cases h1:i<r
  .rw[if_pos Q8E];exact(if_pos h1).symm
  .rw[if_neg Q8E];exact(if_neg h1).symm):Z:=h
theorem Q2S(h:Z:=by repeat' (refine Ba ?_;first|refine Q55 ?_|refine Q51 ?_|exact Be|refine Q5y ?_|fail)):Z:=h
theorem Q2V(h:Z:=by
 rw[hset];unfold seten jfs;by_cases h0:i<r
 .rw[if_neg Q8E,if_pos h0]
 .rw[if_neg h0];by_cases h1:i=r
  .rw[if_pos h1,if_pos h1]
  .rw[if_neg h1,if_neg h1];unfold allF;rw[if_neg h0]):Z:=h
theorem Q30(h:Z:=by
 obtain⟨d,hd⟩:=hj;by_cases ej:k=j
 .simp_all
 .by_cases ei:i=j
  .exact⟨_,by subst ei;rw[xI ej,xG hil]⟩
  .exact⟨d,by rw[xI ej,xI ei];exact hd⟩):Z:=h
theorem Q33(h:Z:=by
 repeat' (refine Ba ?_;first|refine Q55 ?_|refine Q51 ?_|fail)
 all_goals simp):Z:=h
theorem Q3c(h:Z:=by
 refine Bc (.plain rfl) ?_;refine Bc Q8c ?_;refine Bc xb ?_;refine Bc Q7z ?_;exact Be):Z:=h
theorem Q3d(h:Z:=by
 unfold allF jfs;by_cases h0:i=0
 .subst h0;rw[if_pos Q8E,if_neg Q8E,if_pos rfl];exact qla hk0 hg
 .rw[if_neg Q8E,if_neg Q8E,if_neg h0]):Z:=h
theorem Q3m(h:Z:=by
 intro v ms hR;obtain⟨q,_,rfl,rfl⟩:=hR;exact⟨q,rfl,rfl⟩):Z:=h
theorem Q3p(h:Z:=by
 match j,hj with
 | 0,_=>exact .plain rfl
 | 1,_=>exact .plain rfl
 | 2,_=>exact .plain rfl):Z:=h
theorem Q3u(h:Z:=by simp[Builtin.delete_,hts,run_underlying ht,MapKept.run_getObj_map hb,run_checkKey hk (k:=xc k) rfl,run_findKey hk h2,MapKept.run_setObj_map _ hb,Result.andThen]):Z:=h
theorem Q3U(h:Z:=by
 match k,h with
 | 0,_=>rfl
 | 1,_=>rfl
 | 2,_=>rfl
 | 3,_=>rfl
 | 4,_=>rfl
 | 5,_=>rfl
 | 6,_=>rfl
 | 7,_=>rfl
 | 8,_=>rfl
 | 9,_=>rfl):Z:=h
theorem Q42(k:Y)(h:Wr Y->Z:=by
 intro kQ;refine Q0K ?_;refine Bj r 1 rfl hlt ?_;refine Ba ?_;refine Bl _ (jj8 r rfl Q8E Q95) ?_;refine Q0K ?_;exact kQ.o):Z:=h ⟨k⟩
theorem Q43(h:Z:=by
 refine⟨λm hm=>?_,λm s hs=>?_,λm m' s s' hs hs' e=>?_⟩
 .grind[qbe,qcx,je5]
 .grind[je5]
 grind):Z:=h
theorem Q4g(h:Z:=by
 have:=congrArg (λl=>l.map Prod.fst) M.ents;simpa[List.map_map,Function.comp_def] using this):Z:=h
theorem Q4v(h:Z:=by
 refine N.next (r+1) ⟨⟨by omega,hlt⟩,by omega⟩ ?_;rw[hst];exact Q1m):Z:=h
theorem Q4M(h:Z:=by
 obtain⟨x,hx,hd⟩:=H.cell j _ hi l hl;exact⟨x,hx,hd.more hag fil⟩):Z:=h
theorem Q4V(h:Z:=by
 have e:bitW l q=0:=by unfold bitW;rw[if_pos Q8E]
 exact Q1h):Z:=h
theorem Q4Y(h:Z:=by
 rw[e] at h1;exact(h1 (0,0) (λ_=>False) default λ_ h=>h).elim):Z:=h
theorem Q51(k:Y)(h:Wr Y->Z:=by intro kQ;(first|with_reducible (first|refine N.eq ?_|refine Bc rfl ?_|refine Bc ⟨by kernel_rfl,by kernel_rfl⟩ ?_|refine N.alt ?_|refine Bw ?_|refine Bx ?_)|fail);exact kQ.o):Z:=h ⟨k⟩
theorem Q55(k:Y)(h:Wr Y->Z:=by intro kQ;(first|with_reducible refine Bc Q8I ?_|fail);exact kQ.o):Z:=h ⟨k⟩
theorem Q5b(k:Y)(h:Wr Y->Z:=by intro kQ;(first|refine Bc (.plain rfl) ?_|refine Bc ⟨⟨_,rfl,id,nlr _,nzj⟩,xb⟩ ?_|refine Bc xb ?_|refine Bc ⟨⟨.inr ⟨_,rfl,rfl⟩,xb⟩,xb⟩ ?_|fail);exact kQ.o):Z:=h ⟨k⟩
theorem Q5c(k:Y)(h:Wr Y->Z:=by intro kQ;(first|refine Bc xb ?_|refine Bc ⟨⟨.inr ⟨_,rfl,rfl⟩,xb⟩,xb⟩ ?_|fail);exact kQ.o):Z:=h ⟨k⟩
theorem Q5d(k:Y)(h:Wr Y->Z:=by intro kQ;(first|refine Bf Q8I ?_|fail);exact kQ.o):Z:=h ⟨k⟩
theorem Q5e(k:Y)(h:Wr Y->Z:=by intro kQ;(first|refine Bf (by rw[xj];omega) ?_|fail);exact kQ.o):Z:=h ⟨k⟩
theorem Q5i(k:Y)(h:Wr Y->Z:=by intro kQ;(first|refine Bg (by rw[xh];omega) ?_|fail);exact kQ.o):Z:=h ⟨k⟩
theorem Q5l(k:Y)(h:Wr Y->Z:=by intro kQ;(first|refine Bc (.plain Q8F) ?_|refine Bc (.one (.ptr rfl)) ?_|fail);exact kQ.o):Z:=h ⟨k⟩
theorem Q5m(k:Y)(h:Wr Y->Z:=by intro kQ;(first|refine Bg Q8I ?_|fail);exact kQ.o):Z:=h ⟨k⟩
theorem Q5q(k:Y)(h:Wr Y->Z:=by intro kQ;(first|refine qck (T) β 0 1 2 [] qcg (λi hi=>.inl Q8U) hβ Q8F Q8F Q8F Q8F Q8F Q8F Q8F Q8F Q8F Q8I (λk hk=>by cases hk) jg6 (qbt rfl) ?_|fail);exact kQ.o):Z:=h ⟨k⟩
theorem Q5x(k:Y)(h:Wr Y->Z:=by intro kQ;(first|refine Bc (.plain rfl) ?_|fail);exact kQ.o):Z:=h ⟨k⟩
theorem Q5y(k:Y)(h:Wr Y->Z:=by intro kQ;(first|with_reducible refine Bc (ChunkLe.refl _) ?_|fail);exact kQ.o):Z:=h ⟨k⟩
theorem Q5K(k:Y)(h:Wr Y->Z:=by intro kQ;(first|refine Bc ⟨qb6 Q8F,qb6 Q8F,xb⟩ ?_|refine Bc xb ?_|refine Bc ⟨⟨.inl rfl,.inr ⟨_,rfl,rfl⟩,.inr ⟨_,rfl,rfl⟩,xb⟩,xb⟩ ?_|fail);exact kQ.o):Z:=h ⟨k⟩
theorem Q63(k:Y)(h:Wr Y->Z:=by intro kQ;(first|with_reducible (first|refine N.min2 ?_|refine N.max2 ?_)|fail);exact kQ.o):Z:=h ⟨k⟩
theorem Q65(k:Y)(h:Wr Y->Z:=by intro kQ;(first|refine Bc (qfy Q8F Q8F) ?_|refine Bc qgh ?_|refine Bc (qgi Q8F) ?_|refine Bc qe8 ?_|fail);exact kQ.o):Z:=h ⟨k⟩
theorem Q66(k:Y)(h:Wr Y->Z:=by intro kQ;(first|refine qb8 entV E rfl underlying128 underlying3 type114 rfl (.tuple ⟨[entV e,.bool true]⟩) (by rw[hE];rfl) rfl ?_|refine jgc entV E ⟨n,e.boot,e.heard,false,0,0,0,0,0,0⟩ rfl rfl ⟨by omega,by omega⟩ rfl underlying128 underlying3 ?_|refine Bb (qn2 6 _ Q8F) ?_|fail);exact kQ.o):Z:=h ⟨k⟩
theorem Q6d(k:Y)(h:Wr Y->Z:=by intro kQ;(first|refine Bc (.one (.map rfl)) ?_|refine Bc (.one (.slice rfl)) ?_|refine Bc (jnb (qlb Q9y) rfl) ?_|fail);exact kQ.o):Z:=h ⟨k⟩
theorem Q6k(k:Y)(h:Wr Y->Z:=by intro kQ;(first|refine qb8 jev D rfl underlying129 underlying3 type159 rfl (.tuple ⟨[jev r,.bool true]⟩) Q9m rfl ?_|fail);exact kQ.o):Z:=h ⟨k⟩
theorem Q6s(k:Y)(h:Wr Y->Z:=by intro kQ;(first|refine Bc (.one (.slice rfl)) ?_|fail);exact kQ.o):Z:=h ⟨k⟩
theorem Q6A(k:Y)(h:Wr Y->Z:=by intro kQ;(first|refine qb8 jev D rfl underlying129 underlying3 type159 rfl (.tuple ⟨[.agg ⟨[xc 0,.bool false,.pointer none]⟩,.bool false]⟩) Q9m rfl ?_|fail);exact kQ.o):Z:=h ⟨k⟩
theorem Q6B(k:Y)(h:Wr Y->Z:=by intro kQ;(first|refine qb8 entV E rfl underlying128 underlying3 type114 rfl (.tuple ⟨[entV Ent.zero,.bool false]⟩) (by rw[hE];rfl) rfl ?_|refine Bb (qn2 6 _ Q8F) ?_|fail);exact kQ.o):Z:=h ⟨k⟩
theorem Q6D(k:Y)(h:Wr Y->Z:=by intro kQ;(first|refine Bb (qnu _ _ _) ?_|refine Bf (by simp only[beq_eq_false_iff_ne];exact hb1) ?_|fail);exact kQ.o):Z:=h ⟨k⟩
theorem Q6M(k:Y)(h:Wr Y->Z:=by intro kQ;(first|refine qb8 entV T.E rfl underlying128 underlying3 type114 rfl (.tuple ⟨[entV Ent.zero,.bool false]⟩) Q9m rfl ?_|fail);exact kQ.o):Z:=h ⟨k⟩
theorem Q6P(k:Y)(h:Wr Y->Z:=by intro kQ;(first|refine qb8 entV T.E rfl underlying128 underlying3 type114 rfl (.tuple ⟨[entV e,.bool true]⟩) Q9m rfl ?_|fail);exact kQ.o):Z:=h ⟨k⟩
theorem Q6Y(k:Y)(h:Wr Y->Z:=by intro kQ;(first|refine qb8 entV T.E rfl underlying128 underlying3 type114 rfl (entV e1) Q9m rfl ?_|fail);exact kQ.o):Z:=h ⟨k⟩
theorem Q72(k:Y)(h:Wr Y->Z:=by intro kQ;(first|refine qb8 entV E rfl underlying128 underlying3 type114 rfl (entV e1) Q9m rfl ?_|fail);exact kQ.o):Z:=h ⟨k⟩
theorem Q74(h:Z:=by first|exact ⟨λh=>⟨rfl,nlr _⟩,nlr _,nzj⟩|fail):Z:=h
theorem Q75(h:Z:=by first|exact ⟨⟨λh=>Q94,nlr _,qdd Q8F Q8F⟩,⟨λh=>⟨rfl,nlr _⟩,nlr _,qci⟩,⟨λh=>⟨rfl,nlr _⟩,nlr _,qci⟩,xb⟩|fail):Z:=h
theorem Q77(h:Z:=by first|exact ⟨.inr ⟨rfl,rfl⟩,xb⟩|fail):Z:=h
theorem Q79(h:Z:=by first|exact ⟨.ptr rfl,.plain rfl,xb⟩|fail):Z:=h
theorem Q7c(h:Z:=by first|exact ⟨.ptr rfl,.plain rfl,.plain rfl,xb⟩|fail):Z:=h
theorem Q7k(h:Z:=by first|exact ⟨.inl rfl,.inr ⟨rfl,rfl⟩,.inr ⟨rfl,rfl⟩,xb⟩|fail):Z:=h
theorem Q7z(h:Z:=by first|exact ⟨⟨.inr ⟨_,rfl,rfl⟩,xb⟩,xb⟩|fail):Z:=h
theorem Q7D(h:Z:=by first|exact ⟨⟨.inl rfl,.inr ⟨_,rfl,rfl⟩,.inr ⟨_,rfl,rfl⟩,xb⟩,.inr ⟨_,rfl,rfl⟩,xb⟩|fail):Z:=h
theorem Q7P(h:Z:=by first|exact ⟨⟨x7 rfl,_,rfl,id,nlr _,jla⟩,xb⟩|fail):Z:=h
theorem Q89(h:Z:=by first|exact ⟨⟨λh=>Q94,by show 2<=3;decide,qt1 Q8F⟩,⟨λh=>⟨rfl,nlr _⟩,nlr _,qci⟩,xb⟩|fail):Z:=h
theorem Q8a(h:Z:=by first|exact ⟨⟨.inr ⟨_,rfl,rfl⟩,xb⟩,.inl rfl,xb⟩|fail):Z:=h
theorem Q8b(h:Z:=by first|exact ⟨qb6 Q8F,qb6 Q8F,xb⟩|fail):Z:=h
theorem Q8c(h:Z:=by first|exact ⟨⟨_,rfl,id,nlr _,nzj⟩,xb⟩|fail):Z:=h
theorem Q8l(h:Z:=by first|exact ⟨λh=>Q94,nlr _,qj0 λ_ _=>rfl⟩|fail):Z:=h
theorem Q8w(h:Z:=by first|exact ⟨xb,.inr ⟨_,rfl,rfl⟩,xb⟩|fail):Z:=h
theorem Q8F(h:Z:=by rfl):Z:=h
theorem Q8G(h:Z:=by first|exact qaj _|exact qal _ _ _|rfl|(simp only[qan,yq,List.all_nil,qad,qaf,qag];rfl)):Z:=h
theorem Q8H(h:Z:=by first|rfl|(simp only[yq,List.all_nil,qad,qaf,qag];rfl)):Z:=h
theorem Q8I(h:Z:=by decide):Z:=h
theorem Q8J(h:Z:=by kernel_rfl):Z:=h
theorem Q8K(h:Z:=by simp[Apart]):Z:=h
theorem Q8W(h:Z:=by simp[Apart,hii.1,hii.2.1,hii.2.2]):Z:=h
theorem Q95(h:Z:=by first|rfl|omega):Z:=h
theorem Q9m(h:Z:=by rw[hg];rfl):Z:=h
theorem Q9v(h:Z:=by show 0<cap*10;have:=hκ.1;have:=hκ.2;omega):Z:=h
theorem Q9y(h:Z:=by rw[jep _ Q8E Q8E];omega):Z:=h
theorem Q9D(h:Z:=by show 0<3;decide):Z:=h
end
end Go.Proofs

namespace Go.Proofs.YtfkngpmgcimdbaaGreat.Sx
open Go Go.RowKit
structure jqd(X:Ctx)(ρ':Rz)(h':Hp)(w:World)(F:Nat->Prop)(T:Nat->Nat->Prop)(k:Nat)(d:Chunk):Prop where
 blk:F (ρ' k).1
 cell:∀j,j<d.n->∃x,w.cell? ⟨(ρ' k).1,(ρ' k).2+j,none⟩=some x/\Den1 (Fil h') ρ' (d.f j) x
 own:d.own=true->∀j,j<d.n->w.frozen? ⟨(ρ' k).1,(ρ' k).2+j,none⟩=false
 inv:d.x.inv (ρ' k) (T k) w
 foot:∀b,T k b->F b/\(d.n=0\/b≠(ρ' k).1)
variable{X:Ctx}{ρ:Rz}{w:World}
theorem HOK.redo{ρ':Rz}{h h':Hp}{S T:Nat->Nat->Prop}(H:HOK X ρ h w)(E:ExtOK X ρ h w S)(J A F:Nat->Prop)
  (hF:∀b,F b->∃(j:Nat)(c:Chunk),J j/\h[j]?=some (some c)/\((c.own=true/\b=(ρ j).1)\/S j b)) (hmay:∀b,F b->May X b)
  (hbase:∀i,i<X.n0->Fil h' i/\ρ' i=ρ i)
  (hold:∀(k:Nat)(d:Chunk),h'[k]?=some (some d)->¬ A k->¬ J k/\ρ' k=ρ k/\h[k]?=some (some d)/\∀j,j<d.n->∀x,Den1 (Fil h) ρ (d.f j) x->Den1 (Fil h') ρ' (d.f j) x)
  (hnew:∀(k:Nat)(d:Chunk),h'[k]?=some (some d)->A k->jqd X ρ' h' w F T k d)
  (hsep:∀(k:Nat)(d:Chunk)(l:Nat)(e:Chunk),h'[k]?=some (some d)->A k->h'[l]?=some (some e)->A l->k≠l->(d.own=true->(ρ' k).1≠(ρ' l).1)/\∀b,T k b->(ρ' l).1≠b/\¬ T l b):HOK X ρ' h' w:=by
 have outF:∀(k:Nat)(e:Chunk),h[k]?=some (some e)->¬ J k->¬ F (ρ k).1:=λk e hk hJ hb=>by
  obtain⟨j,c,hj,hc,hb⟩:=hF _ hb;have hne:j≠k:=λe=>hJ (e▸hj)
  rcases hb with ⟨ho,hb⟩|hb
  .exact H.sep _ _ _ _ hc ho hk hne hb.symm
  .exact(E.apart _ _ _ _ _ hc hb hk hne.symm).1 rfl
 have outS:∀(k:Nat)(e:Chunk)(b:Nat),h[k]?=some (some e)->¬ J k->S k b->¬ F b:=λk e b hk hJ hS hb=>by
  obtain⟨j,c,hj,hc,hb⟩:=hF _ hb;have hne:j≠k:=λe=>hJ (e▸hj)
  obtain⟨a1,a2⟩:=E.apart _ _ b _ _ hk hS hc hne
  grind
 have inF:∀b,F b->b<w.heap.size:=λb hb=>by
  obtain⟨j,c,hj,hc,hb⟩:=hF _ hb;rcases hb with ⟨ho,rfl⟩|hb
  .exact H.lt _ _ hc
  .exact(E.mine _ _ _ hc hb).2.1
 refine⟨H.evo,λi hi=>⟨(hbase i hi).1,(hbase i hi).2.trans (H.base i hi).2⟩,λk d hk=>?_,λk d hk j hj=>?_,λk d hk ho j hj=>?_,λk d l e hk ho hl hne=>?_,?_⟩
 .by_cases hA:A k
  .exact inF _ (hnew k d hk hA).blk
  .obtain⟨_,hρ,hk',_⟩:=hold k d hk hA;rw[hρ];exact H.lt _ _ hk'
 .by_cases hA:A k
  .exact(hnew k d hk hA).cell j hj
  .obtain⟨_,hρ,hk',hd⟩:=hold k d hk hA;rw[hρ];obtain⟨x,hx,hx2⟩:=H.cell _ _ hk' j hj
   grind
 .by_cases hA:A k
  .refine⟨(hnew k d hk hA).own ho j hj,?_⟩;rcases hmay _ (hnew k d hk hA).blk with h1|h1
   .exact .inl h1
   grind
  .obtain⟨_,hρ,hk',_⟩:=hold k d hk hA;rw[hρ];exact H.own _ _ hk' ho j hj
 .by_cases hA:A k<;>by_cases hB:A l
  .grind
  .obtain⟨hJ,hρ,hl',_⟩:=hold l e hl hB;rw[hρ];exact λe'=>outF l e hl' hJ (e'▸(hnew k d hk hA).blk)
  .obtain⟨hJ,hρ,hk',_⟩:=hold k d hk hA;rw[hρ];exact λe'=>outF k d hk' hJ (e'▸(hnew l e hl hB).blk)
  .obtain⟨hJ,hρ,hk',_⟩:=hold k d hk hA;obtain⟨hJ2,hρ2,hl',_⟩:=hold l e hl hB;rw[hρ,hρ2];exact H.sep _ _ _ _ hk' ho hl' hne
 .refine⟨λk b=>(A k/\T k b)\/(¬ A k/\S k b),λk d hk=>?_,λk d b hk hS=>?_,λk d b l e hk hS hl hne=>?_⟩
  .by_cases hA:A k
   .have:(λb=>(A k/\T k b)\/(¬ A k/\S k b))=T k:=by
     grind
    rw[this];exact(hnew k d hk hA).inv
   .have:(λb=>(A k/\T k b)\/(¬ A k/\S k b))=S k:=by
     grind
    rw[this];obtain⟨_,hρ,hk',_⟩:=hold k d hk hA;rw[hρ];exact E.inv k d hk'
  .rcases hS with ⟨hA,hT⟩|⟨hA,hS⟩
   .obtain⟨h1,h2⟩:=(hnew k d hk hA).foot b hT
    grind
   .obtain⟨_,hρ,hk',_⟩:=hold k d hk hA;rw[hρ];exact E.mine k d b hk' hS
  .rcases hS with ⟨hA,hT⟩|⟨hA,hS⟩
   .by_cases hB:A l
    .grind
    .obtain⟨hJ,hρ,hl',_⟩:=hold l e hl hB;have hFb:=((hnew k d hk hA).foot b hT).1
     grind
   .obtain⟨hJ,hρ,hk',_⟩:=hold k d hk hA;by_cases hB:A l
    .refine⟨λe'=>outS k d b hk' hJ hS (e'▸(hnew l e hl hB).blk),λh=>?_⟩;rcases h with h|h
     .exact outS k d b hk' hJ hS ((hnew l e hl hB).foot b h.2).1
     grind
    .obtain⟨_,hρ2,hl',_⟩:=hold l e hl hB;obtain⟨a1,a2⟩:=E.apart k d b l e hk' hS hl' hne
     grind
structure Tidy(X:Ctx)(ss:List jeo):Prop where
 n0:X.n0=ss.length
 m:∀b j,X.M ⟨b,j,none⟩->(∃k,k<X.n0/\b=(X.ρ0 k).1)\/May X b
 x:∀(k:Nat)(s:jeo),ss[k]?=some s->s.e.x≠Ext.none->Selfish s.e.x->May X (X.ρ0 k).1
variable{ss:List jeo}
theorem Tidy.may{h:Hp}(T:Tidy X ss)(H:HOK X ρ h w){j:Nat}{c:Chunk}(hj:h[j]?=some (some c))(ho:c.own=true)(hn:0<c.n)(hl:ss.length<=j):May X (ρ j).1:=by
 rcases(H.own j c hj ho 0 hn).2 with h1|h1
 .exact .inl h1
 .rcases T.m _ _ h1 with ⟨k,hk,hb⟩|h2
  .obtain⟨⟨d,hd⟩,hρ⟩:=H.base k hk;have:=H.sep j c k d hj ho hd (by have:=T.n0;omega);simp_all
  .exact h2
theorem Tidy.mayX{h:Hp}(T:Tidy X ss)(H:HOK X ρ h w){k:Nat}{s:jeo}(hk:ss[k]?=some s)(hx:s.e.x≠Ext.none)(hs:Selfish s.e.x):May X (ρ k).1:=by
 have hl:=(xg.1 hk).1;rw[(H.base k (by rw[T.n0];exact hl)).2];exact T.x k s hk hx hs
def EndN(ss:List jeo)(h:Hp)(v:Value)(K:Value->Hp->Prop):Prop:=
 ∀X ρ w x,Tidy X ss->HOK X ρ h w->Den (Fil h) ρ v x->∃v' h' ρ',HOK X ρ' h' w/\Den (Fil h') ρ' v' x/\K v' h'
theorem Bn{h:Hp}{v:Value}{K:Value->Hp->Prop}(k:K v h):N (EndN ss h v K):=N.mk λX ρ w x _ H hd=>⟨v,h,ρ,H,hd,k⟩
def Opens(ss:List jeo){B:Type}(okB:B->Prop)(h1:B->Hp):Prop:=
 ∀X ρ w,Tidy X ss->HOK X ρ (partH ss) w->∃β,okB β/\∃ρ',AgreeOn (Fil (partH ss)) ρ ρ'/\(∀i,Fil (partH ss) i->Fil (h1 β) i)/\HOK X ρ' (h1 β) w
theorem Opens.same:Opens ss (λ_:Unit=>True) (λ_=>partH ss):=λX ρ w _ H=>⟨(),xb,ρ,AgreeOn.refl _ _,λ_ h=>h,H⟩
def PartsX:List jeo->Prop
 | []=>True
 | s::r=>(s.e.x=Ext.none\/(s.e.own=true/\s.e.x=s.c.x))/\PartsX r
theorem PartsX.at:∀{ss:List jeo},PartsX ss->∀s∈ss,qx3 s
 | t::r,hp,s,hs=>by
  rcases xi.1 hs with rfl|hs
  .exact hp.1
  .exact PartsX.at hp.2 s hs
def PostX(h:Hp):List jeo->Nat->Prop
 | [],_=>True
 | s::r,k=>(s.d.x=Ext.none\/∃c,h[k]?=some (some c)/\s.d.x=c.x)/\PostX h r (k+1)
theorem PostX.at{h:Hp}:∀{ss:List jeo}{k0:Nat},PostX h ss k0->∀(l:Nat)(s:jeo),ss[l]?=some s->s.d.x=Ext.none\/∃c,h[k0+l]?=some (some c)/\s.d.x=c.x
 | a::r,k0,hp,0,s,hl=>by simp at hl;subst hl;exact hp.1
 | a::r,k0,hp,l+1,s,hl=>by
  rw[show k0+(l+1)=k0+1+l by omega];exact PostX.at hp.2 l s Q91
def MadeX(h:Hp):List jfb->Prop
 | []=>True
 | n::r=>(h[n.i]?=some none/\n.d.own=true/\(0<n.d.n\/Selfish n.d.x)/\∀m∈r,n.i≠m.i/\n.k≠m.k)/\MadeX h r
theorem MadeX.at{h:Hp}:∀{ns:List jfb},MadeX h ns->∀n∈ns,h[n.i]?=some none/\n.d.own=true/\(0<n.d.n\/Selfish n.d.x)
 | t::r,hp,s,hs=>by
  rcases xi.1 hs with rfl|hs
  .exact⟨hp.1.1,hp.1.2.1,hp.1.2.2.1⟩
  .exact MadeX.at hp.2 s hs
theorem MadeX.ne{h:Hp}:∀{ns:List jfb},MadeX h ns->∀n∈ns,∀m∈ns,(n.i=m.i\/n.k=m.k)->n=m
 | t::r,hp,n,hn,m,hm,he=>by
  rcases xi.1 hn with h1|h1<;>rcases xi.1 hm with h2|h2
  .rw[h1,h2]
  .have:=hp.1.2.2.2 m h2;rw[h1] at he;omega
  .have:=hp.1.2.2.2 n h1;rw[h2] at he;omega
  .exact MadeX.ne hp.2 n h1 m h2 he
def MadeP(h:Hp):List jfb->Prop
 | []=>True
 | n::r=>(n.d.x=Ext.none\/∃c,h[n.k]?=some (some c)/\n.d.x=c.x)/\MadeP h r
theorem MadeP.at{h:Hp}:∀{ns:List jfb},MadeP h ns->∀n∈ns,n.d.x=Ext.none\/∃c,h[n.k]?=some (some c)/\n.d.x=c.x
 | t::r,hp,s,hs=>by
  rcases xi.1 hs with rfl|hs
  .exact hp.1
  .exact MadeP.at hp.2 s hs
theorem qr3{F F':Nat->Prop}{ρ ρ':Rz}(ha:AgreeOn F ρ ρ')(hF:∀i,F i->F' i):∀{vs xs:List Value},All2 (Den F ρ) vs xs->All2 (Den F' ρ') vs xs
 | [],[],_=>trivial
 | [],_::_,h=>h.elim
 | _::_,[],h=>h.elim
 | _::_,_::_,h=>⟨h.1.more ha hF,qr3 ha hF h.2⟩
section
variable{P:Program}{G:Tys}
theorem qtv{ss:List jeo}{ρ:Rz}{w:World}{S:Nat->Nat->Prop}{h:Hp}{X:Ctx}(hI:∀s∈ss,h[s.i]?=some (some s.c))(hex:PartsX ss)(E:ExtOK X ρ h w S):Tidy ⟨w,subM ρ S ss,ss.length,λk=>ρ (jg3 ss k)⟩ ss:=by
 have hσ:∀k s,ss[k]?=some s->jg3 ss k=s.i:=λk s hk=>by show(match ss[k]? with|some s=>s.i|none=>0)=s.i;rw[hk]
 refine⟨rfl,λb j hm=>?_,λk s hk hx hs=>?_⟩
 .rcases hm with ⟨_,s,hs,_,hb,_⟩|⟨s,hs,ho,hb⟩
  .obtain⟨l,hl,hlt⟩:=yF hs;have hl':ss[l]?=some s:=by rw[xt hl,hlt]
   grind
  .exact .inr (.inr ⟨.inr ⟨s,hs,ho,hb⟩,λj=>.inr ⟨s,hs,ho,hb⟩⟩)
 .have hmem:=xL hk;rcases hex.at s hmem with e|⟨ho,e⟩
  .simp_all
  .have hb:S s.i (ρ s.i).1:=by
    rw[e] at hs;exact hs _ _ _ (E.inv _ _ (hI s hmem))
   show May _ (ρ (jg3 ss k)).1;rw[hσ k s hk];exact .inr ⟨.inr ⟨s,hmem,ho,hb⟩,λj=>.inr ⟨s,hmem,ho,hb⟩⟩
variable{vs:List Value}
theorem qaq{g:FuncId}{fn:Func}{cd:Code}{h:Hp}{V:Value}{B:Type}(okB:B->Prop)(h1:B->Hp)(ss:List jeo)(ns:List jfb)(vs':List Value)
  (hG:jey P G) (hm:P.follows .mixedOrders=true) (hf:P.funcs[g]?=some fn) (hb:fn.body=some cd) (hr:∀xs w,(callFunc g xs).run P w=.ok (.enter g xs) w)
  (hin:PartsIn h ss) (hre:PartsRe (partX ss 0) ss) (hap:Apart ss) (hex:PartsX ss) (hmi:MadeX h ns) (hvs:All2 (Re2 (partX ss 0)) vs vs') (hop:Opens ss okB h1)
  (hwp:∀β,okB β->initK vs' fn.ntmps λt=>wpC P G ss.length cd (bodyQ P G fn λv st=>N (EndN ss st.h v λv' h'=>N (Obl (Re (partX ss 0++madeX ns) V v') (N (Obl (PostS (partX ss 0++madeX ns) h' ss 0) (N (Obl (PostN (partX ss 0++madeX ns) h' ss.length ns) (N (Obl (PostX h' ss 0/\MadeP h' ns) (N True)))))))))) ⟨t,h1 β⟩) :
  qae P g vs h V (partM ss++madeM ns) (jhn ss):=λh₂ hrd hms X ρ w xs H hx=>by
 have hI:∀s∈ss,h₂[s.i]?=some (some s.c):=λs hs=>Q3a
 have hNw:∀n∈ns,h₂[n.i]?=some none:=λn hn=>(hms (n.i,n.d) (List.mem_append_right _ (madeM_mem.2 ⟨n,hn,rfl⟩))).trans (hmi.at n hn).1
 obtain⟨S,E⟩:=H.ext
 have T:=qtv hI hex E
 obtain⟨H0,hargs⟩:=qk2 ss vs' hI hre hap hex.at hvs H E hx
 obtain⟨β,hβ,ρ',hag,hfil,H1⟩:=hop _ _ w T H0
 have hargs':All2 (Den (Fil (h1 β)) ρ') vs' xs:=qr3 hag hfil hargs
 refine .inr ⟨hr _ w,?_⟩
 refine(qfv (X:=⟨w,subM ρ S ss,ss.length,λk=>ρ (jg3 ss k)⟩) (args:=⟨xs⟩) hG hm hf hb H1 hargs' (hwp β hβ)).mono ?_
 rintro e w' ⟨ρ1,v,st,x,rfl,H2,hdx,hq⟩
 obtain⟨v',h',ρ2,H3,hd3,hq⟩:=N.out hq _ _ _ _ T H2 hdx
 have q1:Re (partX ss 0++madeX ns) V v'/\N _:=N.out hq
 have q2:PostS (partX ss 0++madeX ns) h' ss 0/\N _:=N.out q1.2
 have q3:PostN (partX ss 0++madeX ns) h' ss.length ns/\N _:=N.out q2.2
 have q4:(PostX h' ss 0/\MadeP h' ns)/\N True:=N.out q3.2
 exact⟨x,rfl,qns ss ns hI hNw hre hap (λn hn=>(hmi.at n hn).2) (λn hn m hm=>hmi.ne n hn m hm) H E H3 hd3 q1.1 q2.1 q3.1 (λl s hl _=>by have:=q4.1.1.at l s hl;rwa[xr] at this) q4.1.2.at⟩
theorem qa8{α:Type}{g:FuncId}{fn:Func}{cd:Code}{h:Hp}{B:Type}(okB:B->Prop)(h1:B->Hp)(ok:α->Prop)(V:α->Value)(ss:List jeo)(dd:α->List Chunk)(ns:α->List jfb)(vs':List Value)
  (hG:jey P G) (hm:P.follows .mixedOrders=true) (hf:P.funcs[g]?=some fn) (hb:fn.body=some cd) (hr:∀xs w,(callFunc g xs).run P w=.ok (.enter g xs) w)
  (hin:PartsIn h ss) (hre0:PartsRe (partX ss 0) ss) (hre:∀κ,ok κ->PartsRe (partX ss 0) (setD ss (dd κ))) (hap:Apart ss) (hex:PartsX ss) (hmi:∀κ,ok κ->MadeX h (ns κ)) (hvs:All2 (Re2 (partX ss 0)) vs vs') (hop:Opens ss okB h1)
  (hwp:∀β,okB β->initK vs' fn.ntmps λt=>wpC P G ss.length cd (bodyQ P G fn λv st=>N (EndN ss st.h v λv' h'=>N (jj2 λκ=>ok κ/\N (Obl (Re (partX ss 0++madeX (ns κ)) (V κ) v') (N (Obl (PostS (partX ss 0++madeX (ns κ)) h' (setD ss (dd κ)) 0) (N (Obl (PostN (partX ss 0++madeX (ns κ)) h' ss.length (ns κ)) (N (Obl (PostX h' (setD ss (dd κ)) 0/\MadeP h' (ns κ)) (N True))))))))))) ⟨t,h1 β⟩) :
  CallAll P g vs h λv ms=>∃κ,ok κ/\v=V κ/\ms=partM (setD ss (dd κ))++madeM (ns κ):=λX ρ w xs H hx=>by
 obtain⟨S,E⟩:=H.ext
 have T:=qtv (λs hs=>hin.at s hs) hex E
 obtain⟨H0,hargs⟩:=qk2 ss vs' (λs hs=>hin.at s hs) hre0 hap hex.at hvs H E hx
 obtain⟨β,hβ,ρ',hag,hfil,H1⟩:=hop _ _ w T H0
 have hargs':All2 (Den (Fil (h1 β)) ρ') vs' xs:=qr3 hag hfil hargs
 refine .inr ⟨hr _ w,?_⟩
 refine(qfv (X:=⟨w,subM ρ S ss,ss.length,λk=>ρ (jg3 ss k)⟩) (args:=⟨xs⟩) hG hm hf hb H1 hargs' (hwp β hβ)).mono ?_
 rintro e w' ⟨ρ1,v,st,x,rfl,H2,hdx,hq⟩
 obtain⟨v',h',ρ2,H3,hd3,hq⟩:=N.out hq _ _ _ _ T H2 hdx
 obtain⟨κ,hok,hq⟩:=N.out hq
 have q1:Re (partX ss 0++madeX (ns κ)) (V κ) v'/\N _:=N.out hq
 have q2:PostS (partX ss 0++madeX (ns κ)) h' (setD ss (dd κ)) 0/\N _:=N.out q1.2
 have q3:PostN (partX ss 0++madeX (ns κ)) h' ss.length (ns κ)/\N _:=N.out q2.2
 have q4:(PostX h' (setD ss (dd κ)) 0/\MadeP h' (ns κ))/\N True:=N.out q3.2
 obtain⟨ρ',ha,hh,hd⟩:=qns (h₂:=h) (hE:=h') (V:=V κ) (setD ss (dd κ)) (ns κ) (λs hs=>by
  obtain⟨t,ht,e1,e2,_⟩:=qnt hs;rw[<-e1,<-e2];exact hin.at t ht) (λn hn=>((hmi κ hok).at n hn).1) (by rw[qqc];exact hre κ hok) (qmo hap) (λn hn=>((hmi κ hok).at n hn).2) (λn hn m hm=>(hmi κ hok).ne n hn m hm) H E
  (by rw[ja2,ja1,qtu];exact H3) hd3 (by rw[qqc];exact q1.1) (by rw[qqc];exact q2.1) (by rw[qqc,qtu];exact q3.1) (λl s hl _=>by have:=q4.1.1.at l s hl;rwa[xr] at this) q4.1.2.at
 exact⟨x,rfl,V κ,_,ρ',⟨κ,hok,rfl,rfl⟩,ha,hh,hd⟩
end
open Go Go.RowKit Go.MapKept
section
variable{α:Type}
def dGet(D:List (Int×α))(k:Int):Option α:=(D.find? λq=>decide (q.1=k)).map (·.2)
def dPut(D:List (Int×α))(k:Int)(a:α):List (Int×α):=match dGet D k with
 | some _=>D.map λq=>if q.1=k then (k,a) else q
 | none=>D++[(k,a)]
def jfr(D:List (Int×α))(k:Int):List (Int×α):=D.filter λq=>!decide (q.1=k)
variable{k:Int}
theorem dGet_none{D:List (Int×α)}:dGet D k=none↔∀q∈D,q.1≠k:=by
 simp[dGet,List.find?_eq_none]
theorem qqd{D:List (Int×α)}{a:α}(h:dGet D k=some a):(k,a)∈D:=by
 grind[dGet,Option.map_eq_some_iff]
theorem q14{D:List (Int×α)}{a:α}(hd:(D.map (·.1)).Nodup)(h:(k,a)∈D):dGet D k=some a:=by
 induction D with
 | nil=>cases h
 | cons q D ih=>
  grind[dGet]
end
structure MapIs{α:Type}(enc:α->Value)(D:List (Int×α))(es:Array MapEntry)(clock:Nat):Prop where
 ents:es.toList.map (λe=>(e.key,e.val))=D.map λq=>(.int .i64 q.1,enc q.2)
 stamped:Stamped es clock
 wf:∀q∈D,-9223372036854775808<=q.1/\q.1<=9223372036854775807
section
variable{α:Type}{enc:α->Value}{D:List (Int×α)}{es:Array MapEntry}{clock:Nat}
theorem MapIs.at(M:MapIs enc D es clock)(j:Nat):(es.toList[j]?).map (λe=>(e.key,e.val))=(D[j]?).map λq=>((.int .i64 q.1,enc q.2):Value×Value):=by
 have:=congrArg (λl=>l[j]?) M.ents;simp_all
theorem MapIs.keys(M:MapIs enc D es clock):∀x∈es.toList,∃k,x.key=.int .i64 k:=λx hx=>by
 have:(x.key,x.val)∈es.toList.map (λe=>(e.key,e.val)):=xE.2 ⟨x,hx,rfl⟩;rw[M.ents] at this
 grind
theorem MapIs.isKey(M:MapIs enc D es clock):∀x∈es.toList,IsKey (.int .i64) x.key:=λx hx=>by
 obtain⟨k,e⟩:=M.keys x hx;rw[e];exact rfl
theorem MapIs.nodup(M:MapIs enc D es clock):(D.map (·.1)).Nodup:=by
 have h:=M.stamped.2.2;have e:es.toList.map (·.key)=(D.map (·.1)).map (Value.int .i64):=Q4g
 grind
theorem MapIs.find(M:MapIs enc D es clock)(k:Int):(dGet D k=none/\Instr.findNow (.int .i64) (.int .i64 k) es.toList 0=some none/\∀x∈es.toList,x.key≠.int .i64 k)\/
  ∃j a,dGet D k=some a/\D[j]?=some (k,a)/\(∃e,es.toList[j]?=some e/\e.key=.int .i64 k)/\Instr.findNow (.int .i64) (.int .i64 k) es.toList 0=some (some (j,enc a)):=by
 rcases findNow_spec (d:=.int .i64) (k:=xc k) rfl es.toList 0 M.isKey with ⟨h1,h2⟩|⟨j,e,h1,h2,h3⟩
 .refine .inl ⟨dGet_none.2 λq hq e=>?_,h1,h2⟩;have:((.int .i64 q.1,enc q.2):Value×Value)∈es.toList.map (λe=>(e.key,e.val)):=by rw[M.ents];exact xE.2 ⟨q,hq,rfl⟩
  grind
 .have hj:=M.at j;rw[h2] at hj;simp only[yD] at hj;cases hq:D[j]? with
  | none=>rw[hq] at hj;cases hj
  | some q=>
   rw[hq] at hj;simp only[yD,Option.some.injEq,Prod.mk.injEq] at hj;have hk:q.1=k:=by
    simp_all
   obtain⟨q1,a⟩:=q;subst hk;refine .inr ⟨j,a,q14 M.nodup (xL hq),hq,⟨e,h2,h3⟩,?_⟩;simp_all
variable{k:Int}{j:Nat}
theorem MapIs.put(M:MapIs enc D es clock)(hk : -9223372036854775808<=k/\k<=9223372036854775807)(a:α){b:α}(hg:dGet D k=some b)(hj:D[j]?=some (k,b))(hv:Value)(hve:hv=enc a):MapIs enc (dPut D k a) (es.modify j λe=>{ e with key:=.int .i64 k,val:=hv }) clock:=by
 subst hve;have hnd:=M.nodup;have hjl:=(xg.1 hj).1;refine⟨?_,stamped_modify M.stamped j _ (λ_ _=>rfl) (λe _ he=>?_),λq hq=>?_⟩
 .unfold dPut;rw[hg];apply ye;intro i;simp only[yl,Array.getElem?_toList,zp];have hi:=M.at i;rw[Array.getElem?_toList] at hi;by_cases e:j=i
  .grind
  .rw[if_neg e,hi];cases hq:D[i]? with
   | none=>simp
   | some q=>
    have hne:q.1≠k:=λh=>by
     refine e ((List.getElem?_inj (l:=D.map (·.1)) (by simpa using hjl) hnd).1 ?_);simp_all
    simp[hne]
 .have hi:=M.at j;simp_all
 .unfold dPut at hq;rw[hg] at hq;obtain⟨q',hq',rfl⟩:=xE.1 hq;split
  .exact hk
  .exact M.wf q' hq'
theorem MapIs.push(M:MapIs enc D es clock)(hk : -9223372036854775808<=k/\k<=9223372036854775807)(a:α)(hg:dGet D k=none)(hn:∀x∈es.toList,x.key≠.int .i64 k):MapIs enc (dPut D k a) (es.push { key:=.int .i64 k,val:=enc a,born:=clock }) (clock+1):=by
 refine⟨?_,stamped_push M.stamped hn,λq hq=>?_⟩
 .unfold dPut;rw[hg];simp only[Array.toList_push,zd,M.ents,xq,yg]
 .unfold dPut at hq;rw[hg] at hq;rcases yJ.1 hq with hq|hq
  .exact M.wf q hq
  simp_all
theorem qk3{β γ:Type}(f:β->γ):∀(l:List β)(j:Nat),(l.eraseIdx j).map f=(l.map f).eraseIdx j
 | [],_=>by simp
 | x::l,0=>by simp
 | x::l,j+1=>by simp[qk3 f l j]
theorem qqe{D:List (Int×α)}{a:α}(hnd:(D.map (·.1)).Nodup)(hj:D[j]?=some (k,a)):D.eraseIdx j=jfr D k:=by
 induction D generalizing j with
 | nil=>simp at hj
 | cons q D ih=>
  simp only[xq,xH] at hnd;cases j with
  | zero=>
   grind[List.filter_eq_self,jfr]
  | succ j=>
   grind[jfr]
theorem MapIs.erase(M:MapIs enc D es clock){a:α}(hj:D[j]?=some (k,a)):MapIs enc (jfr D k) (es.eraseIdxIfInBounds j) clock:=by
 refine⟨?_,stamped_erase M.stamped j,λq hq=>M.wf q (List.mem_filter.1 hq).1⟩;have hl:=(xg.1 hj).1;have hsz:es.size=D.length:=by have:=congrArg List.length M.ents;simpa using this
 unfold Array.eraseIdxIfInBounds;rw[dif_pos Q8E];rw[Array.toList_eraseIdx,<-qqe M.nodup hj,qk3,qk3,M.ents]
theorem MapIs.size(M:MapIs enc D es clock):es.size=D.length:=by have:=congrArg List.length M.ents;simpa using this
theorem MapIs.nil:MapIs enc ([]:List (Int×α)) #[] 0:=⟨rfl,stamped_empty 0,λq hq=>by cases hq⟩
end
abbrev ji2{α:Type}(enc:α->Value)(D:List (Int×α)):Ext where
 inv:=λp S w=>(∀b,S b↔b=p.1)/\∃es clock,w.heap[p.1]?=some (.map es clock)/\MapIs enc D es clock
 keep:=λh hb=>⟨h.1,by obtain⟨es,clock,h1,h2⟩:=h.2;exact⟨es,clock,(hb _ ((h.1 _).2 rfl)).trans h1,h2⟩⟩
theorem qjx{α:Type}{enc:α->Value}{D:List (Int×α)}:Selfish (ji2 enc D):=λp S w h=>(h.1 _).2 rfl
abbrev mapC{α:Type}(enc:α->Value)(D:List (Int×α)):Chunk:=@Chunk.mk (ji2 enc D) true 0 []
section
variable{P:Program}{G:Tys}{α:Type}{enc:α->Value}{D:List (Int×α)}
variable{et:TypeId}{z:Value}
theorem q15{ei:TypeInfo}(he:P.info? et=some ei)(hz:ei.zero=some z)(w:World):(zeroValue et).run P w=.ok z w:=by
 simp[zeroValue,typeInfo,Sem.run_bind,run_program,Result.andThen_ok,he,hz]
theorem q16{t kt:TypeId}{ei:TypeInfo}{es:Array MapEntry}{clock:Nat}{w:World}{b:Nat}(ht:P.underlying t=some (.map kt et))(hk:P.underlying kt=some (.int .i64))(he:P.info? et=some ei)(hz:ei.zero=some z)
  (hb:w.heap[b]?=some (.map es clock)) (M:MapIs enc D es clock) (k:Int) (c:Bool) :
  (Instr.lookup t (.map (some b)) (xc k) c).run P w=.ok (if c then .tuple #[((dGet D k).map enc).getD z,.bool (dGet D k).isSome] else ((dGet D k).map enc).getD z) w:=by
 rcases M.find k with ⟨h1,h2,_⟩|⟨j,a,h1,_,_,h2⟩
 .simp[Instr.lookup,run_underlying ht,MapKept.run_getObj_map hb,run_checkKey hk (k:=xc k) rfl,run_findKey hk h2,q15 he hz,h1,Result.andThen]
 .simp[Instr.lookup,run_underlying ht,MapKept.run_getObj_map hb,run_checkKey hk (k:=xc k) rfl,run_findKey hk h2,h1,Result.andThen]
variable{c:Chunk}{k:Int}{K:Value->Prop}
theorem qb8{t kt:TypeId}{ei:TypeInfo}{b:Bool}(enc:α->Value)(D:List (Int×α))(hc:c.x=ji2 enc D)(ht:P.underlying t=some (.map kt et))(hk:P.underlying kt=some (.int .i64))(he:P.info? et=some ei)(hz:ei.zero=some z)
  (v:Value) (hv:v=(if b then .tuple #[((dGet D k).map enc).getD z,.bool (dGet D k).isSome] else ((dGet D k).map enc).getD z)) (hp:qan v=true) (h:K v):N (jk1 P t c (xc k) b K):=
 N.mk ⟨v,qa0 hp,λp S w hi=>by
  rw[hc] at hi;obtain⟨_,es,clock,hb,M⟩:=hi;rw[q16 ht hk he hz hb M k b,hv],h⟩
theorem qx5{t kt:TypeId}{a:α}{v:Value}(hc:c.x=ji2 enc D)(ho:c.own=true)(hkk : -9223372036854775808<=k/\k<=9223372036854775807)(hv:v=enc a)(ht:P.underlying t=some (.map kt et))(hk:P.underlying kt=some (.int .i64)):
  Turns P c (mapC enc (dPut D k a)) (λb=>Instr.mapUpdate t (.map (some b)) (xc k) v) ():=by
 refine⟨λ_=>ho,rfl,λp S w hi=>?_⟩
 rw[hc] at hi
 obtain⟨hS,es,clock,hb,M⟩:=hi
 refine⟨(hS _).2 rfl,?_⟩
 have hlt:p.1<w.heap.size:=(xY.1 hb).1
 rcases M.find k with ⟨h1,h2,h3⟩|⟨j,a',h1,hj,⟨e,he1,he2⟩,h2⟩
 .refine⟨{ w with heap:=w.heap.setIfInBounds p.1 (.map (es.push { key:=.int .i64 k,val:=v,born:=clock }) (clock+1)) },?_,rfl,rfl,rfl,by simp,λb hne=>by simp[Ne.symm hne],hS,_,_,(heap_set hb).1,?_⟩
  .simp[Instr.mapUpdate,run_underlying ht,MapKept.run_getObj_map hb,run_checkKey hk (k:=xc k) rfl,run_findKey hk h2,MapKept.run_setObj_map _ hb,Result.andThen]
  .rw[hv];exact M.push hkk a h1 h3
 .refine⟨{ w with heap:=w.heap.setIfInBounds p.1 (.map (es.modify j λe=>{ e with key:=.int .i64 k,val:=v }) clock) },?_,rfl,rfl,rfl,by simp,λb hne=>by simp[Ne.symm hne],hS,_,_,(heap_set hb).1,?_⟩
  .have hj2:es[j]?=some e:=by rw[<-Array.getElem?_toList];exact he1
   simp[Instr.mapUpdate,run_underlying ht,MapKept.run_getObj_map hb,run_checkKey hk (k:=xc k) rfl,run_findKey hk h2,hj2,he2,run_keyThatStays (d:=.int .i64) (k:=xc k) rfl,MapKept.run_setObj_map _ hb,Result.andThen]
  .exact M.put hkk a h1 hj v hv
variable{ts:Array TypeId}
theorem qx6{t kt ty:TypeId}(hc:c.x=ji2 enc D)(ho:c.own=true)(hts:ts[0]?=some t)(ht:P.underlying t=some (.map kt et))(hk:P.underlying kt=some (.int .i64)):
  Turns P c (mapC enc (jfr D k)) (λb=>Builtin.delete_ ts ty #[.map (some b),xc k]) (.tuple #[]):=by
 refine⟨λ_=>ho,rfl,λp S w hi=>?_⟩
 rw[hc] at hi
 obtain⟨hS,es,clock,hb,M⟩:=hi
 refine⟨(hS _).2 rfl,?_⟩
 have hlt:p.1<w.heap.size:=(xY.1 hb).1
 rcases M.find k with ⟨h1,h2,h3⟩|⟨j,a',h1,hj,_,h2⟩
 .refine⟨{ w with heap:=w.heap.setIfInBounds p.1 (.map es clock) },?_,rfl,rfl,rfl,by simp,λb hne=>by simp[Ne.symm hne],hS,_,_,(heap_set hb).1,?_⟩
  .exact Q3u
  grind[jfr,List.filter_eq_self,dGet_none]
 .refine⟨{ w with heap:=w.heap.setIfInBounds p.1 (.map (es.eraseIdxIfInBounds j) clock) },?_,rfl,rfl,rfl,by simp,λb hne=>by simp[Ne.symm hne],hS,_,_,(heap_set hb).1,M.erase hj⟩;exact Q3u
theorem jgc{t kt:TypeId}{v:Value}{K:Chunk->Prop}(enc:α->Value)(D:List (Int×α))(a:α)(hc:c.x=ji2 enc D)(ho:c.own=true)(hkk : -9223372036854775808<=k/\k<=9223372036854775807)(hv:v=enc a)(ht:P.underlying t=some (.map kt et))(hk:P.underlying kt=some (.int .i64))
  (h:K (mapC enc (dPut D k a))):N (jju P c (λb=>Instr.mapUpdate t (.map (some b)) (xc k) v) K):=N.mk ⟨_,qx5 hc ho hkk hv ht hk,h⟩
theorem jk8{t kt ty:TypeId}{A:Chunk->Prop}(enc:α->Value)(D:List (Int×α))(hc:c.x=ji2 enc D)(ho:c.own=true)(hts:ts[0]?=some t)(ht:P.underlying t=some (.map kt et))(hk:P.underlying kt=some (.int .i64))
  (h:A (mapC enc (jfr D k))):N (jjv P c (λb=>Builtin.delete_ ts ty #[.map (some b),xc k]) λv d=>N (Obl (v=.tuple #[]) (A d))):=
 N.mk ⟨.tuple #[],_,λρ=>by simp[den],qx6 hc ho hts ht hk,Bc rfl h⟩
theorem qmp{t kt ty:TypeId}(enc:α->Value)(D:List (Int×α))(hc:c.x=ji2 enc D)(hts:ts[0]?=some t)(ht:P.underlying t=some (.map kt et))(h:K (xc (D.length:Nat))):N (jk2 P ts ty c K):=
 N.mk ⟨xc (D.length:Nat),λρ=>by simp[den,den2,den1,den0],λp S w hi=>by
  rw[hc] at hi;obtain⟨_,es,clock,hb,M⟩:=hi;simp[Builtin.len_,hts,run_underlying ht,MapKept.run_getObj_map hb,Result.andThen,M.size,goInt],h⟩
theorem qx7{K:Chunk->Prop}(enc:α->Value)(h:K (mapC enc [])):N (q46 K):=
 N.mk ⟨mapC enc [],rfl,λw=>⟨λb=>Iff.rfl,#[],0,(heap_alloc w (.map #[] 0)).1,MapIs.nil⟩,h⟩
end
end Go.Proofs.YtfkngpmgcimdbaaGreat.Sx


namespace Go.Proofs.YtfkngpmgcimdbaaGreat
open Go Go.RowKit Sx
abbrev xa(g:FuncId)(a:Array Value)(w:World)(v:Value):Prop:=Calls prog g a w λe w'=>e=.returned v/\Below w.heap.size w w'
abbrev jgd(s:Int):Prop:=0<=s/\s<=65535
theorem qtw(x:Int):IntKind.i64.wrap ((BitVec.ofInt IntKind.i64.bits x &&& BitVec.ofInt IntKind.i64.bits 65535).toNat:Nat)=x%65536:=by
 have h1:(BitVec.ofInt IntKind.i64.bits 65535).toNat=2^16-1:=by decide
 have h2:(BitVec.ofInt IntKind.i64.bits x &&& BitVec.ofInt IntKind.i64.bits 65535).toNat=(BitVec.ofInt IntKind.i64.bits x).toNat%65536:=by
  rw[BitVec.toNat_and,h1,Nat.and_two_pow_sub_one_eq_mod]
 have h3:((BitVec.ofInt IntKind.i64.bits x).toNat:Int)=x%18446744073709551616:=by
  rw[ze];have:(0:Int)<=x%((2^IntKind.i64.bits:Nat):Int):=Int.emod_nonneg _ Q8I;rw[Int.toNat_of_nonneg this];rfl
 rw[h2,xw];omega
def je1(a b:Int):Int:=if jgd a/\jgd b then (if (b-a)%65536 > 32768 then (b-a)%65536-65536 else (b-a)%65536) else 0
theorem qx8(a b:Int): -32767<=je1 a b/\je1 a b<=32768:=by grind[je1]
theorem q17(s:Int)(w:World):xa 22 #[xc s] w (.bool (decide (jgd s))):=by
 refine qac (G:=tys) w tysOK mixed func22 Q8F Q8H Q8G ?_;exact Q0I
theorem q6y(s:Int)(w:World):xa 80 #[xc s] w (.bool (decide (0<=s/\s<64))):=by
 refine qac (G:=tys) w tysOK mixed func80 Q8F Q8H Q8G ?_;exact Q0I
theorem q6z(s:Int)(w:World):xa 81 #[xc s] w (.bool (decide (0<=s/\s<=1000000))):=by
 refine qac (G:=tys) w tysOK mixed func81 Q8F Q8H Q8G ?_;exact Q0I
theorem qcw(s:Int)(h:Hp):qae prog 22 [xc s] h (.bool (decide (jgd s))) [] []:=qai rfl rfl (call22 _) (q17 s)
theorem qfm(s:Int)(h:Hp):qae prog 80 [xc s] h (.bool (decide (0<=s/\s<64))) [] []:=qai rfl rfl (call80 _) (q6y s)
theorem qe6(s:Int)(h:Hp):qae prog 81 [xc s] h (.bool (decide (0<=s/\s<=1000000))) [] []:=qai rfl rfl (call81 _) (q6z s)
theorem qx9(a b:Int)(w:World):xa 109 #[xc a,xc b] w (xc (je1 a b)):=by
 refine qac (G:=tys) w tysOK mixed func109 Q8F Q8H Q8G ?_;repeat' (refine Ba ?_;first|refine Q55 ?_|refine Q51 ?_|refine Bb (qcw _ _) ?_|with_reducible refine Bi (λhb=>?_) (λhb=>?_)|fail)
 all_goals
  refine congrArg _ ?_
  unfold je1
  simp only[qtw,yG,yu,yc,xh,xj] at *
  first
   | (rw[if_neg Q8E];first | done | fail)
   | (
     rw[if_pos Q8E]
     have e:IntKind.i64.wrap (b-a)=b-a:=by rw[xw];omega
     split<;>first
      | omega
      | (rw[xw];omega))
theorem qg7(a b:Int)(h:Hp):qae prog 109 [xc a,xc b] h (xc (je1 a b)) [] []:=qai rfl rfl (call109 _) (qx9 a b)
theorem qya(a b:Int)(w:World):xa 107 #[xc a,xc b] w (.bool (decide (0<je1 a b/\je1 a b<32768))):=by
 refine qac (G:=tys) w tysOK mixed func107 Q8F Q8H Q8G ?_;repeat' (refine Ba ?_;first|refine Q55 ?_|refine Q51 ?_|refine Bb (qg7 _ _ _) ?_|with_reducible refine Bi (λhb=>?_) (λhb=>?_)|fail)
 all_goals
  refine jfn ?_
  simp only[xh,xj,xz,false_iff,true_iff,iff_true,iff_false,reduceCtorEq,ya,xy,yb,xR] at *
  omega
theorem qnu(a b:Int)(h:Hp):qae prog 107 [xc a,xc b] h (.bool (decide (0<je1 a b/\je1 a b<32768))) [] []:=qai rfl rfl (call107 _) (qya a b)
end Go.Proofs.YtfkngpmgcimdbaaGreat


namespace Go.Proofs.YtfkngpmgcimdbaaGreat.Sx
open Go Go.RowKit
abbrev atX(q:Nat×Nat):Ext where
 inv:=λp S _=>p=q/\∀b,¬ S b
 keep:=λh _=>h
def je0(q:Nat×Nat):Value:=.pointer (some ⟨q.1,q.2,none⟩)
variable{q:Nat×Nat}{ρ:Rz}
theorem qk4:den ρ (je0 q)=je0 q:=rfl
structure jho{α:Type}(n:Nat)(enc:α->Nat->Value)(F:List ((Nat×Nat)×α))(S:Nat->Prop)(w:World):Prop where
 dom:∀b,S b↔∃q∈F,q.1.1=b
 nodup:(F.map (·.1.1)).Nodup
 cell:∀q∈F,∀j,j<n->w.cell? ⟨q.1.1,q.1.2+j,none⟩=some (enc q.2 j)/\w.frozen? ⟨q.1.1,q.1.2+j,none⟩=false
abbrev famX{α:Type}(n:Nat)(enc:α->Nat->Value)(F:List ((Nat×Nat)×α)):Ext where
 inv:=λ_ S w=>jho n enc F S w
 keep:=λ{p S w w'} h hb=>⟨h.dom,h.nodup,λq hq j hj=>by
  obtain⟨h1,h2⟩:=h.cell q hq j hj;have e:=hb q.1.1 ((h.dom _).2 ⟨q,hq,rfl⟩);refine⟨?_,?_⟩
  .rw[<-h1];unfold World.cell?;simp only[e]
  .rw[<-h2];unfold World.frozen?;simp only[e]⟩
structure jjp(ρ:Rz)(h:Hp)(w:World)(S:Nat->Prop)(T:Nat->Nat->Prop):Prop where
 blk:∀(k:Nat)(d:Chunk),h[k]?=some (some d)->S (ρ k).1
 cell:∀(k:Nat)(d:Chunk),h[k]?=some (some d)->∀j,j<d.n->∃x,w.cell? ⟨(ρ k).1,(ρ k).2+j,none⟩=some x/\Den1 (Fil h) ρ (d.f j) x
 own:∀(k:Nat)(d:Chunk),h[k]?=some (some d)->∀j,j<d.n->w.frozen? ⟨(ρ k).1,(ρ k).2+j,none⟩=false
 inv:∀(k:Nat)(d:Chunk),h[k]?=some (some d)->d.x.inv (ρ k) (T k) w
 foot:∀(k:Nat)(d:Chunk)(b:Nat),h[k]?=some (some d)->T k b->S b/\(d.n=0\/b≠(ρ k).1)
 sep:∀(k:Nat)(d:Chunk)(l:Nat)(e:Chunk),h[k]?=some (some d)->h[l]?=some (some e)->k≠l->(ρ k).1≠(ρ l).1/\∀b,T k b->(ρ l).1≠b/\¬ T l b
abbrev jj3{B:Type}(ok:B->Prop)(h:B->Hp):Ext where
 inv:=λp S w=>S p.1/\∃β,ok β/\∃ρ T,ρ 0=p/\Fil (h β) 0/\jjp ρ (h β) w S T
 keep:=λ{p S w w'} hh hb=>⟨hh.1,by
  obtain⟨β,hβ,ρ,T,h0,hf,K⟩:=hh.2;refine⟨β,hβ,ρ,T,h0,hf,K.blk,λk d hk j hj=>?_,λk d hk j hj=>?_,λk d hk=>?_,K.foot,K.sep⟩
  .obtain⟨x,hx,hd⟩:=K.cell k d hk j hj;refine⟨x,?_,hd⟩;have e:=hb _ (K.blk k d hk);rw[<-hx];unfold World.cell?;simp only[e]
  .have e:=hb _ (K.blk k d hk);rw[<-K.own k d hk j hj];unfold World.frozen?;simp only[e]
  .exact d.x.keep (K.inv k d hk) λb hT=>hb b (K.foot k d b hk hT).1⟩
theorem qba{B:Type}{ok:B->Prop}{h:B->Hp}:Selfish (jj3 ok h):=λp S w hh=>hh.1
abbrev packC{B:Type}(ok:B->Prop)(h:B->Hp):Chunk:=@Chunk.mk (jj3 ok h) true 0 []
theorem qav{B:Type}{ok:B->Prop}{h:B->Hp}{i:Nat}{c d:Chunk}:Opens [⟨i,c,packC ok h,d⟩] ok h:=λX ρ w T H=>by
 obtain⟨S,E⟩:=H.ext;have h0:(partH [⟨i,c,packC ok h,d⟩])[0]?=some (some (packC ok h)):=rfl;have one:∀(k:Nat)(e:Chunk),(partH [⟨i,c,packC ok h,d⟩])[k]?=some (some e)->k=0:=λk e hk=>by
  grind[partH]
 obtain⟨_,β,hβ,ρp,Tp,e0,hf,K⟩:=E.inv 0 _ h0;have n0:X.n0=1:=T.n0;refine⟨β,hβ,ρp,λk hk=>?_,λk hk=>?_,?_⟩
 .obtain⟨e,he⟩:=hk;simp_all
 .obtain⟨e,he⟩:=hk;simp_all
 .refine H.redo E (λk=>k=0) (λ_=>True) (S 0) (λb hb=>⟨0,_,rfl,h0,.inr hb⟩) (λb hb=>(E.mine 0 _ b h0 hb).2.2) (λk hk=>?_) (λk e hk hA=>absurd xb hA) (λk e hk _=>⟨K.blk k e hk,K.cell k e hk,λ_=>K.own k e hk,K.inv k e hk,λb hb=>K.foot k e b hk hb⟩) (λk e l f hk _ hl _ hne=>⟨λ_=>(K.sep k e l f hk hl hne).1,(K.sep k e l f hk hl hne).2⟩);simp_all
def qcm(pc:Chunk)(m:Nat)(keep:List Nat):Hp->Nat->Hp
 | [],_=>[]
 | x::r,i=>(match Nat.beq i m with
  | true=>some pc
  | false=>match keep.any (Nat.beq i) with
   | true=>x
   | false=>none)::qcm pc m keep r (i+1)
theorem qjj{pc:Chunk}{m:Nat}{keep:List Nat}:∀{h:Hp}{i0 k:Nat}{d:Chunk},(qcm pc m keep h i0)[k]?=some (some d)->(i0+k=m/\d=pc)\/(i0+k≠m/\i0+k∈keep/\h[k]?=some (some d))
 | [],i0,k,d,hk=>by simp[qcm] at hk
 | x::r,i0,0,d,hk=>by
  grind[qcm,xN]
 | x::r,i0,k+1,d,hk=>by
  have:=qjj (h:=r) (i0:=i0+1) (k:=k) (d:=d) (by simpa[qcm] using hk)
  grind
theorem qjk{pc:Chunk}{m:Nat}{keep:List Nat}:∀{h:Hp}{i0 k:Nat},k<h.length->(i0+k=m\/(i0+k∈keep/\Fil h k))->Fil (qcm pc m keep h i0) k
 | [],i0,k,hl,_=>by simp at hl
 | x::r,i0,0,_,hk=>by
  grind[qcm,Fil,Nat.beq_refl]
 | x::r,i0,k+1,hl,hk=>by
  obtain⟨c,hc⟩:=qjk (pc:=pc) (m:=m) (keep:=keep) (h:=r) (i0:=i0+1) (k:=k) Q91 (by
   rw[show i0+1+k=i0+(k+1) by omega];exact hk.imp id fun⟨h1,c,h2⟩=>⟨h1,c,by simpa using h2⟩)
  exact⟨c,by simpa[qcm] using hc⟩
def q18(ix:List (Nat×Nat))(h hp:Hp):Prop:=
 ∀(k:Nat)(d:Chunk),hp[k]?=some (some d)->∃i c,ixK ix k=some i/\h[i]?=some (some c)/\c.own=true/\d.n<=c.n/\(∀j,j<d.n->Re1 ix (c.f j) (d.f j))/\(d.x=Ext.none\/d.x=c.x)/\(0<c.n\/Selfish c.x)
def ji3:Hp->List (Nat×Nat)->Bool
 | _,[]=>true
 | hp,(k,i)::r=>jip hp k&&ji3 hp r
theorem qqf{hp:Hp}:∀{ix:List (Nat×Nat)},ji3 hp ix=true->∀k i,(k,i)∈ix->Fil hp k
 | (a,b)::r,h,k,i,hm=>by
  simp only[ji3,xp] at h;rcases xi.1 hm with e|hm
  .grind[filB_iff]
  .exact qqf h.2 k i hm
def jhp:List (Nat×Nat)->Bool
 | []=>true
 | (k,i)::r=>(r.all λp=>!Nat.beq p.1 k && !Nat.beq p.2 i)&&jhp r
theorem qfn:∀{ix:List (Nat×Nat)},jhp ix=true->∀k i k' i',(k,i)∈ix->(k',i')∈ix->(k=k'\/i=i')->k=k'/\i=i'
 | (a,b)::r,h,k,i,k',i',h1,h2,he=>by
  simp only[jhp,xp,yf] at h;have key:∀x y,(x,y)∈r->x≠a/\y≠b:=λx y hm=>by
   have:=h.1 (x,y) hm;simp only[y8] at this;exact⟨λe=>by subst e;simp at this,λe=>by subst e;simp at this⟩
  rcases xi.1 h1 with e1|h1<;>rcases xi.1 h2 with e2|h2
  .simp_all
  .grind
  .grind
  .exact qfn h.2 k i k' i' h1 h2 he
variable{ss:List jeo}{K:Value->Hp->Prop}
theorem qyb{B:Type}{ok:B->Prop}{hB:B->Hp}{h:Hp}{v:Value}(β:B)(m:Nat)(ix:List (Nat×Nat))(keep:List Nat)(hpc:∀k i,(k,i)∈ix->i<ss.length->∃s,ss[i]?=some s/\s.e.x≠Ext.none/\Selfish s.e.x)(hbs:∀i,i<ss.length->i=m\/i∈keep)(hok:ok β)(h00:ixK ix 0=some m)(hf0:Fil (hB β) 0)(hone:jhp ix=true)(hpb:ji3 (hB β) ix=true)
  (hpk:q18 ix h (hB β)) (hkk:∀k∈keep,∀l i,(l,i)∈ix->k≠i) (hkd:∀k∈keep,∀(d:Chunk),h[k]?=some (some d)->∀j,j<d.n->Safe1 (qcm (packC ok hB) m keep h 0) (d.f j))
  (hv:∀ρ ρ',AgreeOn (Fil (qcm (packC ok hB) m keep h 0)) ρ ρ'->den ρ' v=den ρ v) (hlt:m<h.length) (kk:K v (qcm (packC ok hB) m keep h 0)):N (EndN ss h v K):=N.mk λX ρ w x T H hd=>by
 obtain⟨S,E⟩:=H.ext
 have fil0:Fil (qcm (packC ok hB) m keep h 0) m:=qjk hlt (.inl (xr m))
 have inv:∀k d,(hB β)[k]?=some (some d)->∃i c,(k,i)∈ix/\h[i]?=some (some c)/\c.own=true/\d.n<=c.n/\(∀j,j<d.n->Re1 ix (c.f j) (d.f j))/\(d.x=Ext.none\/d.x=c.x)/\(0<c.n\/Selfish c.x):=λk d hk=>by
  obtain⟨i,c,h1,h2⟩:=hpk k d hk;exact⟨i,c,qew h1,h2⟩
 have ofix:∀k i,(k,i)∈ix->∃d,(hB β)[k]?=some (some d):=λk i hm=>qqf hpb k i hm
 have act:∀k i,(k,i)∈ix->∃d c,(hB β)[k]?=some (some d)/\h[i]?=some (some c)/\c.own=true/\d.n<=c.n/\(∀j,j<d.n->Re1 ix (c.f j) (d.f j))/\(d.x=Ext.none\/d.x=c.x)/\(0<c.n\/Selfish c.x):=λk i hm=>by
  obtain⟨d,hd⟩:=ofix k i hm;obtain⟨i',c,hm',h2⟩:=inv k d hd;obtain rfl:=(qfn hone k i k i' hm hm' (.inl rfl)).2;exact⟨d,c,hd,h2⟩
 have mayB:∀k i,(k,i)∈ix->May X (ρ i).1:=λk i hm=>by
  obtain⟨d,c,_,hc,ho,_,_,_,h3⟩:=act k i hm;rcases h3 with h3|h3
  .by_cases e:i<ss.length
   .obtain⟨s,hs,hx,hsf⟩:=hpc k i hm e;exact T.mayX H hs hx hsf
   .exact T.may H hc ho h3 Q8E
  .exact(E.mine i c _ hc (h3 _ _ _ (E.inv i c hc))).2.2
 let ρp:Nat->Nat×Nat:=λk=>match ixK ix k with|some i=>ρ i|none=>(0,0)
 let Tp:Nat->Nat->Prop:=λk b=>∃i d,(k,i)∈ix/\(hB β)[k]?=some (some d)/\d.x≠Ext.none/\S i b
 have ixKof:∀k i,(k,i)∈ix->ixK ix k=some i:=λk i hm=>by
  obtain⟨d,hd⟩:=ofix k i hm;obtain⟨i',c,h1,_⟩:=hpk k d hd;rw[(qfn hone k i k i' hm (qew h1) (.inl rfl)).2];exact h1
 have ρp_eq:∀k i,(k,i)∈ix->ρp k=ρ i:=λk i hm=>by
  show(match ixK ix k with|some i=>ρ i|none=>(0,0))=ρ i;rw[ixKof k i hm]
 let F:Nat->Prop:=λb=>∃k i,(k,i)∈ix/\(b=(ρ i).1\/Tp k b)
 have Tp_eq:∀k i d,(k,i)∈ix->(hB β)[k]?=some (some d)->d.x≠Ext.none->Tp k=S i:=λk i d hm hd hne=>by
  funext b;refine propext ⟨?_,λhb=>⟨i,d,hm,hd,hne,hb⟩⟩;rintro⟨i',_,hm',_,_,hb⟩;rw[(qfn hone k i k i' hm hm' (.inl rfl)).2];exact hb
 have TpS:∀k i b,(k,i)∈ix->Tp k b->S i b:=λk i b hm hb=>by
  obtain⟨i',_,hm',_,_,hb'⟩:=hb;rw[(qfn hone k i k i' hm hm' (.inl rfl)).2];exact hb'
 have K1:jjp ρp (hB β) w F Tp:=by
  refine⟨λk d hk=>?_,λk d hk j hj=>?_,λk d hk j hj=>?_,λk d hk=>?_,λk d b hk hb=>?_,λk d l e hk hl hne=>?_⟩
  .obtain⟨i,c,hm,_⟩:=inv k d hk;exact⟨k,i,hm,.inl (by rw[ρp_eq k i hm])⟩
  .obtain⟨i,c,hm,hc,ho,hn,hr,_⟩:=inv k d hk;obtain⟨y,hy,hdy⟩:=H.cell i c hc j (xl hj hn);rw[ρp_eq k i hm];refine⟨y,hy,λr hrr=>?_⟩;rw[<-(hr j hj).den (r:=ρ) (r':=r) (λk' i' hm'=>by
    obtain⟨d',hd'⟩:=ofix k' i' hm';rw[hrr k' ⟨d',hd'⟩,ρp_eq k' i' hm'])]
   exact hdy.self
  .obtain⟨i,c,hm,hc,ho,hn,_⟩:=inv k d hk;rw[ρp_eq k i hm];exact(H.own i c hc ho j (xl hj hn)).1
  .obtain⟨i,c,hm,hc,ho,hn,_,hx',_⟩:=inv k d hk;by_cases en:d.x=Ext.none
   .rw[en];rintro b ⟨i',d',_,hd',hne,_⟩;rw[hk] at hd';obtain rfl:d=d':=by simpa using hd'
    exact hne en
   .rw[Tp_eq k i d hm hk en,ρp_eq k i hm];rcases hx' with e|e
    .exact absurd e en
    .rw[e];exact E.inv i c hc
  .obtain⟨i,c,hm,hc,ho,hn,_⟩:=inv k d hk;refine⟨⟨k,i,hm,.inr hb⟩,?_⟩;have:=(E.mine i c b hc (TpS k i b hm hb)).1;rw[ρp_eq k i hm];omega
  .obtain⟨i,c,hm,hc,ho,_⟩:=inv k d hk;obtain⟨i2,c2,hm2,hc2,ho2,_⟩:=inv l e hl;have hii:i≠i2:=λei=>hne (qfn hone k i l i2 hm hm2 (.inr ei)).1
   refine⟨by rw[ρp_eq k i hm,ρp_eq l i2 hm2];exact H.sep i c i2 c2 hc ho hc2 hii,λb hb=>?_⟩;obtain⟨a1,a2⟩:=E.apart i c b i2 c2 hc (TpS k i b hm hb) hc2 (Ne.symm hii);exact⟨by rw[ρp_eq l i2 hm2];exact a1,λhb2=>a2 (TpS l i2 b hm2 hb2)⟩
 have m00:=qew h00
 have H':HOK X ρ (qcm (packC ok hB) m keep h 0) w:=by
  refine H.redo (T:=λk b=>k=m/\F b) E (λi=>∃k,(k,i)∈ix) (λk=>k=m) F (λb hb=>?_) (λb hb=>?_) (λi hi=>?_) (λk d hk hA=>?_) (λk d hk hA=>?_) (λk d l e hk hA hl hB' hne=>?_)
  .obtain⟨k,i,hm,hb⟩:=hb;obtain⟨d,c,hd,hc,ho,_⟩:=act k i hm;rcases hb with hb|hb
   .exact⟨i,c,⟨k,hm⟩,hc,.inl ⟨ho,hb⟩⟩
   .exact⟨i,c,⟨k,hm⟩,hc,.inr (TpS k i b hm hb)⟩
  .obtain⟨k,i,hm,hb⟩:=hb;rcases hb with rfl|hb
   .exact mayB k i hm
   .obtain⟨d,c,hd,hc,_⟩:=act k i hm;exact(E.mine i c b hc (TpS k i b hm hb)).2.2
  .have hi:i<ss.length:=by have:=T.n0;omega
   rcases hbs i hi with rfl|h1
   .exact⟨fil0,rfl⟩
   .have hf:=(H.base i (by have:=T.n0;omega)).1;obtain⟨c,hc⟩:=hf;exact⟨qjk (xg.1 hc).1 (.inr ⟨by rw[xr];exact h1,c,hc⟩),rfl⟩
  .rcases qjj hk with ⟨h1,_⟩|⟨h1,h2,h3⟩
   .exact absurd Q8E hA
   .rw[xr] at h1 h2;refine⟨fun⟨l,hm⟩=>hkk k h2 l k hm rfl,rfl,h3,λj hj y hy r hrr=>?_⟩;rw[(hkd k h2 d h3 j hj).inScope ρ r hrr];exact hy.self
  .subst hA;rcases qjj hk with ⟨_,rfl⟩|⟨h1,_⟩
   .refine⟨⟨0,k,m00,.inl rfl⟩,nzj,λ_ j hj=>absurd hj (xX j),⟨⟨rfl,0,k,m00,.inl rfl⟩,β,hok,ρp,Tp,ρp_eq 0 k m00,hf0,?_⟩,λb hb=>⟨hb.2,.inl rfl⟩⟩;have:(λb=>k=k/\F b)=F:=by funext b;exact propext ⟨λh=>h.2,λh=>⟨rfl,h⟩⟩
    rw[this];exact K1
   .exact absurd Q8E h1
  .exact absurd (hA.trans hB'.symm) hne
 refine⟨v,_,ρ,H',λr hrr=>?_,kk⟩
 rw[hv ρ r hrr];exact hd.self
variable{X:Ctx}{w:World}{k m:Nat}{ps:Pz}{e:Chunk}
theorem HOK.famOut{α:Type}{h:Hp}{i n:Nat}{o:Bool}{enc:α->Nat->Value}{F F':List ((Nat×Nat)×α)}{a:α}
  (H:HOK X ρ h w) (hm:0<m) (hi:h[i]?=some (some (@Chunk.mk (famX n enc F) true m ps))) (hk:h[k]?=some none) (hmay:May X (ρ i).1) (hF:F.Perm ((q,a)::F')) (hex:e.x=atX q) (hen:e.n=n) (hef:∀j,j<n->e.f j=enc a j) (hpl:∀j,j<n->qbi (enc a j)=true) :
  ∃ρ',AgreeOn (Fil h) ρ ρ'/\HOK X ρ' ((h.set i (some (@Chunk.mk (famX n enc F') true m ps))).set k (some e)) w:=by
 obtain⟨S,E⟩:=H.ext
 have hil:=(xg.1 hi).1
 have hkl:=(xg.1 hk).1
 have hik:i≠k:=λe=>by rw[e,hk] at hi;cases hi
 have nf:¬ Fil h k:=fun⟨d,hd⟩=>by rw[hk] at hd;cases hd
 have FO:jho n enc F (S i) w:=E.inv i _ hi
 have memF:∀x,x∈F↔x∈(q,a)::F':=λx=>hF.mem_iff
 have qF:(q,a)∈F:=(memF _).2 Q8P
 have hS:S i q.1:=(FO.dom _).2 ⟨_,qF,rfl⟩
 have ndF:(((q,a)::F').map (·.1.1)).Nodup:=(hF.map _).nodup_iff.1 FO.nodup
 simp only[xq,xH] at ndF
 let ρ':Nat->Nat×Nat:=λj=>if j=k then q else ρ j
 have ρk:ρ' k=q:=if_pos rfl
 have ρo:∀j,j≠k->ρ' j=ρ j:=λj hj=>if_neg hj
 have hag:AgreeOn (Fil h) ρ ρ':=λj hj=>ρo j λe=>nf (e▸hj)
 let hh:=(h.set i (some (@Chunk.mk (famX n enc F') true m ps))).set k (some e)
 have get:∀j d,hh[j]?=some (some d)->(j=k/\d=e)\/(j=i/\d = @Chunk.mk (famX n enc F') true m ps)\/(j≠i/\j≠k/\h[j]?=some (some d)):=λj d hj=>by
  grind
 have fil:∀j,Fil h j->Fil hh j:=λj hj=>Q30
 have qne:q.1≠(ρ i).1:=by
  rcases(E.mine i _ _ hi hS).1 with h0|h0
  .simp_all
  .exact h0
 refine⟨ρ',hag,?_⟩
 refine H.redo (T:=λj b=>j=i/\S i b/\b≠q.1) E (λj=>j=i) (λj=>j=i\/j=k) (λb=>b=(ρ i).1\/S i b) (λb hb=>⟨i,_,rfl,hi,hb.imp (λh=>⟨rfl,h⟩) id⟩) (λb hb=>?_) (λj hj=>?_) (λj d hj hA=>?_) (λj d hj hA=>?_) (λj d l f hj hA hl hB hne=>?_)
 .rcases hb with rfl|hb
  .exact hmay
  .exact(E.mine i _ b hi hb).2.2
 .obtain⟨hf,_⟩:=H.base j hj
  grind
 .rcases get j d hj with ⟨rfl,_⟩|⟨rfl,_⟩|⟨h1,h2,h3⟩
  .omega
  .omega
  .exact⟨h1,ρo j h2,h3,λl _ x hx=>hx.more hag fil⟩
 .rcases get j d hj with ⟨rfl,rfl⟩|⟨rfl,rfl⟩|⟨h1,h2,_⟩
  .refine⟨by rw[ρk];exact .inr hS,λl hl=>?_,λ_ l hl=>?_,?_,λb hb=>absurd hb.1 (Ne.symm hik)⟩
   .rw[hen] at hl;rw[ρk];exact⟨_,(FO.cell _ qF l hl).1,by rw[hef l hl];exact Den1.plain (hpl l hl)⟩
   .rw[hen] at hl;rw[ρk];exact(FO.cell _ qF l hl).2
   .rw[hex]
    grind
  .refine⟨by rw[ρo j hik];exact .inl rfl,λl hl=>?_,λ_ l hl=>?_,?_,λb hb=>⟨.inr hb.2.1,?_⟩⟩
   .rw[ρo j hik];exact Q4M
   .rw[ρo j hik];exact(H.own j _ hi rfl l hl).1
   .show jho n enc F' (λb=>j=j/\S j b/\b≠q.1) w;refine⟨λb=>⟨λhb=>?_,fun⟨x,hx,hb⟩=>⟨rfl,(FO.dom b).2 ⟨x,(memF x).2 Q9U,hb⟩,λe=>ndF.1 (by rw[<-e,<-hb];exact xE.2 ⟨x,hx,rfl⟩)⟩⟩,ndF.2,λx hx=>FO.cell x ((memF x).2 Q9U)⟩;obtain⟨x,hx,hxb⟩:=(FO.dom b).1 hb.2.1
    grind
   .rw[ρo j hik];exact(E.mine j _ b hi hb.2.1).1
  omega
 .grind
theorem HOK.famIn{α:Type}{h:Hp}{i n:Nat}{enc:α->Nat->Value}{F:List ((Nat×Nat)×α)}{a:α}
  (H:HOK X ρ h w) (hm:0<m) (hn:0<n) (hi:h[i]?=some (some (@Chunk.mk (famX n enc F) true m ps))) (hk:h[k]?=some (some e)) (hik:i≠k) (hkb:X.n0<=k) (hmay:May X (ρ i).1) (hmk:May X (ρ k).1) (hex:e.x=atX q) (heo:e.own=true) (hen:n<=e.n) (hef:∀j,j<n->e.f j=enc a j) (hpl:∀j,j<n->qbi (enc a j)=true)
  (hsc:∀(l:Nat)(d:Chunk),l≠k->h[l]?=some (some d)->∀j,j<d.n->∀ρ ρ',(∀l,l≠k->ρ' l=ρ l)->den1 ρ' (d.f j)=den1 ρ (d.f j)) :
  HOK X ρ ((h.set i (some (@Chunk.mk (famX n enc ((q,a)::F)) true m ps))).set k none) w:=by
 obtain⟨S,E⟩:=H.ext
 have hil:=(xg.1 hi).1
 have hkl:=(xg.1 hk).1
 have FO:jho n enc F (S i) w:=E.inv i _ hi
 obtain⟨ρk,Sk⟩:ρ k=q/\∀b,¬ S k b:=by have:=E.inv k e hk;rw[hex] at this;exact this
 let hh:=(h.set i (some (@Chunk.mk (famX n enc ((q,a)::F)) true m ps))).set k none
 have get:∀j d,hh[j]?=some (some d)->(j=i/\d = @Chunk.mk (famX n enc ((q,a)::F)) true m ps)\/(j≠i/\j≠k/\h[j]?=some (some d)):=λj d hj=>by
  grind
 have fil:∀j,j≠k->Fil h j->Fil hh j:=λj hjk hj=>by
  obtain⟨d,hd⟩:=hj;by_cases ei:i=j
  .exact⟨_,by subst ei;rw[xI (Ne.symm hjk),xG hil]⟩
  .exact⟨d,by rw[xI (Ne.symm hjk),xI ei];exact hd⟩
 have qS:¬ S i q.1:=λhs=>by
  have:=(E.apart i _ _ k e hi hs hk (Ne.symm hik)).1;simp_all
 have qi:q.1≠(ρ i).1:=by
  have:=H.sep k e i _ hk heo hi (Ne.symm hik);simp_all
 have less:∀l d,l≠k->h[l]?=some (some d)->∀j,j<d.n->∀x,Den1 (Fil h) ρ (d.f j) x->Den1 (Fil hh) ρ (d.f j) x:=λl d hlk hd j hj x hx r hr=>by
  let r':Nat->Nat×Nat:=λi=>if i=k then ρ k else if jip h i then r i else ρ i
  have e1:den1 r' (d.f j)=x:=hx r' λi hf=>by
   show(if i=k then ρ k else if jip h i then r i else ρ i)=ρ i;by_cases ek:i=k
   .simp_all
   .rw[if_neg ek,if_pos (filB_iff.2 hf)];exact hr i (fil i ek hf)
  let r2:Nat->Nat×Nat:=λi=>if i=k then r k else r' i
  have e2:den1 r2 (d.f j)=den1 r' (d.f j):=hsc l d hlk hd j hj r' r2 λi hi=>if_neg hi
  have e3:den1 r2 (d.f j)=x:=e2.trans e1;let r3:Nat->Nat×Nat:=λi=>if i=k then ρ k else r i
  have e4:den1 r3 (d.f j)=den1 r (d.f j):=hsc l d hlk hd j hj r r3 λi hi=>if_neg hi
  have e5:den1 r3 (d.f j)=x:=hx r3 λi hf=>by
   show(if i=k then ρ k else r i)=ρ i;by_cases ek:i=k
   .simp_all
   .rw[if_neg ek];exact hr i (fil i ek hf)
  simp_all
 refine H.redo (T:=λj b=>j=i/\(S i b\/b=q.1)) E (λj=>j=i\/j=k) (λj=>j=i) (λb=>b=(ρ i).1\/b=q.1\/S i b) (λb hb=>?_) (λb hb=>?_) (λj hj=>?_) (λj d hj hA=>?_) (λj d hj hA=>?_) (λj d l f hj hA hl hB hne=>absurd (hA.trans hB.symm) hne)
 .rcases hb with hb|hb|hb
  .simp_all
  .simp_all
  simp_all
 .rcases hb with rfl|rfl|hb
  .exact hmay
  .simp_all
  .exact(E.mine i _ b hi hb).2.2
 .exact⟨fil j Q8E (H.base j hj).1,rfl⟩
 .grind
 .rcases get j d hj with ⟨rfl,rfl⟩|⟨h1,_⟩
  .refine⟨.inl rfl,λl hl=>?_,λ_ l hl=>(H.own j _ hi rfl l hl).1,?_,λb hb=>⟨?_,?_⟩⟩
   .obtain⟨x,hx,hd⟩:=H.cell j _ hi l hl;exact⟨x,hx,less j _ hik hi l hl x hd⟩
   .show jho n enc ((q,a)::F) (λb=>j=j/\(S j b\/b=q.1)) w;refine⟨λb=>⟨λhb=>?_,fun⟨x,hx,hb⟩=>⟨rfl,?_⟩⟩,?_,λx hx l hl=>?_⟩
    .rcases hb.2 with hb|hb
     .obtain⟨x,hx,hxb⟩:=(FO.dom b).1 hb
      grind
     simp_all
    .rcases xi.1 hx with rfl|hx
     .simp_all
     .exact .inl ((FO.dom b).2 ⟨x,hx,hb⟩)
    .simp only[xq,xH];refine⟨λhmem=>?_,FO.nodup⟩;obtain⟨x,hx,hxb⟩:=xE.1 hmem;exact qS ((FO.dom _).2 ⟨x,hx,hxb⟩)
    .rcases xi.1 hx with rfl|hx
     .obtain⟨y,hy,hdy⟩:=H.cell k e hk l (xl hl hen);rw[hef l hl] at hdy;have:=q13 (hpl l hl) hdy;subst this;rw[ρk] at hy;have h2:=(H.own k e hk heo l (xl hl hen)).1;simp_all
     .exact FO.cell x hx l hl
   .grind
   .rcases hb.2 with hb|rfl
    .exact(E.mine j _ b hi hb).1
    omega
  omega
inductive AtRe(q:Nat×Nat)(k:Nat):Value->Value->Prop
 | same (v:Value):AtRe q k v v
 | ptr {s:Nat}:AtRe q k (je0 q) (.pointer (some ⟨k,0,some s⟩))
theorem qr4{F:Nat->Prop}{ρ:Rz}{q:Nat×Nat}{k:Nat}(hF:F k)(hρ:ρ k=q):∀{vs vs' xs:List Value},All2 (AtRe q k) vs vs'->All2 (Den F ρ) vs xs->All2 (Den F ρ) vs' xs
 | [],[],xs,_,h=>h
 | [],_::_,_,h,_=>h.elim
 | _::_,[],_,h,_=>h.elim
 | _::_,_::_,[],_,h=>h.elim
 | v::vs,v'::vs',x::xs,h,h'=>by
  refine⟨?_,qr4 hF hρ h.2 h'.2⟩;have h1:=h.1;cases h1 with
  | same=>exact h'.1
  | ptr=>
   intro r hr;have e1:x=je0 q:=h'.1.self.symm.trans qk4;have e2:r k=q:=(hr k hF).trans hρ
   grind[den,den2,den1,den0,jfd,je0]
theorem qfc{P:Program}{g:FuncId}{vs:List Value}{h:Hp}{v:Value}{ms:Mz}{rh:List Nat}{c:Chunk}(vs':List Value)(hk:h[k]?=some (some c))(hx:c.x=atX q)(hvs:All2 (AtRe q k) vs vs')(hin:k∈rh\/∃d,(k,d)∈ms)(hc:qae P g vs' h v ms rh):qae P g vs h v ms rh:=
 λh₂ hr hm X ρ w xs H hxs=>by
  have hk2:h₂[k]?=some (some c):=by
   rcases hin with h1|⟨d,h1⟩
   .exact(hr k h1).trans hk
   .exact(hm _ h1).trans hk
  obtain⟨S,E⟩:=H.ext;have hρ:ρ k=q:=by have:=E.inv k c hk2;rw[hx] at this;exact this.1
  exact hc h₂ hr hm X ρ w xs H (qr4 ⟨c,hk2⟩ hρ hvs hxs)
theorem HOK.setX{h:Hp}{n:Nat}{o:Bool}(H:HOK X ρ h w)(hk:h[k]?=some (some (@Chunk.mk Ext.none o n ps)))(y:Ext)(hy:∀S,(∀b,¬ S b)->y.inv (ρ k) S w):HOK X ρ (h.set k (some (@Chunk.mk y o n ps))) w:=by
 obtain⟨S,E⟩:=H.ext;have hkl:=(xg.1 hk).1;have get:∀j d,(h.set k (some (@Chunk.mk y o n ps)))[j]?=some (some d)->∃c:Chunk,h[j]?=some (some c)/\d.own=c.own/\d.n=c.n/\d.ps=c.ps/\(d.x=c.x\/(j=k/\d.x=y/\c.x=Ext.none)):=λj d hj=>by
  grind
 have fil:∀j,Fil h j->Fil (h.set k (some (@Chunk.mk y o n ps))) j:=λj hj=>hj.set
 refine⟨H.evo,λi hi=>⟨fil i (H.base i hi).1,(H.base i hi).2⟩,λj d hj=>?_,λj d hj l hl=>?_,λj d hj ho l hl=>?_,λj d l f hj ho hl hne=>?_,S,λj d hj=>?_,λj d b hj hb=>?_,λj d b l f hj hb hl hne=>?_⟩
 .obtain⟨c,hc,_⟩:=get j d hj;exact H.lt j c hc
 .obtain⟨c,hc,_,e2,e3,_⟩:=get j d hj;obtain⟨x,hx,hd⟩:=H.cell j c hc l Q8E;refine⟨x,hx,?_⟩;have:d.f l=c.f l:=by unfold Chunk.f;rw[e3]
  rw[this];exact hd.more (AgreeOn.refl _ _) fil
 .obtain⟨c,hc,e1,e2,_⟩:=get j d hj;exact H.own j c hc (by rw[<-e1];exact ho) l Q8E
 .obtain⟨c,hc,e1,_⟩:=get j d hj;obtain⟨c2,hc2,_⟩:=get l f hl;exact H.sep j c l c2 hc (by rw[<-e1];exact ho) hc2 hne
 .obtain⟨c,hc,_,_,_,e⟩:=get j d hj;rcases e with e|⟨rfl,e,e'⟩
  .rw[e];exact E.inv j c hc
  .have:=E.inv j c hc;rw[e'] at this;rw[e];exact hy _ this
 .obtain⟨c,hc,_,e2,_⟩:=get j d hj;rw[e2];exact E.mine j c b hc hb
 .obtain⟨c,hc,_⟩:=get j d hj;obtain⟨c2,hc2,_⟩:=get l f hl;exact E.apart j c b l c2 hc hb hc2 hne
theorem HOK.mark{h:Hp}{n:Nat}{o:Bool}(H:HOK X ρ h w)(hk:h[k]?=some (some (@Chunk.mk Ext.none o n ps))):HOK X ρ (h.set k (some (@Chunk.mk (atX (ρ k)) o n ps))) w:=
 H.setX hk _ λS hS=>⟨rfl,hS⟩
theorem HOK.famNil{α:Type}{h:Hp}{n:Nat}{o:Bool}{enc:α->Nat->Value}(H:HOK X ρ h w)(hk:h[k]?=some (some (@Chunk.mk Ext.none o n ps))):HOK X ρ (h.set k (some (@Chunk.mk (famX m enc []) o n ps))) w:=
 H.setX hk _ λS hS=>⟨λb=>⟨λhb=>absurd hb (hS b),fun⟨q,hq,_⟩=>by cases hq⟩,yy,λq hq=>by cases hq⟩
abbrev atZ:Ext where
 inv:=λp S _=>p.2=0/\∀b,¬ S b
 keep:=λh _=>h
theorem q19{α:Type}{h:Hp}{v:Value}{n:Nat}{o:Bool}(m:Nat)(enc:α->Nat->Value)(hk:h[k]?=some (some (@Chunk.mk Ext.none o n ps)))(kk:N (EndN ss (h.set k (some (@Chunk.mk (famX m enc []) o n ps))) v K)):N (EndN ss h v K):=
 N.mk λX ρ w x T H hd=>N.out kk X ρ w x T (H.famNil hk) (hd.more (AgreeOn.refl _ _) λj hj=>hj.set)
theorem qip{h:Hp}{v:Value}{n:Nat}{o:Bool}(v':Nat×Nat->Value)(hk:h[k]?=some (some (@Chunk.mk Ext.none o n ps)))(hv:∀q ρ,ρ k=q->den ρ v=den ρ (v' q))(kk:∀q,N (EndN ss (h.set k (some (@Chunk.mk (atX q) o n ps))) (v' q) K)):N (EndN ss h v K):=
 N.mk λX ρ w x T H hd=>N.out (kk (ρ k)) X ρ w x T (H.mark hk) (λr hr=>by
  have h1:AgreeOn (Fil h) ρ r:=λi hi=>hr i hi.set
  rw[<-hv (ρ k) r (h1 k ⟨_,hk⟩)];exact hd r h1)
theorem qvr{α:Type}{h:Hp}{v:Value}{i n:Nat}{enc:α->Nat->Value}{F:List ((Nat×Nat)×α)}(a:α)(hm:0<m)(hn:0<n)(hi:h[i]?=some (some (@Chunk.mk (famX n enc F) true m ps)))(hk:h[k]?=some (some e))(hik:i≠k)(hkb:ss.length<=k)
  (hib:i<ss.length->∃s,ss[i]?=some s/\s.e.x≠Ext.none/\Selfish s.e.x) (hex:e.x=atX q) (heo:e.own=true) (hen:n<=e.n) (hef:∀j,j<n->e.f j=enc a j) (hpl:∀j,j<n->qbi (enc a j)=true)
  (hsc:∀(l:Nat)(d:Chunk),l≠k->h[l]?=some (some d)->∀j,j<d.n->∀ρ ρ',(∀l,l≠k->ρ' l=ρ l)->den1 ρ' (d.f j)=den1 ρ (d.f j)) (hv:qan v=true)
  (kk:(∀x∈F,x.1≠q)->N (EndN ss ((h.set i (some (@Chunk.mk (famX n enc ((q,a)::F)) true m ps))).set k none) v K)):N (EndN ss h v K):=
 N.mk λX ρ w x T H hd=>by
  have mi:May X (ρ i).1:=by
   by_cases hl:i<ss.length
   .obtain⟨s,h1,h2,h3⟩:=hib hl;exact T.mayX H h1 h2 h3
   .exact T.may H hi rfl hm Q8E
  have mk:May X (ρ k).1:=T.may H hk heo Q8E hkb;have H2:=H.famIn hm hn hi hk hik (by rw[T.n0];exact hkb) mi mk hex heo hen hef hpl hsc;have hne:∀x∈F,x.1≠q:=λy hy e'=>by
   obtain⟨S,E⟩:=H.ext;have FO:jho n enc F (S i) w:=E.inv i _ hi;have hρ:ρ k=q:=by have:=E.inv k e hk;rw[hex] at this;exact this.1
   have:=(E.apart i _ _ k e hi ((FO.dom _).2 ⟨y,hy,rfl⟩) hk (Ne.symm hik)).1;rw[hρ,e'] at this;exact this rfl
  exact N.out (kk hne) X ρ w x T H2 (λr hr=>by rw[qa0 hv,<-hd.self,qa0 hv])
end Go.Proofs.YtfkngpmgcimdbaaGreat.Sx


namespace Go.Proofs.YtfkngpmgcimdbaaGreat
open Go Go.RowKit Sx
variable{a:Nat}
theorem qyc(h:a<18446744073709551616):(BitVec.ofInt IntKind.u64.bits (a:Int)).toNat=a:=by
 rw[ze];show((a:Int)%18446744073709551616).toNat=a;omega
theorem qtx(h:a<18446744073709551616):IntKind.u64.wrap ((a:Nat):Int)=a:=by
 rw[xk];omega
theorem jpq{b:Nat}(ha:a<18446744073709551616)(hb:b<18446744073709551616):IntKind.u64.wrap ((BitVec.ofInt IntKind.u64.bits (a:Int) ||| BitVec.ofInt IntKind.u64.bits (b:Int)).toNat:Nat)=((a ||| b:Nat):Int):=by
 rw[BitVec.toNat_or,qyc ha,qyc hb];exact qtx (Nat.or_lt_two_pow (n:=64) ha hb)
theorem jk9{b:Nat}(ha:a<18446744073709551616)(hb:b<18446744073709551616):IntKind.u64.wrap ((BitVec.ofInt IntKind.u64.bits (a:Int) &&& BitVec.ofInt IntKind.u64.bits (b:Int)).toNat:Nat)=((a &&& b:Nat):Int):=by
 grind[qyc,qtx,Nat.and_le_left]
theorem jj4(a n:Nat):IntKind.u64.wrap ((a:Int)*2^n)=((a*2^n%18446744073709551616:Nat):Int):=by
 rfl
abbrev noC:Chunk:=⟨false,0,[]⟩
abbrev wnC(o a:Bool)(l:Int)(s:Nat):Chunk:=⟨o,3,[(0,3,.agg ⟨[.bool a,xc l,.int .u64 (s:Int)]⟩)]⟩
def bitW(l q:Int):Nat:=if -je1 l q<0\/-je1 l q>=64 then 0 else 2^(-je1 l q).toNat
theorem qr5(l q:Int):bitW l q<18446744073709551616:=by
 unfold bitW;split
 .decide
 .have:(-je1 l q).toNat<64:=by omega
  exact yR Q8I this
structure Win where
 any:Bool
 last:Int
 seen:Nat
def Win.zero:Win:=⟨false,0,0⟩
def whear(W:Win)(q:Int):Int×Win:=
 if W.any=false then (0,⟨true,q,1⟩)
 else if je1 W.last q=32768 then (9,W)
 else if 0<je1 W.last q then (0,⟨true,q,(W.seen*2^(je1 W.last q).toNat%18446744073709551616) ||| 1⟩)
 else if bitW W.last q=0\/W.seen &&& bitW W.last q≠0 then (9,W)
 else (0,⟨true,W.last,W.seen ||| bitW W.last q⟩)
abbrev jpr(o:Bool)(W:Win):Chunk:=wnC o W.any W.last W.seen
abbrev winX(x:Ext)(W:Win):Chunk:=@Chunk.mk x true 3 [(0,3,.agg ⟨[.bool W.any,xc W.last,.int .u64 (W.seen:Int)]⟩)]
variable{ix:List (Nat×Nat)}
theorem jla{x y:Ext}{W:Win}:qbh ix (winX x W) (winX y W):=λj hj=>Q3p
variable{l:Int}
theorem jm7{o o' a:Bool}{s:Nat}:qbh ix (wnC o a l s) (wnC o' a l s):=λj hj=>Q3p
theorem jm8{x:Ext}{o a:Bool}{s:Nat}:qbh ix (winX x ⟨a,l,s⟩) (wnC o a l s):=λj hj=>Q3p
variable{c:Chunk}
theorem qjl{a:Bool}{s:Nat}{hp:Hp}{n:Nat}{x:Ext}(hh:hp[n]?=some (some c))(ho:c.own=true)(hn:3<=c.n)(h0:c.f 0=.bool a)(h1:c.f 1=xc l)(h2:c.f 2=.int .u64 (s:Int)):PostC ix hp n (winX x ⟨a,l,s⟩):=
 ⟨_,hh,λ_=>ho,hn,λj hj=>by
  match j,hj with
  | 0,_=>rw[h0];exact .plain rfl
  | 1,_=>rw[h1];exact .plain rfl
  | 2,_=>rw[h2];exact .plain rfl⟩
theorem q60(x:Ext)(W:Win)(q:Int)(i:Nat)(h:Hp)(hi:h[i]?=some (some (winX x W))):
  qae prog 110 [xd i,xc q] h (.int .u64 (bitW W.last q:Int)) [] [i]:=by
 obtain⟨a,l,s⟩:=W
 show qae _ _ _ h (.int .u64 (bitW l q:Int)) [] [i]
 refine qak (G:=tys) [⟨i,_,wnC false a l s,noC⟩] [] [xd 0,xc q] tysOK mixed func110 Q8F (call110) ⟨hi,xb⟩ ⟨⟨λh=>Q94,nlr _,jm8⟩,xb⟩ Q8K xb Q79 ?_
 have hd:=qx8 l q
 have en:IntKind.i64.wrap (0-je1 l q) = -je1 l q:=by rw[xw];omega
 repeat' (refine Ba ?_;first|refine Q55 ?_|refine Q51 ?_|refine Bb (qg7 _ _ _) ?_|with_reducible refine Bi (λhb=>?_) (λhb=>?_)|refine Q5x ?_|refine Bc xb ?_|exact Be|fail)
 .refine Ba ?_;simp only[en,xh] at hb;exact Q4V
 .refine Ba ?_;rename_i hb1;simp only[en,xh,xj] at hb hb1;exact Q4V
 .refine Ba ?_;rename_i hb1;simp only[en,xh,xj] at hb hb1;refine Bc (by rw[en];omega) ?_;have e:IntKind.u64.wrap (1*2^sh (IntKind.i64.wrap (0-je1 l q)) IntKind.u64)=(bitW l q:Int):=by
   rw[en];have e1:sh (-je1 l q) IntKind.u64=(-je1 l q).toNat:=by show min (-je1 l q).toNat 64=_;omega
   have e2:bitW l q=2^(-je1 l q).toNat:=by unfold bitW;rw[if_neg Q8E]
   have e3:=jj4 1 (-je1 l q).toNat;rw[e1];have hlt:=qr5 l q;rw[e2] at hlt ⊢;rw[Nat.one_mul,xv hlt] at e3;exact e3
  exact Q1h
theorem qhu(x:Ext)(W W':Win)(q e:Int)(i:Nat)(hs:W.seen<18446744073709551616)(hq:jgd q)(he:whear W q=(e,W'))(h:Hp)(hi:h[i]?=some (some (winX x W))):
  qae prog 83 [xd i,xc q] h (xc e) [(i,winX x W')] []:=by
 refine qaq (G:=tys) (λ_:Unit=>True) (λ_=>_) [⟨i,_,winX x W,winX x W'⟩] [] [xd 0,xc q] tysOK mixed func83 Q8F (call83) ⟨hi,xb⟩ ⟨⟨λh=>⟨rfl,nlr _⟩,nlr _,jla⟩,xb⟩ Q8K Q77 xb Q79 Opens.same ?_
 rintro⟨⟩ -
 have hd:=qx8 W.last q
 have hbw:=qr5 W.last q
 repeat' (refine Ba ?_;first|refine Q55 ?_|refine Q51 ?_|refine Bf (by simp only[xf hq];rfl) ?_|refine Bb (qcw _ _) ?_|refine Bb (qg7 _ _ _) ?_|refine Bb (q60 _ _ _ _ _ Q8F) ?_|with_reducible refine Bi (λhb=>?_) (λhb=>?_)|fail)
 .simp only[yG,yu] at hb;have e1:whear W q=(0,⟨true,q,1⟩):=by unfold whear;rw[if_pos hb]
  exact Q0H
 .rename_i hb1;simp only[yG,yc,yk] at hb hb1;have e1:whear W q=(9,W):=by unfold whear;rw[if_neg (by rw[hb1];decide),if_pos hb]
  exact Q0H
 .rename_i hb2 hb1;simp only[yG,yc,yk,beq_eq_false_iff_ne,xh,xR] at hb hb1 hb2;have e1:whear W q=(0,⟨true,q,(W.seen*2^(je1 W.last q).toNat%18446744073709551616) ||| 1⟩):=by unfold whear;rw[if_neg (by rw[hb2];decide),if_neg hb1,if_pos hb]
  rw[e1] at he;obtain⟨rfl,rfl⟩:=Prod.mk.inj he;refine Ba ?_;refine Bc Q8E ?_;have e2:IntKind.u64.wrap ((W.seen:Int)*2^sh (je1 W.last q) IntKind.u64)=((W.seen*2^(je1 W.last q).toNat%18446744073709551616:Nat):Int):=by
   rcases Int.le_total (je1 W.last q) 64 with h64|h64
   .have e3:sh (je1 W.last q) IntKind.u64=(je1 W.last q).toNat:=by show min (je1 W.last q).toNat 64=_;omega
    rw[e3];exact jj4 _ _
   .have e3:sh (je1 W.last q) IntKind.u64=64:=by show min (je1 W.last q).toNat 64=_;omega
    rw[e3,jj4];have e4:∀m:Nat,64<=m->W.seen*2^m%18446744073709551616=0:=λm hm=>by
     obtain⟨r,rfl⟩:=Nat.exists_eq_add_of_le hm;rw[x8,show(2:Nat)^64=18446744073709551616 by decide,<-x5,zg];exact Nat.mul_mod_left _ _
    rw[e4 64 (nlr _),e4 _ Q8E]
  rw[e2];have e5:IntKind.u64.wrap ((BitVec.ofInt IntKind.u64.bits ((W.seen*2^(je1 W.last q).toNat%18446744073709551616:Nat):Int) ||| BitVec.ofInt IntKind.u64.bits 1).toNat:Nat)=((W.seen*2^(je1 W.last q).toNat%18446744073709551616 ||| 1:Nat):Int):=jpq (b:=1) (xo _ Q8I) Q8I;repeat' (refine Ba ?_;first|refine Q55 ?_|refine Q51 ?_|refine Bn ?_|refine Q5x ?_|refine Bc ⟨qjl Q8F rfl (nlr _) (by exact congrArg Value.bool hb2) Q8F (by exact congrArg (Value.int IntKind.u64) e5),xb⟩ ?_|refine Q5c ?_|exact Be|fail)
 .rename_i hb3 hb2 hb1;simp only[yG,yc,yk,beq_eq_false_iff_ne,xh,xj,xR] at hb hb1 hb2 hb3;have hz:bitW W.last q=0:=by omega
  have e1:whear W q=(9,W):=by unfold whear;rw[if_neg (by rw[hb3];decide),if_neg hb2,if_neg hb1,if_pos (.inl hz)]
  exact Q0H
 .rename_i hb4 hb3 hb2 hb1;simp only[yG,yc,yk,beq_eq_false_iff_ne,xh,xj,xR,bne_iff_ne,ne_eq] at hb hb1 hb2 hb3 hb4;rw[jk9 hs hbw] at hb;have e1:whear W q=(9,W):=by unfold whear;rw[if_neg (by rw[hb4];decide),if_neg hb3,if_neg hb2,if_pos (.inr Q8E)]
  exact Q0H
 .rename_i hb4 hb3 hb2 hb1;simp only[yG,yc,yk,beq_eq_false_iff_ne,xh,xj,xR,bne_eq_false_iff_eq,ne_eq] at hb hb1 hb2 hb3 hb4;rw[jk9 hs hbw] at hb;have e1:whear W q=(0,⟨true,W.last,W.seen ||| bitW W.last q⟩):=by unfold whear;rw[if_neg (by rw[hb4];decide),if_neg hb3,if_neg hb2,if_neg Q8E]
  rw[e1] at he;obtain⟨rfl,rfl⟩:=Prod.mk.inj he;have e5:=jpq hs hbw;repeat' (refine Ba ?_;first|refine Q55 ?_|refine Q51 ?_|refine Bn ?_|refine Q5x ?_|refine Bc ⟨qjl Q8F rfl (nlr _) (by exact congrArg Value.bool hb4) Q8F (by exact congrArg (Value.int IntKind.u64) e5),xb⟩ ?_|refine Q5c ?_|exact Be|fail)
structure Ent where
 node:Int
 boot:Int
 heard:Int
 has:Bool
 x:Int
 y:Int
 a:Int
 b:Int
 d:Int
 when_:Int
abbrev _root_.Go.Proofs.Ez:=List (Int×Ent)
def Ent.zero:Ent:=⟨0,0,0,false,0,0,0,0,0,0⟩
abbrev entV(e:Ent):Value:=.agg ⟨[xc e.node,xc e.boot,xc e.heard,.bool e.has,xc e.x,xc e.y,xc e.a,xc e.b,xc e.d,xc e.when_]⟩
structure jjq where
 boot:Int
 left:Bool
 q:Nat×Nat
abbrev _root_.Go.Proofs.Fz:=List (Int×jjq)
abbrev jev(l:jjq):Value:=.agg ⟨[xc l.boot,.bool l.left,je0 l.q]⟩
structure jf8 where
 boot:Int
 left:Bool
 W:Win
structure Tbl where
 most:Int
 E:Ez
 lives:Int->Option jf8
def winF(W:Win)(j:Nat):Value:=match j with
 | 0=>.bool W.any
 | 1=>.int .i64 W.last
 | _=>.int .u64 (W.seen:Int)
structure LB where
 D:Fz
 F:List ((Nat×Nat)×Win)
def qa5(lv:Int->Option jf8)(β:LB):Prop:=
 (∀n,dGet β.D n=none->lv n=none)/\(∀n r,dGet β.D n=some r->∃W,(r.q,W)∈β.F/\lv n=some ⟨r.boot,r.left,W⟩)/\
 ∀n m r s,dGet β.D n=some r->dGet β.D m=some s->r.q=s.q->n=m
abbrev mainC(F:List ((Nat×Nat)×Win))(most:Int):Chunk:=@Chunk.mk (famX 3 winF F) true 3 [(0,3,.agg ⟨[xc most,.map (some 1),.map (some 2)]⟩)]
abbrev jf9(T:Tbl)(β:LB):Hp:=[some (mainC β.F T.most),some (mapC entV T.E),some (mapC jev β.D)]
abbrev tblC(T:Tbl):Chunk:=packC (qa5 T.lives) (jf9 T)
def Tbl.new(most:Int):Tbl:=⟨max 1 (min most 64),[],λ_=>none⟩
theorem q61{F:List ((Nat×Nat)×Win)}{most:Int}{i j:Nat}(h0:c.f 0=xc most)(h1:c.f 1=.map (some i))(h2:c.f 2=.map (some j))(hi:ixK ix 1=some i)(hj:ixK ix 2=some j):∀l,l<3->Re1 ix (c.f l) ((mainC F most).f l):=λl hl=>by
 match l,hl with
 | 0,_=>rw[h0];exact .plain rfl
 | 1,_=>rw[h1];exact .map hi
 | 2,_=>rw[h2];exact .map hj
theorem qck{ss:List jeo}{h:Hp}{v:Value}{K:Value->Hp->Prop}(T:Tbl)(β:LB)(m i j:Nat)(keep:List Nat)(hpc:∀l,(l=m\/l=i\/l=j)->l<ss.length->∃s,ss[l]?=some s/\s.e.x≠Ext.none/\Selfish s.e.x)(hbs:∀i,i<ss.length->i=m\/i∈keep)(hok:qa5 T.lives β)
  (hm:h[m]?=some (some c)) (ho:c.own=true) (hn:c.n=3) (hx:c.x=famX 3 winF β.F) (h0:c.f 0=xc T.most) (h1:c.f 1=.map (some i)) (h2:c.f 2=.map (some j)) (hi:h[i]?=some (some (mapC entV T.E))) (hj:h[j]?=some (some (mapC jev β.D))) (hd:m≠i/\m≠j/\i≠j)
  (hkk:∀k∈keep,k≠m/\k≠i/\k≠j) (hkd:∀k∈keep,∀(d:Chunk),h[k]?=some (some d)->∀l,l<d.n->Safe1 (qcm (tblC T) m keep h 0) (d.f l))
  (hv:∀ρ ρ',AgreeOn (Fil (qcm (tblC T) m keep h 0)) ρ ρ'->den ρ' v=den ρ v) (kk:K v (qcm (tblC T) m keep h 0)):N (EndN ss h v K):=by
 refine qyb (ok:=qa5 T.lives) (hB:=jf9 T) β m [(0,m),(1,i),(2,j)] keep (λk l hk hl=>hpc l ?_ hl) hbs hok rfl ⟨_,rfl⟩ ?_ rfl ?_ (λk hk l i' hm'=>?_) hkd hv (xg.1 hm).1 kk
 .grind
 .have nb:∀a b:Nat,a≠b->Nat.beq a b=false:=λa b hab=>by
   grind[xN]
  grind[jhp]
 .intro k d hk
  match k,hk with
  | 0,hk=>
   obtain rfl:_=d:=by simpa using hk
   exact⟨m,c,rfl,hm,ho,by rw[hn];exact nlr _,q61 h0 h1 h2 rfl rfl,.inr hx.symm,.inl Q8E⟩
  | 1,hk=>
   obtain rfl:_=d:=by simpa using hk
   exact⟨i,_,rfl,hi,rfl,nlr _,nzj,.inr rfl,.inr qjx⟩
  | 2,hk=>
   obtain rfl:_=d:=by simpa using hk
   exact⟨j,_,rfl,hj,rfl,nlr _,nzj,.inr rfl,.inr qjx⟩
  | k+3,hk=>simp at hk
 .grind
theorem q2a:qa5 (λ_=>none) ⟨[],[]⟩:=⟨λ_ _=>rfl,λ_ _ h=>by simp[dGet] at h,λ_ _ _ _ h=>by simp[dGet] at h⟩
theorem qbt{v:Value}(h:qan v=true){F:Nat->Prop}:∀ρ ρ',AgreeOn F ρ ρ'->den ρ' v=den ρ v:=by grind[qa0]
theorem qnv(T:Tbl):(tblC T).x≠Ext.none:=λe=>by
 have h1:∀p S w,(tblC T).x.inv p S w->S p.1:=qba;exact Q4Y
theorem qcg{i:Nat}{T T':Tbl}:∀l,(l=0\/l=1\/l=2)->l<[(⟨i,tblC T,tblC T,tblC T'⟩:jeo)].length->∃s,[(⟨i,tblC T,tblC T,tblC T'⟩:jeo)][l]?=some s/\s.e.x≠Ext.none/\Selfish s.e.x:=λl _ hl=>by
 obtain rfl:l=0:=by simpa using hl
 exact⟨_,rfl,qnv T,qba⟩
theorem jg6{h:Hp}{T:Tbl}{m:Nat}:∀k∈([]:List Nat),∀(d:Chunk),h[k]?=some (some d)->∀l,l<d.n->Safe1 (qcm (tblC T) m [] h 0) (d.f l):=by simp
theorem jm9(most:Int)(k:Nat)(h:Hp)(hk:h[k]?=some none):
  qae prog 26 [xc most] h (xd k) [(k,tblC (Tbl.new most))] []:=by
 refine qaq (G:=tys) (λ_:Unit=>True) (λ_=>[]) [] [⟨k,10,tblC (Tbl.new most)⟩] [xc most] tysOK mixed func26 Q8F (call26) xb xb xb xb ⟨⟨hk,rfl,.inr qba,by simp⟩,xb⟩ ⟨.plain rfl,xb⟩ Opens.same ?_
 rintro⟨⟩ -
 repeat' (refine Ba ?_;first|refine Q55 ?_|refine Q51 ?_|refine Q63 ?_|fail)
 refine Ba ?_
 refine qx7 entV ?_
 repeat' (refine Ba ?_;first|refine Q55 ?_|refine Q51 ?_|refine Q63 ?_|fail)
 refine Ba ?_
 refine qx7 jev ?_
 repeat' (refine Ba ?_;first|refine Q55 ?_|refine Q51 ?_|refine Q63 ?_|fail)
 refine Ba ?_
 refine q19 3 winF (k:=10) Q8F ?_
 refine qck (Tbl.new most) ⟨[],[]⟩ 10 8 9 [] (λ_ _ hl=>absurd hl Q8P) (λi hi=>absurd hi Q8P) q2a Q8F Q8F Q8F Q8F Q8F Q8F Q8F Q8F Q8F Q8I (λk hk=>by cases hk) jg6 (λρ ρ' ha=>by have:=ha 10 ⟨_,rfl⟩;simp[den,den2,den1,den0,jfd,this]) ?_
 refine Bc (.one (.ptr rfl)) ?_
 refine Bc xb ?_
 refine Bc ⟨⟨xn _,_,rfl,id,nlr _,nzj⟩,xb⟩ ?_
 refine Bc Q8w ?_
 exact Be
end Go.Proofs.YtfkngpmgcimdbaaGreat


namespace Go.Proofs
open Go.Shelf
def Tryz.keysA_ren:Go.Shelf.Ren:=⟨fun|7=>90|10=>129|n=>n,fun|23=>128|26=>3|3=>114|28=>167|0=>0|27=>166|33=>68|4=>4|n=>n,fun|n=>n⟩
theorem Tryz.keysA:Go.Proofs.SlLaysZI.n7 prog Tryz.keysA_ren:={
 mixed:=by kernel_rfl
 f7:=⟨Tryz.f90.name,by decide,func90.trans (congrArg some Q8J)⟩
 f10:=⟨Tryz.f129.name,by decide,func129.trans (congrArg some Q8J)⟩
 t0:=underlying0
 a0:=Tryz.isAgg0
 z0:=Tryz.sizeOf0
 v0:=Tryz.zeroValue0
 t4:=underlying4
 a4:=Tryz.isAgg4
 z4:=Tryz.sizeOf4
 v4:=Tryz.zeroValue4
 t23:=underlying128
 a23:=Tryz.isAgg128
 z23:=Tryz.sizeOf128
 v23:=Tryz.zeroValue128
 t26:=underlying3
 a26:=Tryz.isAgg3
 z26:=Tryz.sizeOf3
 v26:=Tryz.zeroValue3
 t27:=underlying166
 a27:=Tryz.isAgg166
 z27:=Tryz.sizeOf166
 v27:=Tryz.zeroValue166
 t28:=underlying167
 a28:=Tryz.isAgg167
 z28:=Tryz.sizeOf167
 v28:=Tryz.zeroValue167
 t33:=underlying68
 a33:=Tryz.isAgg68
 z33:=Tryz.sizeOf68
 v33:=Tryz.zeroValue68 }
def Tryz.sortedA_ren:Go.Shelf.Ren:=⟨fun|6=>89|8=>127|9=>128|11=>149|13=>151|12=>150|23=>184|24=>185|14=>175|15=>176|16=>177|17=>178|18=>179|19=>180|20=>181|21=>182|22=>183|25=>201|26=>202|27=>203|28=>204|29=>205|30=>140|31=>222|n=>n,fun|26=>3|28=>167|24=>92|0=>0|3=>3|37=>150|48=>104|50=>58|4=>4|40=>248|39=>247|45=>144|5=>5|9=>9|51=>272|55=>276|57=>298|58=>299|33=>68|n=>n,fun|n=>n⟩
theorem Tryz.sortedA:Go.Proofs.SlLaysZI.n6 prog Tryz.sortedA_ren:={
 mixed:=by kernel_rfl
 f6:=⟨Tryz.f89.name,by decide,func89.trans (congrArg some Q8J)⟩
 f8:=⟨Tryz.f127.name,by decide,func127.trans (congrArg some Q8J)⟩
 f11:=⟨Tryz.f149.name,by decide,func149.trans (congrArg some Q8J)⟩
 t0:=underlying0
 a0:=Tryz.isAgg0
 z0:=Tryz.sizeOf0
 v0:=Tryz.zeroValue0
 t24:=underlying92
 a24:=Tryz.isAgg92
 z24:=Tryz.sizeOf92
 v24:=Tryz.zeroValue92
 t26:=underlying3
 a26:=Tryz.isAgg3
 z26:=Tryz.sizeOf3
 v26:=Tryz.zeroValue3
 t28:=underlying167
 a28:=Tryz.isAgg167
 z28:=Tryz.sizeOf167
 v28:=Tryz.zeroValue167
 i26:=by kernel_rfl }
def Tryz.sortA_ren:Go.Shelf.Ren:=⟨fun|5=>128|8=>151|7=>150|19=>184|20=>185|10=>175|11=>176|12=>177|13=>178|14=>179|15=>180|16=>181|17=>182|18=>183|30=>201|31=>202|32=>203|33=>204|34=>205|35=>140|40=>222|n=>n,fun|23=>92|25=>3|3=>3|32=>150|22=>92|0=>0|44=>104|46=>58|4=>4|36=>248|35=>247|41=>144|5=>5|9=>9|53=>272|57=>276|63=>298|64=>299|n=>n,fun|n=>n⟩
theorem Tryz.sortA:Go.Proofs.SlLaysM.n5 prog Tryz.sortA_ren:={
 mixed:=by kernel_rfl
 f5:=⟨Tryz.f128.name,by decide,func128.trans (congrArg some Q8J)⟩
 f7:=⟨Tryz.f150.name,by decide,func150.trans (congrArg some Q8J)⟩
 f8:=func151.trans (congrArg some Q8J)
 f10:=⟨Tryz.f175.name,by decide,func175.trans (congrArg some Q8J)⟩
 f11:=⟨Tryz.f176.name,by decide,func176.trans (congrArg some Q8J)⟩
 f12:=⟨Tryz.f177.name,by decide,func177.trans (congrArg some Q8J)⟩
 f13:=⟨Tryz.f178.name,by decide,func178.trans (congrArg some Q8J)⟩
 f14:=⟨Tryz.f179.name,by decide,func179.trans (congrArg some Q8J)⟩
 f15:=⟨Tryz.f180.name,by decide,func180.trans (congrArg some Q8J)⟩
 f16:=⟨Tryz.f181.name,by decide,func181.trans (congrArg some Q8J)⟩
 f17:=⟨Tryz.f182.name,by decide,func182.trans (congrArg some Q8J)⟩
 f18:=⟨Tryz.f183.name,by decide,func183.trans (congrArg some Q8J)⟩
 f19:=func184.trans (congrArg some Q8J)
 f20:=func185.trans (congrArg some Q8J)
 f30:=⟨Tryz.f201.name,by decide,func201.trans (congrArg some Q8J)⟩
 f31:=func202.trans (congrArg some Q8J)
 f32:=func203.trans (congrArg some Q8J)
 f33:=⟨Tryz.f204.name,by decide,func204.trans (congrArg some Q8J)⟩
 f34:=⟨Tryz.f205.name,by decide,func205.trans (congrArg some Q8J)⟩
 f35:=⟨Tryz.f140.name,by decide,func140.trans (congrArg some Q8J)⟩
 f40:=⟨Tryz.f222.name,by decide,func222.trans (congrArg some Q8J)⟩
 t0:=underlying0
 a0:=Tryz.isAgg0
 z0:=Tryz.sizeOf0
 v0:=Tryz.zeroValue0
 t3:=underlying3
 a3:=Tryz.isAgg3
 z3:=Tryz.sizeOf3
 v3:=Tryz.zeroValue3
 t4:=underlying4
 a4:=Tryz.isAgg4
 z4:=Tryz.sizeOf4
 v4:=Tryz.zeroValue4
 t5:=underlying5
 a5:=Tryz.isAgg5
 z5:=Tryz.sizeOf5
 v5:=Tryz.zeroValue5
 t9:=underlying9
 a9:=Tryz.isAgg9
 z9:=Tryz.sizeOf9
 v9:=Tryz.zeroValue9
 t22:=underlying92
 a22:=Tryz.isAgg92
 z22:=Tryz.sizeOf92
 v22:=Tryz.zeroValue92
 t23:=underlying92
 a23:=Tryz.isAgg92
 z23:=Tryz.sizeOf92
 v23:=Tryz.zeroValue92
 t25:=underlying3
 a25:=Tryz.isAgg3
 z25:=Tryz.sizeOf3
 v25:=Tryz.zeroValue3
 t32:=underlying150
 a32:=Tryz.isAgg150
 z32:=Tryz.sizeOf150
 v32:=Tryz.zeroValue150
 t35:=underlying247
 a35:=Tryz.isAgg247
 z35:=Tryz.sizeOf247
 v35:=Tryz.zeroValue247
 t36:=underlying248
 a36:=Tryz.isAgg248
 z36:=Tryz.sizeOf248
 v36:=Tryz.zeroValue248
 t41:=underlying144
 a41:=Tryz.isAgg144
 z41:=Tryz.sizeOf144
 v41:=Tryz.zeroValue144
 t44:=underlying104
 a44:=Tryz.isAgg104
 z44:=Tryz.sizeOf104
 v44:=Tryz.zeroValue104
 t46:=underlying58
 a46:=Tryz.isAgg58
 z46:=Tryz.sizeOf58
 v46:=Tryz.zeroValue58
 t53:=underlying272
 a53:=Tryz.isAgg272
 z53:=Tryz.sizeOf272
 v53:=Tryz.zeroValue272
 t57:=underlying276
 a57:=Tryz.isAgg276
 z57:=Tryz.sizeOf276
 v57:=Tryz.zeroValue276
 t63:=underlying298
 a63:=Tryz.isAgg298
 z63:=Tryz.sizeOf298
 v63:=Tryz.zeroValue298
 t64:=underlying299
 a64:=Tryz.isAgg299
 z64:=Tryz.sizeOf299
 v64:=Tryz.zeroValue299 }
end Go.Proofs


namespace Go.Proofs.YtfkngpmgcimdbaaGreat
open Go Go.RowKit Sx
theorem HOK.newB{X:Ctx}{ρ:Rz}{h:Hp}{w w':World}{i g:Nat}{d:Chunk}(H:HOK X ρ h w)(hi:h[i]?=some none)(hB:Below w.heap.size w w')(hg:w.heap.size<=g/\g<w'.heap.size)(hx:d.x=Ext.none)
  (hc:∀j,j<d.n->w'.cell? ⟨g,j,none⟩=some (d.f j)/\qbi (d.f j)=true/\w'.frozen? ⟨g,j,none⟩=false):∃ρ',AgreeOn (Fil h) ρ ρ'/\ρ' i=(g,0)/\HOK X ρ' (h.set i (some d)) w':=by
 have H2:=H.frame hB
 obtain⟨S,E⟩:=H.ext
 obtain⟨S2,E2⟩:=H2.ext
 have hl:=(xg.1 hi).1
 have nf:¬ Fil h i:=fun⟨d,hd⟩=>by rw[hi] at hd;cases hd
 let ρ':Nat->Nat×Nat:=λk=>if k=i then (g,0) else ρ k
 have hag:AgreeOn (Fil h) ρ ρ':=λk hk=>by
  grind
 have hρi:ρ' i=(g,0):=if_pos rfl
 have hρk:∀k,k≠i->ρ' k=ρ k:=λk hk=>if_neg hk
 have get:∀k e,(h.set i (some d))[k]?=some (some e)->(k=i/\e=d)\/(k≠i/\h[k]?=some (some e)):=λk e hk=>by
  grind
 have fil:∀k,Fil h k->Fil (h.set i (some d)) k:=λk hk=>hk.set
 refine⟨ρ',hag,hρi,H2.evo,λk hk=>⟨fil k (H2.base k hk).1,?_⟩,λk e hk=>?_,λk e hk j hj=>?_,λk e hk hoe j hj=>?_,λk e l f hk hoe hlf hne=>?_,?_⟩
 .rw[hag k (H2.base k hk).1];exact(H2.base k hk).2
 .exact Q4a
 .rcases get k e hk with ⟨rfl,rfl⟩|⟨hne,hk⟩
  .grind[Den1.plain]
  exact Q4i
 .rcases get k e hk with ⟨rfl,rfl⟩|⟨hne,hk⟩
  .rw[hρi];exact⟨by simpa using (hc j hj).2.2,.inl (xC H.evo.size hg.1)⟩
  .rw[hρk k hne];exact H2.own _ _ hk hoe j hj
 .exact Q2N
 .refine⟨λk b=>k≠i/\S k b,λk e hk=>?_,λk e b hk hS=>?_,λk e b l f hk hS hl' hne=>?_⟩
  .rcases get k e hk with ⟨rfl,rfl⟩|⟨hne,hk⟩
   .rw[hx];exact λb hb=>hb.1 rfl
   .have:(λb=>k≠i/\S k b)=S k:=by funext b;exact propext ⟨λh=>h.2,λh=>⟨hne,h⟩⟩
    exact Q47
  .rcases get k e hk with ⟨rfl,rfl⟩|⟨hne,hk⟩
   .omega
   exact Q49
  .rcases get k e hk with ⟨rfl,rfl⟩|⟨hk1,hk⟩
   .omega
   .have hlt:=(E.mine k e b hk hS.2).2.1;exact Q3K
theorem wfI{a:Int}(h : -9223372036854775808<=a/\a<=9223372036854775807):(Lit.int .i64 a).wf=true:=by
 have h1:IntKind.min .i64 = -9223372036854775808:=by decide
 have h2:IntKind.max .i64=9223372036854775807:=by decide
 simp only[Lit.wf,h1,h2,xp,xh];exact h
theorem Tryz.sortsA(m:Nat):AnyZI.SortsIn prog Tryz.sortedA_ren Fence.wide m:=
 ⟨λblk off cap ss W hH hblk hsz=>callsIn_wide.2 (AnyM.slices_Sort_int Tryz.sortA blk off cap ss W hH hblk hsz),
  λp cap W=>callsIn_wide.2 (AnyM.slices_Sort_int_none Tryz.sortA p cap W)⟩
abbrev q5e:FuncId:=90
abbrev qqg:FuncId:=129
abbrev qty:FuncId:=89
theorem ja4(mb:Option Nat)(W:World):Calls prog q5e #[.map mb] W λe w'=>e=.returned (.func (.func qqg) #[] #[.pointer (some ⟨W.heap.size,0,none⟩)])/\w'=W.alloc (.cells #[.map mb] 128):=
 callsIn_wide.1 (AnyZI.keys_in Tryz.keysA Fence.wide 5 xb rfl mb W)
theorem qjm{H:Type}:∀l:List (Lit×DataW H),(l.foldr DataW.insert []).Perm l
 | []=>.nil
 | x::l=>(WideShapes.insert_perm x _).trans ((qjm l).cons x)
abbrev leZ:Int->Int->Bool:=λx y=>decide (x<=y)
def sortK{α:Type}(D:List (Int×α)):List Int:=(D.map (·.1)).mergeSort leZ
variable{α:Type}
theorem qqh(D:List (Int×α)):(sortK D).length=D.length:=by simp[sortK]
theorem qvs(D:List (Int×α)):(sortK D).Perm (D.map (·.1)):=List.mergeSort_perm _ _
theorem q2b{enc:α->Value}(D:List (Int×α))(B b:Nat)(W:World)(hB:B<W.heap.size)(hc:W.cell? ⟨B,0,none⟩=some (.map (some b))){es:Array MapEntry}{clock:Nat}(hb:W.heap[b]?=some (.map es clock))(M:MapIs enc D es clock)(hl:D.length<=100000):
  Calls prog qty #[.func (.func qqg) #[] #[.pointer (some ⟨B,0,none⟩)]] W λe w'=>∃v,e=.returned v/\w'.ownsRow W.heap.size 3 1 v D.length ((sortK D).map encZ)/\(v=.slice none 0 0↔D=[])/\Below W.heap.size W w':=by
 let R:Value->Option (DataW Unit×List MemPlace):=λ_=>some (.nil,[])
 let D0:DataW Unit:=.map ((es.toList.map (Go.WideElems.rg prog 3 R)).foldr DataW.insert [])
 have hk:=underlying3
 have hrd:∀x∈es.toList,∃k,x.key=.int .i64 k/\Go.WideElems.rd prog 3 R x=some (.int .i64 k,.nil):=λx hx=>by
  have:(x.key,x.val)∈es.toList.map (λe=>(e.key,e.val)):=xE.2 ⟨x,hx,rfl⟩;rw[M.ents] at this;obtain⟨q,hq,e⟩:=xE.1 this;have e1:=(Prod.mk.inj e).1.symm;have hw:=M.wf q hq;refine⟨q.1,e1,?_⟩;unfold Go.WideElems.rd;rw[e1,Maps.keyOf_int_mk hk (wfI hw)];rfl
 have hsz:=M.size
 have hown:W.ownsMap prog 3 R b es.size D0:=⟨es,clock,hb,⟨by rw[hsz];exact xC hl Q8I,M.stamped,λx hx=>by obtain⟨k,_,h2⟩:=hrd x hx;exact⟨_,h2⟩⟩,nlr _,rfl⟩
 have hD0:Maps.size D0=D.length:=by
  show((es.toList.map (Go.WideElems.rg prog 3 R)).foldr DataW.insert []).length=_;rw[(qjm _).length_eq];simp[hsz]
 have hkeys:(intKeys D0).Perm (D.map (·.1)):=by
  show(((es.toList.map (Go.WideElems.rg prog 3 R)).foldr DataW.insert []).map λp=>Go.intOf p.1).Perm _;refine((qjm _).map _).trans ?_;have e1:((es.toList.map (Go.WideElems.rg prog 3 R)).map λp=>Go.intOf p.1)=(es.toList.map λe=>e.key).map λv=>match v with|.int _ a=>a|_=>0:=by
   rw[List.map_map,List.map_map];refine yp λx hx=>?_
   obtain⟨k,h1,h2⟩:=hrd x hx;simp only[Function.comp_def,Go.WideElems.rg,h2,h1,Option.getD_some,Go.intOf]
  have e2:es.toList.map (λe=>e.key)=D.map λq=>(.int .i64 q.1:Value):=Q4g
  rw[e1,e2,List.map_map];exact .refl _
 have hseq:=AnyZI.keys_gives (ρ:=Tryz.keysA_ren) { Tryz.keysA with } Fence.wide 2 xb rfl Q8E B b es.size D0 W hB hc hown
 have cS:=AnyZI.sorted_in Tryz.sortedA Fence.wide 5 xb xb xb xb rfl Q8E (Tryz.sortsA _) (enters_of func128 Q8J rfl) qqg #[.pointer (some ⟨B,0,none⟩)] trivial (enters_of func129 Q8J rfl) _ _ (by rw[hD0];exact xC hl Q8I) (by rw[hD0];omega) W hseq
 refine(callsIn_wide.1 cS).mono ?_
 rintro e w' ⟨v,ss,rfl,hS,hrow,hnil,hbel⟩
 have hp:ss.Perm (D.map (·.1)):=hS.trans hkeys
 have hlen:ss.length=D.length:=by rw[hp.length_eq];simp
 have hsort:ss.mergeSort (λx y=>decide (x<=y))=sortK D:=mergeSort_of_perm_i hp
 rw[hsort,hlen] at hrow
 refine⟨v,rfl,hrow,hnil.trans ⟨λh=>?_,λh=>?_⟩,hbel⟩
 .rw[h] at hlen;exact y7.1 hlen.symm
 .rw[h] at hlen;exact y7.1 hlen
abbrev jps(k:Nat):Value:=.func (.func qqg) ⟨[]⟩ ⟨[xd k]⟩
abbrev jlb(i:Nat):Chunk:=@Chunk.mk atZ true 1 [(0,1,.map (some i))]
theorem qyd(i k:Nat)(c:Chunk)(h:Hp)(hi:h[i]?=some (some c))(hk:h[k]?=some none):qae prog q5e [.map (some i)] h (jps k) [(k,jlb i)] [i]:=λh₂ hr hm X ρ w xs H hx=>by
 have hi2:h₂[i]?=some (some c):=(hr i Q8P).trans hi;have hk2:h₂[k]?=some none:=(hm _ Q7d).trans hk;obtain⟨x,rfl⟩:∃x,xs=[x]:=by
  match xs,hx with
  | [x],_=>exact⟨x,rfl⟩
 have hx1:x=.map (some (ρ i).1):=hx.1.self.symm;refine .inr ⟨call90 _ w,?_⟩;rw[hx1];refine(ja4 (some (ρ i).1) w).mono ?_;rintro e w' ⟨rfl,rfl⟩;obtain⟨ρ',ha,hρ,H'⟩:=H.alloc (c:=⟨true,1,[(0,1,.map (some i))]⟩) (xs:=#[.map (some (ρ i).1)]) (ty:=128) hk2 rfl (λj y hy=>by
  cases j with
  | zero=>
   simp at hy;subst hy;exact λr hr=>by
    have:=hr i ⟨c,hi2⟩;show den1 r (.map (some i))=_;simp[den1,den0,this]
  | succ j=>simp at hy)
 have H3:=H'.setX (k:=k) (xG (xg.1 hk2).1) atZ λS hS=>⟨by rw[hρ],hS⟩
 rw[yX] at H3;refine⟨_,rfl,ρ',ha,H3,λr hr=>?_⟩;have:=hr k ⟨jlb i,by show(h₂.set k _)[k]?=_;rw[xG (xg.1 hk2).1]⟩;simp[den,den2,den1,den0,jfd,this,hρ]
abbrev jgu(l:List Int):Chunk:=⟨true,l.length,[(0,l.length,.agg ⟨l.map (Value.int .i64)⟩)]⟩
theorem qr6{l:List Int}{j:Nat}{x:Int}(h:l[j]?=some x):(jgu l).f j=xc x:=by
 have hl:=(xg.1 h).1;show qbf [(0,l.length,.agg ⟨l.map (Value.int .i64)⟩)] j=_;rw[qar,if_pos Q8E];simp[cellIn,h]
def jna{α:Type}(D:List (Int×α))(k:Nat)(v:Value)(ms:Mz):Prop:=
 (D=[]/\v=.slice none 0 0/\ms=[])\/∃cap,0<D.length/\D.length<=cap/\v=.slice (some ⟨k,0,some 0⟩) D.length cap/\ms=[(k,jgu (sortK D))]
theorem qnw{enc:α->Value}(D:List (Int×α))(i l k:Nat)(c:Chunk)(h:Hp)(hi:h[i]?=some (some c))(hc:c.x=ji2 enc D)(hl:h[l]?=some (some (jlb i)))(hk:h[k]?=some none)(hlen:D.length<=100000):CallAll prog qty [jps l] h (jna D k):=λX ρ w xs H hx=>by
 obtain⟨x,rfl⟩:∃x,xs=[x]:=by
  match xs,hx with
  | [x],_=>exact⟨x,rfl⟩
 obtain⟨S,E⟩:=H.ext;have hz:(ρ l).2=0:=(E.inv l _ hl).1;have hx1:x=.func (.func qqg) #[] #[.pointer (some ⟨(ρ l).1,0,none⟩)]:=by
  rw[<-hx.1.self];simp[den,den2,den1,den0,jfd,hz]
 obtain⟨hS,es,clock,hb,M⟩:(∀b,S i b↔b=(ρ i).1)/\∃es clock,w.heap[(ρ i).1]?=some (.map es clock)/\MapIs enc D es clock:=by have:=E.inv i c hi;rw[hc] at this;exact this
 have hcell:w.cell? ⟨(ρ l).1,0,none⟩=some (.map (some (ρ i).1)):=by
  obtain⟨y,hy,hd⟩:=H.cell l _ hl 0 (by show 0<1;decide);rw[hz] at hy;have:=hd.self;rw[hy,<-this];rfl
 refine .inr ⟨call89 _ w,?_⟩;rw[hx1];refine(q2b D (ρ l).1 (ρ i).1 w (H.lt l _ hl) hcell hb M hlen).mono ?_;rintro e w' ⟨v,rfl,⟨_,hrow⟩,hnil,hbel⟩;rcases hrow with ⟨rfl,h0⟩|⟨g,cap,cur,rfl,hbase,hg,hcap,hmax,hsz,htake⟩
 .exact⟨_,rfl,.slice none 0 0,[],ρ,.inl ⟨y7.1 h0,rfl,rfl⟩,AgreeOn.refl _ _,H.frame hbel,λr _=>rfl⟩
 .have hpos:0<D.length:=by
   rcases xS D.length with h0|h0
   .have:=hnil.2 (y7.1 h0);cases this
   .exact h0
  have hlt:g<w'.heap.size:=(xY.1 hg).1;rw[x6] at htake hsz;obtain⟨ρ',ha,hρ,H'⟩:=HOK.newB (d:=jgu (sortK D)) H hk hbel ⟨hbase,hlt⟩ rfl (λj hj=>by
   have hj:j<(sortK D).length:=hj;have e1:(sortK D)[j]?=some (sortK D)[j]:=by simp[hj]
   rw[qr6 e1];refine⟨?_,rfl,by simp[World.frozen?,hg]⟩;have h1:(cur.toList.take D.length)[j]?=((sortK D).map encZ)[j]?:=by rw[htake]
   rw[List.getElem?_take_of_lt (by rw[<-qqh D];exact hj)] at h1;simp only[World.cell?,hg];simp only[Option.isSome_none,xz,if_false];rw[<-Array.getElem?_toList,h1];simp[hj])
  refine⟨_,rfl,.slice (some ⟨k,0,some 0⟩) D.length cap,[(k,jgu (sortK D))],ρ',.inr ⟨cap,hpos,hcap,rfl,rfl⟩,ha,H',λr hr=>?_⟩;have:=hr k ⟨jgu (sortK D),by show(h.set k _)[k]?=_;rw[xG (xg.1 hk).1]⟩;simp[den,den2,den1,den0,jfd,this,hρ]
end Go.Proofs.YtfkngpmgcimdbaaGreat


namespace Go.Proofs.YtfkngpmgcimdbaaGreat.Sx
open Go Go.RowKit
def ixI:List (Nat×Nat)->Nat->Option Nat
 | [],_=>none
 | (k,i)::r,n=>match Nat.beq i n with
  | true=>some k
  | false=>ixI r n
def qtz:List (Nat×Nat)->Nat->Nat->Bool
 | [],_,_=>true
 | (k,i)::r,a,b=>(!Nat.beq k a && !Nat.beq i b)&&qtz r a b
def jj5:List (Nat×Nat)->Bool
 | []=>true
 | (k,i)::r=>qtz r k i&&jj5 r
def qqi(ix:List (Nat×Nat)):Nat->Bool
 | 0=>true
 | n+1=>(match ixI ix n with
  | some k=>Nat.beq k n
  | none=>false)&&qqi ix n
def jic(h:Hp):List (Nat×Nat)->Bool
 | []=>true
 | (_,i)::r=>jip h i&&jic h r
theorem qjn:∀{ix:List (Nat×Nat)}{a b:Nat},qtz ix a b=true->∀k i,(k,i)∈ix->k≠a/\i≠b
 | [],_,_,_,k,i,h=>by simp at h
 | (x,y)::r,a,b,h,k,i,hm=>by
  simp only[qtz,xp,y8] at h;rcases xi.1 hm with e|hm
  .simp only[Prod.mk.injEq] at e;obtain⟨rfl,rfl⟩:=e;exact⟨λe=>by subst e;simp at h,λe=>by subst e;simp at h⟩
  .exact qjn h.2 k i hm
theorem qe7:∀{ix:List (Nat×Nat)},jj5 ix=true->∀k i k' i',(k,i)∈ix->(k',i')∈ix->((k=k'\/i=i')->k=k'/\i=i')
 | [],_,k,i,k',i',h,_,_=>by simp at h
 | (x,y)::r,hn,k,i,k',i',h,h',he=>by
  simp only[jj5,xp] at hn;rcases xi.1 h with e|hm<;>rcases xi.1 h' with e'|hm'
  .simp_all
  .grind[qjn]
  .grind[qjn]
  .exact qe7 hn.2 k i k' i' hm hm' he
theorem qr7:∀{ix:List (Nat×Nat)}{i k:Nat},ixI ix i=some k->(k,i)∈ix
 | [],_,_,h=>by cases h
 | (a,b)::r,i,k,h=>by
  simp only[ixI] at h;cases e:Nat.beq b i with
  | true=>
   simp_all
  | false=>rw[e] at h;exact yI _ (qr7 h)
theorem q5f:∀{ix:List (Nat×Nat)}{i k:Nat},jj5 ix=true->(k,i)∈ix->ixI ix i=some k
 | [],_,_,_,h=>by simp at h
 | (a,b)::r,i,k,hn,h=>by
  simp only[ixI];cases e:Nat.beq b i with
  | true=>
   grind[xN,qe7]
  | false=>
   simp only[jj5,xp] at hn;rcases xi.1 h with e'|hm
   .simp_all
   .exact q5f hn.2 hm
theorem qmq{ix:List (Nat×Nat)}:∀{n:Nat},qqi ix n=true->∀i,i<n->ixI ix i=some i
 | 0,_,i,h=>absurd h Q8E
 | n+1,hb,i,h=>by
  simp only[qqi,xp] at hb;rcases xP i n with h1|h1
  .exact qmq hb.2 i h1
  grind[xN]
theorem qk5{h:Hp}:∀{ix:List (Nat×Nat)},jic h ix=true->∀k i,(k,i)∈ix->Fil h i
 | [],_,k,i,hm=>by simp at hm
 | (a,b)::r,hb,k,i,hm=>by
  simp only[jic,xp] at hb;rcases xi.1 hm with e|hm
  .grind[filB_iff]
  .exact qk5 hb.2 k i hm
class XLe (c' c:Chunk):Prop where
 le:c'.x=Ext.none\/c'.x=c.x
instance XLe.none{o:Bool}{n:Nat}{ps:Pz}{c:Chunk}:XLe (@Chunk.mk Ext.none o n ps) c:=⟨.inl rfl⟩
instance XLe.refl(c:Chunk):XLe c c:=⟨.inr rfl⟩
structure ChunkReLe(ix:List (Nat×Nat))(c' c:Chunk):Prop where
 [x:XLe c' c]
 own:c'.own=true->c.own=true
 le:c'.n<=c.n
 re:∀j,j<c'.n->Re1 ix (c'.f j) (c.f j)
variable{ix:List (Nat×Nat)}
theorem ChunkReLe.same{o:Bool}{n:Nat}{ps:Pz}(hp:∀j,j<n->qbi (qbf ps j)=true):ChunkReLe ix ⟨o,n,ps⟩ ⟨o,n,ps⟩:=⟨id,nlr _,λj hj=>.plain (hp j hj)⟩
def jlc(ix:List (Nat×Nat)):List (Option Value)->List (Option Value)->Prop->Prop
 | [],[],A=>A
 | _::a,none::b,A=>jlc ix a b A
 | some u::a,some v::b,A=>N (Obl (Re ix v u) (jlc ix a b A))
 | _,_,_=>False
def jld(ix:List (Nat×Nat))(h:Hp):Hp->Nat->Prop->Prop
 | [],_,A=>A
 | none::b,i,A=>jld ix h b (i+1) A
 | some c'::b,i,A=>match ixI ix i with
  | some k=>jgo h k λc=>N (Obl (ChunkReLe ix c' c) (jld ix h b (i+1) A))
  | none=>False
def jle(n0:Nat)(ix:List (Nat×Nat))(st s:St)(A:Prop):Prop:=
 match st,s with
 | ⟨t,h⟩,⟨t',h'⟩=>match jj5 ix&&qqi ix n0&&jic h' ix with
  | true=>jlc ix t t' (jld ix h h' 0 A)
  | false=>False
theorem qnx{ix:List (Nat×Nat)}:∀{t t':List (Option Value)}{A:Prop},jlc ix t t' A->t'.length=t.length/\(∀(i:Nat)(v:Value),t'[i]?=some (some v)->∃u,t[i]?=some (some u)/\Re ix v u)/\A
 | [],[],A,h=>⟨rfl,λi v hi=>by simp at hi,h⟩
 | x::a,none::b,A,h=>by
  have h:jlc ix a b A:=by cases x<;>exact h
  obtain⟨h1,h2,h3⟩:=qnx h;refine⟨by simp[h1],λi v hi=>?_,h3⟩;cases i with
  | zero=>simp at hi
  | succ i=>simpa using h2 i v Q8U
 | some u::a,some v::b,A,h=>by
  obtain⟨e,h⟩:=N.out h;obtain⟨h1,h2,h3⟩:=qnx h;refine⟨by simp[h1],λi w hi=>?_,h3⟩;cases i with
  | zero=>simp at hi;subst hi;exact⟨u,rfl,e⟩
  | succ i=>simpa using h2 i w Q8U
 | none::a,some v::b,A,h=>h.elim
 | [],_::_,A,h=>h.elim
 | _::_,[],A,h=>by cases ‹Option Value›<;>exact h.elim
theorem qny{ix:List (Nat×Nat)}{h:Hp}:∀{b:Hp}{i0:Nat}{A:Prop},jld ix h b i0 A->(∀(i:Nat)(c':Chunk),b[i]?=some (some c')->∃k c,ixI ix (i0+i)=some k/\h[k]?=some (some c)/\ChunkReLe ix c' c)/\A
 | [],i0,A,hh=>⟨λi c' hi=>by simp at hi,hh⟩
 | none::b,i0,A,hh=>by
  obtain⟨h1,h2⟩:=qny (b:=b) hh;refine⟨λi c' hi=>?_,h2⟩;cases i with
  | zero=>simp at hi
  | succ i=>have:=h1 i c' Q8U;rwa[show i0+1+i=i0+(i+1) by omega] at this
 | some c0::b,i0,A,hh=>by
  simp only[jld] at hh;split at hh
  .rename_i k hk;obtain⟨c,hc,hh⟩:=qb5 hh;obtain⟨e,hh⟩:=N.out hh;obtain⟨h1,h2⟩:=qny (b:=b) hh;refine⟨λi c' hi=>?_,h2⟩;cases i with
   | zero=>simp at hi;subst hi;exact⟨k,c,hk,hc,e⟩
   | succ i=>have:=h1 i c' Q8U;rwa[show i0+1+i=i0+(i+1) by omega] at this
  .exact hh.elim
theorem qye{n0:Nat}{st s:St}{A:Prop}(hh:jle n0 ix st s A):Wkg n0 st s/\A:=by
 obtain⟨t,h⟩:=st;obtain⟨t',h'⟩:=s;simp only[jle] at hh;cases hb:jj5 ix&&qqi ix n0&&jic h' ix with
 | false=>rw[hb] at hh;exact hh.elim
 | true=>
  rw[hb] at hh;simp only[xp] at hb;obtain⟨a1,a2,hh⟩:=qnx hh;obtain⟨b1,hA⟩:=qny hh;refine⟨λX ρ a w hn R=>?_,hA⟩;subst hn;let ρ':Nat->Nat×Nat:=λi=>match ixI ix i with
   | some k=>ρ k
   | none=>ρ i
  have hρ:∀k i,(k,i)∈ix->ρ' i=ρ k:=λk i hm=>by
   show(match ixI ix i with|some k=>ρ k|none=>ρ i)=ρ k;rw[q5f hb.1.1 hm]
  have hr:∀r,AgreeOn (Fil h') ρ' r->∀k i,(k,i)∈ix->r i=ρ k:=λr hrr k i hm=>(hrr i (qk5 hb.2 k i hm)).trans (hρ k i hm)
  have hat:∀i c',h'[i]?=some (some c')->∃k c,(k,i)∈ix/\h[k]?=some (some c)/\ChunkReLe ix c' c:=λi c' hi=>by
   grind[qr7]
  refine⟨ρ',R.defers,R.size.trans a1.symm,λi v hi=>?_,R.heap.evo,λi hi=>?_,λi c' hi=>?_,λi c' hi j hj=>?_,λi c' hi ho j hj=>?_,λi c' j d' hi ho hj hne=>?_,?_⟩
  .obtain⟨u,hu,hre⟩:=a2 i v hi;obtain⟨x,hx,hd⟩:=R.slot i u hu;exact⟨x,hx,λr hrr=>(hre.den (hr r hrr)).trans hd.self⟩
  .have hm:=qr7 (qmq hb.1.2 i hi);exact⟨qk5 hb.2 i i hm,(hρ i i hm).trans (R.heap.base i hi).2⟩
  .obtain⟨k,c,hm,hc,_⟩:=hat i c' hi;rw[hρ k i hm];exact R.heap.lt k c hc
  .obtain⟨k,c,hm,hc,L⟩:=hat i c' hi;obtain⟨x,hx,hd⟩:=R.heap.cell k c hc j (xl hj L.le);rw[hρ k i hm];exact⟨x,hx,λr hrr=>((L.re j hj).den (hr r hrr)).trans hd.self⟩
  .obtain⟨k,c,hm,hc,L⟩:=hat i c' hi;rw[hρ k i hm];exact R.heap.own k c hc (L.own ho) j (xl hj L.le)
  .obtain⟨k,c,hm,hc,L⟩:=hat i c' hi;obtain⟨l,d,hm',hd,_⟩:=hat j d' hj;rw[hρ k i hm,hρ l j hm'];exact R.heap.sep k c l d hc (L.own ho) hd λe=>hne (qe7 hb.1.1 k i l j hm hm' (.inl e)).2
  .obtain⟨S,E⟩:=R.heap.ext;refine⟨λi b=>∃k c',(k,i)∈ix/\h'[i]?=some (some c')/\c'.x≠Ext.none/\S k b,λi c' hi=>?_,λi c' b hi hS=>?_,λi c' b j d' hi hS hj hne=>?_⟩
   .obtain⟨k,c,hm,hc,L⟩:=hat i c' hi;by_cases en:c'.x=Ext.none
    .rw[en];rintro b ⟨_,c'',_,hi',h1,_⟩;simp_all
    .have:(λb=>∃k c',(k,i)∈ix/\h'[i]?=some (some c')/\c'.x≠Ext.none/\S k b)=S k:=by
      funext b;refine propext ⟨?_,λhb=>⟨k,c',hm,hi,en,hb⟩⟩
      grind[qe7]
     rw[this,hρ k i hm];rcases L.x.le with e|e
     .simp_all
     .rw[e];exact E.inv k c hc
   .obtain⟨k,c,hm,hc,L⟩:=hat i c' hi;obtain⟨k',_,hm',_,_,hb'⟩:=hS;rw[<-(qe7 hb.1.1 k i k' i hm hm' (.inr rfl)).1] at hb';obtain⟨h1,h2,h3⟩:=E.mine k c b hc hb';have:=L.le
    grind
   .obtain⟨k,c,hm,hc,L⟩:=hat i c' hi;obtain⟨k',_,hm',_,_,hb'⟩:=hS;rw[<-(qe7 hb.1.1 k i k' i hm hm' (.inr rfl)).1] at hb';obtain⟨l,d,hml,hd,_⟩:=hat j d' hj;obtain⟨a1,a2⟩:=E.apart k c b l d hc hb' hd λe=>hne (qe7 hb.1.1 l j k i hml hm (.inl e)).2
    refine⟨by rw[hρ l j hml];exact a1,?_⟩
    grind[qe7]
def jj6{α:Type}(p:α->Prop)(K:List (Nat×Nat)->α->Prop):Prop:=∃y ix,p y/\K ix y
theorem Bk{α:Type}{p:α->Prop}{K:List (Nat×Nat)->α->Prop}(y:α)(ix:List (Nat×Nat))(hp:p y)(k:K ix y):N (jj6 p K):=N.mk ⟨y,ix,hp,k⟩
section
variable{P:Program}{G:Tys}
theorem qmr:∀{n:Nat}{K:Hp->Prop},qtn n K↔K (List.replicate n none)
 | 0,K=>Iff.rfl
 | n+1,K=>qmr (n:=n) (K:=λr=>K (none::r))
theorem appK_iff:∀{h:Hp}{n:Nat}{K:Hp->Prop},jjn h n K↔K (h++List.replicate n none)
 | [],n,K=>qmr
 | x::r,n,K=>appK_iff (h:=r) (n:=n) (K:=λr'=>K (x::r'))
theorem Bq{n0:Nat}{c:Code}{A:(Exit->St->Prop)->St->Prop}{Q:Exit->St->Prop}{t:List (Option Value)}{h:Hp}{α:Type}(inv:α->Prop)(μ:α->Nat)(sets:α->Vz)(hs:α->Mz)(x0:α)(ix0:List (Nat×Nat))(h0:inv x0)
  (hw:updK (maskC c) (sets x0) t 0 λt'=>jjn h 3 λhp=>jgp hp (hs x0) λh'=>jle n0 ix0 ⟨t,h⟩ ⟨t',h'⟩ (N True))
  (hr:∀x,inv x->updK (maskC c) (sets x) t 0 λt'=>jjn h 3 λhp=>jgp hp (hs x) λh'=>A (thenQ (λs=>N (jj6 (λy=>inv y/\μ y<μ x) λix y=>updK (maskC c) (sets y) t 0 λt''=>jjn h 3 λhp=>jgp hp (hs y) λh''=>jle n0 ix s ⟨t'',h''⟩ (N True))) Q) ⟨t',h'⟩):N (jhm P G n0 c A Q ⟨t,h⟩):=by
 refine N.mk ⟨α,λx=>⟨jku (maskC c) (sets x) t 0,modH (h++List.replicate 3 none) (hs x)⟩,inv,μ,λx s=>N (jj6 (λy=>inv y/\μ y<μ x) λix y=>updK (maskC c) (sets y) t 0 λt''=>jjn h 3 λhp=>jgp hp (hs y) λh''=>jle n0 ix s ⟨t'',h''⟩ (N True)),λx s hq=>?_,⟨x0,h0,(qye (setM_iff.1 (appK_iff.1 (updK_iff.1 hw)))).1⟩,λx hx=>setM_iff.1 (appK_iff.1 (updK_iff.1 (hr x hx)))⟩
 obtain⟨y,ix,⟨hy,hlt⟩,hk⟩:=N.out hq
 exact⟨y,hy,(qye (setM_iff.1 (appK_iff.1 (updK_iff.1 hk)))).1,hlt⟩
end
end Go.Proofs.YtfkngpmgcimdbaaGreat.Sx


namespace Go.Proofs.YtfkngpmgcimdbaaGreat
open Go.ChangeShapes Go.WideShapes Go.ChangeAt Go.RowKit
theorem q62{k:IntKind}{a b:Int}(h:a=b):Ending.returned (.int k a)=.returned (.int k b):=by rw[h]
theorem qqj(a:Addr)(n:Nat):(a.add n).block=a.block:=by unfold Addr.add;split<;>rfl
theorem qyf(a:Addr)(i j:Nat):(a.add i).add j=a.add (i+j):=by
 unfold Addr.add
 grind
theorem qr8(b i:Nat):(⟨b,0,none⟩:Addr).add i=⟨b,i,none⟩:=by
 unfold Addr.add;simp_all
def Seg(w:World)(B:Nat)(A:Option Addr)(m:Nat)(f:Nat->Value):Prop:=
 0<m->∃x,A=some x/\x.block<B/\∀j,j<m->w.cell? (x.add j)=some (f j)
section
variable{w w':World}{B B' m:Nat}{A:Option Addr}{f:Nat->Value}
theorem Seg.zero:Seg w B A 0 f:=λh=>absurd h Q8E
theorem Seg.keep(h:Seg w B A m f)(hk:∀p:Addr,p.block<B->w'.cell? p=w.cell? p):Seg w' B A m f:=λhm=>by
 obtain⟨x,e,hb,hc⟩:=h hm
 grind[qqj]
theorem Seg.below(h:Seg w B A m f)(hb:Below B w w'):Seg w' B A m f:=h.keep λ_ hp=>hb.cell hp
theorem Seg.more(h:Seg w B A m f)(hB:B<=B'):Seg w B' A m f:=λhm=>by
 obtain⟨x,e,hb,hc⟩:=h hm
 grind
theorem Seg.same{g:Nat->Value}(h:Seg w B A m f)(e:∀j,j<m->f j=g j):Seg w B A m g:=λhm=>by
 obtain⟨x,ex,hb,hc⟩:=h hm;simp_all
theorem Seg.less{n:Nat}(h:Seg w B A m f)(e:n<=m):Seg w B A n f:=λhm=>by
 obtain⟨x,ex,hb,hc⟩:=h Q8E
 grind
theorem Seg.alloc(h:Seg w B A m f)(hB:B<=w.heap.size)(o:Obj):Seg (w.alloc o) B A m f:=h.below ((Below.refl _ _).alloc hB o)
theorem Seg.drew(h:Seg w B A m f):Seg w.drew B A m f:=h
end
theorem Seg.new(w:World)(ty:TypeId)(vs:Array Value)(b:Nat)(hb:b=w.heap.size)(f:Nat->Value)(hf:∀j,j<vs.size->vs[j]?=some (f j)):
  Seg (w.alloc (.cells vs ty)) (w.heap.size+1) (some ⟨b,0,none⟩) vs.size f:=λ_=>
 ⟨_,rfl,by simp[hb],λj hj=>by rw[qr8,World.cell?_alloc_at _ _ _ _ hb];exact hf j hj⟩
section
variable{H:Type}{enc:TypeId×Value->H}{P:Program}
theorem qjy(hl:laidOutB P=true){W W':World}(bel:Below W.heap.size W W'):∀(ts:List TypeId)(vs:List Value)(ds:List (DataW H))(p:List MemPlace),
  (∀t∈ts,P.readableRec t=true/\t<P.types.size)->DataW.TrodAll enc P W 0 (λ_=>true) true ts vs ds p->DataW.TrodAll enc P W' 0 (λb=>decide (b<W.heap.size)) true ts vs ds p
 | [],vs,ds,p,_,h=>by
  obtain⟨rfl,rfl,rfl⟩:=trodAll_nil h;rfl
 | t::ts,vs,ds,p,ht,h=>by
  obtain⟨v,vs,d,ds,p,q,rfl,rfl,rfl,h0,hr⟩:=trodAll_cons h;have lt:∀x∈p,x.block<W.heap.size:=by obtain⟨m,hm⟩:=h0;exact DataW.trod_lt m _ _ _ hm
  exact trodAll_cons_mk (Below.trod hl (ht t Q8P).1 (ht t Q8P).2 h0 bel lt) (qjy hl bel ts vs ds q (λx hx=>ht x Q9U) hr)
theorem qk6:∀(ts:List TypeId)(vs:List Value)(ds:List (DataW H))(p:List MemPlace){w:World}{base:Nat}{sp:Nat->Bool}{hd:Bool},DataW.TrodAll enc P w base sp hd ts vs ds p->ds.length=ts.length
 | [],vs,ds,p,_,_,_,_,h=>by
  obtain⟨rfl,rfl,rfl⟩:=trodAll_nil h;rfl
 | t::ts,vs,ds,p,_,_,_,_,h=>by
  obtain⟨v,vs,d,ds,p,q,rfl,rfl,rfl,h0,hr⟩:=trodAll_cons h;simp[qk6 ts vs ds q hr]
end
theorem qvt{H:Type}{enc:TypeId×Value->H}{C:Checked}{os:Os}{f:FuncId}{fn:Func}{s:ChangeSpec}{tb:TypeId}
  (own:ownKnob C.prog.godebug=none) (started:os.Started) (noInit:C.prog.inits.idxOf? f=none) (hfn:C.prog.funcs[f]?=some fn)
  (hl:laidOutB C.prog=true) (hr:fn.params.toList.all (λt=>C.prog.readableRec t&&decide (t<C.prog.types.size))=true)
  (hres:fn.resultTypes = #[tb]) (hb:C.prog.underlying tb=some .bool) (hvars:s.vars=[])
  (hspec:∀ds:List (DataW H),ds.length=fn.params.toList.length->s.fn H ds={ results:=[.lit (.bool true)],args:=ds })
  (witness:∃(w:World)(tape:Tape)(i:Input),w.os=os/\(w.forCall tape i).Shaped C.prog/\i.vars=[]/\Input.okWide C.prog (w.forCall tape i) .any w.heap.size f i/\
   s.pre6 enc C.prog fn [] false (w.forCall tape i).memory i.args/\({}:Assume).holds C.prog (lone (Frame.enter C.prog f i.args .normal) [] (w.forCall tape i)))
  (walk:∀(W:World)(base:Nat)(args:Array Value)(ds:List (DataW H))(p:List MemPlace),
   (∀(j:Nat) t v,fn.params[j]?=some t->args[j]?=some v->Value.okWide C.prog W .any base t v)->
   DataW.TrodAll enc C.prog W 0 (λ_=>true) true fn.params.toList args.toList ds p->
   (DataW.weightsEach C.prog fn.params.toList ds).all (·<=reachBytes)=true->
   Calls C.prog f args W λe W'=>e=.returned (.bool true)/\Below W.heap.size W W') :
  ReturnsInHanded {} C os f .any (s.pre6 enc C.prog fn [] false) (s.post enc C.prog fn false true false false):=by
 refine returnsInHanded_of_change_sized (C:=C) own started noInit hfn witness ?_
 intro W base args ds gs before hval hW _ hsz _
 have hW':=hW
 obtain⟨p,q,hA,hV,rfl,hfz,hnd⟩:=hW
 rw[hvars] at hV
 obtain⟨rfl,rfl⟩:=trodVars_none hV
 have hvt:s.plain.varTypes C.prog=[]:=by simp[ChangeSpec.plain,DataSpec.varTypes,hvars]
 rw[hvt] at hsz
 simp only[zh] at hsz
 refine(walk W base args ds p hval hA hsz).mono λe W' ⟨he,bel⟩=>?_
 subst he
 have hlen:ds.length=fn.params.toList.length:=qk6 _ _ _ _ hA
 have hs:=hspec ds hlen
 refine⟨_,rfl,ds,[],p++[],[],p,[],hW',?_,?_,?_,bel.frame _,λh=>by cases h⟩
 .rw[zh,hs,hres];exact trodAll_mk1 (shut_bool hb _)
 .rw[zh,hs];refine qjy hl bel _ _ _ _ (λt ht=>?_) hA;have:=yf.1 hr t ht;simpa using this
 .rw[zh,hs,hvars];simp[DataW.TrodVars]
def qms(P:Program):Nat->TypeId->Nat->Option TypeId
 | 0,_,_=>none
 | d+1,t,j=>
  match P.underlying t with
  | some (.struct fs)=>(fs.toList.find? λf=>decide (f.offset<=j)&&decide (j<f.offset+P.cellsOf f.type)).bind λf=>qms P d f.type (j-f.offset)
  | some (.array n e)=>if j<n*P.cellsOf e then qms P d e (j%P.cellsOf e) else none
  | _=>if j=0 then some t else none
section
variable{H:Type}{enc:TypeId×Value->H}{P:Program}{w:World}{base:Nat}{spare:Nat->Bool}{held:Bool}
theorem qiq:∀(d:Nat)(t:TypeId)(j:Nat)(l:TypeId)(fuel:Nat)(cs:List Value)(x:DataW H×List MemPlace),qms P d t j=some l->j<cs.length->DataW.trod enc P w base spare held fuel t cs=some x->
  ∃(v:Value)(y:DataW H×List MemPlace)(n:Nat),cs[j]?=some v/\DataW.trod enc P w base spare held n l [v]=some y
 | 0,_,_,_,_,_,_,h,_,_=>by simp[qms] at h
 | d+1,t,j,l,fuel,cs,x,h,hj,ht=>by
  unfold qms at h;split at h
  .rename_i fs hu;obtain⟨f,hf,hl⟩:=Option.bind_eq_some_iff.1 h;obtain⟨xs,n,hn,hx,hlen,hxl,hg⟩:=DataW.trod_struct hu ht;have hp:=List.find?_some hf;simp only[xp,xh] at hp;obtain⟨i,hi,hie⟩:=yF (List.mem_of_find?_eq_some hf);have hfi:fs[i]?=some f:=by simp at hi;rw[zx hi];simpa using hie
   have hgi:=hg i f hfi;have hxi:i<xs.length:=by rw[hxl];simpa using hi
   rw[xt hxi] at hgi;obtain⟨v,y,n',hv,hy⟩:=qiq d f.type (j-f.offset) l n _ _ hl Q9h hgi
   grind
  .rename_i n e hu;split at h
   .rename_i hjn;obtain⟨xs,n',hn,hx,hlen,hxl,hg⟩:=DataW.trod_array hu ht;have hc:0<P.cellsOf e:=by
     grind
    have hq:j / P.cellsOf e<n:=(xQ hc).2 hjn;have hgi:=hg (j / P.cellsOf e) hq;rw[xt Q8E] at hgi;have hm:=xo j hc;have hd:=xu j (P.cellsOf e);have hd':j / P.cellsOf e*P.cellsOf e+j%P.cellsOf e=j:=by rw[xm];exact hd
    obtain⟨v,y,n'',hv,hy⟩:=qiq d e (j%P.cellsOf e) l n' _ _ h Q9h hgi
    grind
   .cases h
  .split at h
   .rename_i hj0;subst hj0;obtain rfl:t=l:=by simpa using h
    match cs,hj with
    | [v],_=>exact⟨v,x,fuel,rfl,ht⟩
    | v::v'::r,_=>
     exfalso;cases fuel with
     | zero=>simp[DataW.trod] at ht
     | succ n=>
      unfold DataW.trod at ht;simp_all
   .cases h
end
section
variable{H:Type}{enc:TypeId×Value->H}{P:Program}{w:World}
theorem qyg{t e:TypeId}{C:Nat}{v:Value}{d:DataW H}{p:List MemPlace}(ht:P.underlying t=some (.slice e))(hC:P.cellsOf e=C)(h:DataW.Trod enc P w 0 (λ_=>true) true t v d p)(hsh:∃A len cap,v=.slice A len cap):
  ∃(A:Option Addr)(len cap:Nat)(f:Nat->Value),v=.slice A len cap/\len<=cap/\cap<=maxLen/\((len=0/\d=.nil)\/∃el sp,d=.slice el sp/\el.length=len)/\Seg w w.heap.size A (len*C) f/\
   ∀i,i<len->∃(x:DataW H×List MemPlace)(n:Nat)(cs:List Value),DataW.trod enc P w 0 (λ_=>true) true n e cs=some x/\cs.length=C/\∀j,j<C->cs[j]?=some (f (i*C+j)):=by
 obtain⟨A,len,cap,rfl⟩:=hsh
 obtain⟨fuel,hf⟩:=h
 rcases Deep.open_slice ht hf with ⟨hcs,hx⟩|⟨a,len',cap',m,n,D,Pl,hcs,hb,hl,hm,hmm,hx,hi⟩
 .simp[Value.cells] at hcs;obtain⟨rfl,rfl,rfl⟩:=hcs;simp only[Prod.mk.injEq] at hx;exact⟨none,0,0,λ_=>undef,rfl,nlr _,by simp,.inl ⟨rfl,hx.1⟩,by rw[yw];exact Seg.zero,λi hi=>absurd hi Q8E⟩
 .simp[Value.cells] at hcs;obtain⟨rfl,rfl,rfl⟩:=hcs;simp only[Prod.mk.injEq] at hx;have hmc:m=cap:=by simpa using hmm
  subst hmc;rw[hC] at hi;have hrow:∀i,i<len->∃cs',(cs'.length=C/\∀j,j<C->w.cell? ((a.add (i*C)).add j)=cs'[j]?)/\DataW.trod enc P w 0 (λ_=>true) true n e cs'=some (D i,Pl i):=λi hil=>by
   obtain⟨cs',hc,ht'⟩:=hi i Q8E;obtain⟨_,hcl,hat⟩:=World.cells?_some hc
   grind
  refine⟨some a,len,m,λj=>(w.cell? (a.add j)).getD undef,rfl,hl,hm,.inr ⟨_,_,hx.1,by simp⟩,?_,?_⟩
  .intro hpos;have hcell:∀j,j<len*C->w.cell? (a.add j)=some ((w.cell? (a.add j)).getD undef):=by
    intro j hj;have hC0:0<C:=by
     grind
    obtain⟨cs',⟨hcl,hat⟩,_⟩:=hrow (j / C) ((xQ hC0).2 hj);have hr:=xo j hC0
    grind[xu,qyf]
   refine⟨a,rfl,?_,hcell⟩;have:=World.block_lt_of_cell? _ _ (hcell 0 hpos)
   grind[qqj]
  grind[qyf]
end
theorem qk7{P:Program}{W:World}{r:Reach}{base:Nat}{t e:TypeId}{v:Value}(ht:P.underlying t=some (.slice e))(hv:Value.okWide P W r base t v):∃A len cap,v=.slice A len cap:=okWide_slice ht hv
section
variable{H:Type}{enc:TypeId×Value->H}{P:Program}{w:World}{base:Nat}{spare:Nat->Bool}{held:Bool}
theorem qbp{d:Nat}{t:TypeId}{j:Nat}{l:TypeId}{fuel:Nat}{cs:List Value}{x:DataW H×List MemPlace}{k:IntKind}{u:Value}(hl:qms P d t j=some l)(hu:P.underlying l=some (.int k))(hj:cs[j]?=some u)
  (h:DataW.trod enc P w base spare held fuel t cs=some x):u=.int k (intOf u)/\(Lit.int k (intOf u)).wf=true:=by
 have hjl:j<cs.length:=(xg.1 hj).1
 obtain⟨v,y,n,hv,hy⟩:=qiq d t j l fuel cs x hl hjl h
 rw[hj] at hv
 obtain rfl:=Option.some.inj hv
 obtain⟨z,hz,_,hw⟩:=DataW.trod_int hu hy
 obtain rfl:u=.int k z:=by simpa using hz
 exact⟨rfl,hw⟩
end
variable{w:World}
theorem qk8{a:Addr}{o:Obj}{v:Value}(h:w.cell? a=some v):(w.alloc o).cell? a=some v:=by
 rw[World.cell?_alloc_lt w o a (World.block_lt_of_cell? _ _ h)];exact h
theorem qmb{a:Addr}{v:Value}(h:w.cell? a=some v):w.drew.cell? a=some v:=h
theorem qnz{a b:Addr}{u v:Value}(h:w.cell? a=some v)(hne:b≠a):(w.setCell b u).cell? a=some v:=by
 rw[World.cell?_setCell_other w b a u hne];exact h
theorem qn0{b:Addr}{u v:Value}(h:w.cell? b=some v):(w.setCell b u).cell? b=some u:=World.cell?_setCell_same w b u h
theorem qfw{B:Nat}{a:World}(h:Below B a w)(n:Nat):Below B a (w.drewN n):=⟨h.os,h.tape,h.output,h.size,h.block⟩
end Go.Proofs.YtfkngpmgcimdbaaGreat


namespace Go.Proofs.YtfkngpmgcimdbaaGreat.Sx
open Go Go.RowKit
theorem qbk{o:Bool}{n:Nat}{f:Nat->Value}{j:Nat}(h:j<n):(⟨o,n,[(0,n,.agg ⟨segL n f⟩)]⟩:Chunk).f j=f j:=by
 refine Q3o ?_;exact qic h
theorem qvu{o:Bool}{m p:Nat}{f:Nat->Value}{v:Value}(hp:p<m)(h1:v.oneCell'=true)(hv:f p=v):Reads ⟨o,m,[(0,m,.agg ⟨segL m f⟩)]⟩ p false 1 v:=
 ⟨hp,h1,by rw[qbk hp];exact hv⟩
def lit1(v:Value):Bool:=
 match v with
 | .int _ _ | .bool _ | .string _ | .float _ _ | .complex _ _ _ | .nilFunc | .nilIface=>true
 | .pointer none | .slice none _ _=>true
 | _=>false
theorem qvv{v:Value}(h:lit1 v=true):qbi v=true:=by
 cases v with
 | pointer a=>cases a<;>first | rfl | (simp[lit1] at h)
 | slice a l c=>cases a<;>first | rfl | (simp[lit1] at h)
 | _=>first | rfl | (simp[lit1] at h)
theorem qqk{h:Hp}{v:Value}(hv:lit1 v=true):Safe1 h v:=by
 cases v with
 | pointer a=>cases a<;>first | trivial | (simp[lit1] at hv)
 | slice a l c=>cases a<;>first | trivial | (simp[lit1] at hv)
 | _=>first | trivial | (simp[lit1] at hv)
variable{l:List Value}
theorem qg8{h:Hp}(hl:l.all lit1=true):Safe h (.agg ⟨l⟩):=λx hx=>qqk (yf.1 hl x hx)
theorem qg9{h:Hp}{o:Bool}{n:Nat}(hn:l.length=n)(hl:l.all lit1=true):∀j,j<(⟨o,n,[(0,n,.agg ⟨l⟩)]⟩:Chunk).n->Safe1 h ((⟨o,n,[(0,n,.agg ⟨l⟩)]⟩:Chunk).f j):=λj hj=>by
 have hj:j<n:=hj;show Safe1 h (qbf _ _);rw[qar,if_pos Q8E];simp only[cellIn,Nat.sub_zero,xT];rw[xt Q8E];exact qqk (yf.1 hl _ (List.getElem_mem _))
structure jpt where
 a:Addr
 n:Nat
 f:Nat->Value
def SeenIn(w:World)(s:jpt):Prop:=s.a.spot=none/\s.a.block<w.heap.size/\∀j,j<s.n->w.cell? (s.a.add j)=some (s.f j)/\qbi (s.f j)=true
theorem SeenIn.of{w:World}{A:Option Addr}{m:Nat}{f:Nat->Value}(h:Seg w w.heap.size A m f)(hm:0<m)(hp:∀j,j<m->qbi (f j)=true):∃a,A=some a/\SeenIn w ⟨a,m,f⟩:=by
 obtain⟨a,rfl,hb,hc⟩:=h hm;refine⟨a,rfl,?_,hb,λj hj=>⟨hc j hj,hp j hj⟩⟩;have:=hc 0 hm;cases e:a.spot with
 | none=>rfl
 | some s=>
  exfalso;have e0:a.add 0=a:=rfl;rw[e0] at this;unfold World.cell? at this;rw[e] at this;simp at this;split at this<;>simp at this
variable{P:Program}{base:Nat}
theorem qhz{W:World}{r:Reach}{t e:TypeId}{a:Addr}{len cap:Nat}(ht:P.underlying t=some (.slice e))(hv:Value.okWide P W r base t (.slice (some a) len cap)):a.spot=none/\a.block<W.heap.size/\len<=cap:=by
 simp only[Value.okWide,ht,Cell.okWide,Cell.ok,World.has] at hv;obtain⟨h1,h2,h3,h4,row,cells,h5,_⟩:=hv;refine⟨h4,?_,h1⟩;unfold World.shape? at h5;cases e:W.heap[a.block]? with
 | none=>rw[e] at h5;simp at h5
 | some o=>exact(xY.1 e).1
theorem qmt{W:World}{r:Reach}{t e:TypeId}{len cap:Nat}(ht:P.underlying t=some (.slice e))(hv:Value.okWide P W r base t (.slice none len cap)):len=0/\cap=0:=by
 simp only[Value.okWide,ht,Cell.okWide,Cell.ok] at hv;split at hv<;>simp_all
theorem SeenIn.some{w:World}{r:Reach}{t e:TypeId}{a:Addr}{len cap m:Nat}{f:Nat->Value}(ht:P.underlying t=Option.some (.slice e))(hv:Value.okWide P w r base t (.slice (Option.some a) len cap))
  (h:Seg w w.heap.size (Option.some a) m f) (hp:∀j,j<m->lit1 (f j)=true):SeenIn w ⟨a,m,f⟩:=by
 obtain⟨h1,h2,_⟩:=qhz ht hv
 refine⟨h1,h2,λj hj=>⟨?_,qvv (hp j hj)⟩⟩
 obtain⟨x,hx,_,hc⟩:=h (xM (xn _) hj)
 obtain rfl:a=x:=by simpa using hx
 exact hc j hj
inductive ArgIs(sg:List jpt):Value->Value->Prop
 | plain {v:Value} (h:qap v=true):ArgIs sg v v
 | slice {k l c s0 n:Nat} {a:Addr} {f:Nat->Value} (h:sg[k]?=some ⟨a,n,f⟩):ArgIs sg (.slice (some ⟨k,0,some s0⟩) l c) (.slice (some a) l c)
section
variable{P:Program}{G:Tys}
end
end Go.Proofs.YtfkngpmgcimdbaaGreat.Sx


namespace Go.Proofs.YtfkngpmgcimdbaaGreat
open Go Go.RowKit Sx
def jfl(x:Ent):Nat->Value
 | 0=>.int .i64 x.node
 | 1=>.int .i64 x.boot
 | 2=>.int .i64 x.heard
 | 3=>.bool x.has
 | 4=>.int .i64 x.x
 | 5=>.int .i64 x.y
 | 6=>.int .i64 x.a
 | 7=>.int .i64 x.b
 | 8=>.int .i64 x.d
 | _=>.int .i64 x.when_
theorem qjz(x:Ent)(k:Nat):qbi (jfl x k)=true:=by unfold jfl;split<;>rfl
theorem qk9(x:Ent){k:Nat}(h:k<10):cellIn (entV x) k=jfl x k:=Q3U
theorem qr9(j:Nat):jfj 10 (entV Ent.zero) j=jfl (Ent.zero) (j%10):=by
 unfold jfj;have h:j%10<10:=xo _ Q8I;generalize j%10=k at h;exact Q3U
abbrev enC(o:Bool)(c:Nat)(T:Nat->Ent):Chunk:=⟨o,c*10,[(0,c*10,.agg ⟨segL (c*10) λj=>jfl (T (j / 10)) (j%10)⟩)]⟩
variable{c j:Nat}{T:Nat->Ent}
theorem jj7{o:Bool}(h:j<c*10):(enC o c T).f j=jfl (T (j / 10)) (j%10):=qbk h
variable{ix:List (Nat×Nat)}
theorem qj0{o o':Bool}{T':Nat->Ent}(h:∀i,i<c->T i=T' i):qbh ix (enC o c T) (enC o' c T'):=λj hj=>by
 have hj:j<c*10:=hj;rw[qbk hj,qbk hj,h (j / 10) Q8E];exact .plain (qjz _ _)
theorem qt0{T':Nat->Ent}{hp:Hp}{n:Nat}(h:∀i,i<c->T i=T' i)(hh:hp[n]?=some (some (enC true c T'))):PostC ix hp n (enC true c T):=⟨_,hh,id,nlr _,qj0 h⟩
theorem qyh{T':Nat->Ent}(h:∀i,i<c->T i=T' i):ChunkReLe ix (enC true c T) (enC true c T'):=⟨id,nlr _,qj0 h⟩
theorem jj8{o:Bool}{p n:Nat}(i:Nat)(hn:n=10)(h:i<c)(e:p=i*10):Reads (enC o c T) p true n (entV (T i)):=by
 subst e hn;refine⟨by show i*10+10<=c*10;omega,_,rfl,rfl,λj hj=>?_⟩;rw[qbk Q8E,show(i*10+j) / 10=i by omega,show(i*10+j)%10=j by omega];exact(qk9 _ hj).symm
def seten(T:Nat->Ent)(l:Nat)(x:Ent)(i:Nat):Ent:=if i=l then x else T i
theorem jlf{l p:Nat}{x:Ent}(h:l<c)(e:p=l*10):Writes (enC true c T) p (1*10) (entV x) (enC true c (seten T l x)):=by
 subst e;refine⟨rfl,by show l*10+1*10<=c*10;omega,rfl,λj hj=>?_⟩
 grind[qbk,seten,qk9]
def jfs(T:Nat->Ent)(l:Nat)(x:Ent)(i:Nat):Ent:=if i<l then T i else if i=l then x else Ent.zero
variable{ci:Chunk}
theorem q2c{l cap:Nat}{x:Ent}(h:l<cap)(hc:∀j,j<l*10->ci.f j=jfl (T (j / 10)) (j%10))(hj:j<cap*10):(grown ci l 1 10 (entV x) (entV Ent.zero) cap).f j=jfl (jfs T l x (j / 10)) (j%10):=by
 unfold jfs;by_cases h1:j<l*10
 .grind[qid]
 .rw[if_neg Q8E];by_cases h2:j<(l+1)*10
  .have:=qie (ci:=ci) (l:=l) (m:=1) (size:=10) (cap:=cap) (v:=entV x) (z:=entV Ent.zero) (j:=j-l*10) Q8E
   grind[qk9]
  grind[qg3,qr9]
theorem qfx{l cap:Nat}{T':Nat->Ent}{x:Ent}(h:l<cap)(hc:∀j,j<l*10->ci.f j=jfl (T (j / 10)) (j%10))(he:∀i,i<cap->T' i=jfs T l x i):ChunkReLe ix (enC true cap T') (grown ci l 1 10 (entV x) (entV Ent.zero) cap):=
 ⟨λ_=>rfl,by show cap*10<=cap*10;omega,λj hj=>by
  have hj:j<cap*10:=hj;rw[qbk hj,q2c h hc hj,he _ Q8E];exact .plain (qjz _ _)⟩
def entT(E:Ez)(i:Nat):Ent:=match (sortK E)[i]? with
 | some k=>(dGet E k).getD Ent.zero
 | none=>Ent.zero
variable{E:Ez}{i:Nat}{k:Int}
theorem qla{e:Ent}(h:(sortK E)[i]?=some k)(he:dGet E k=some e):entT E i=e:=by
 grind[entT]
theorem qgg(h:i<E.length):∃k,(sortK E)[i]?=some k/\∃e,(k,e)∈E:=by
 have hl:i<(sortK E).length:=by rw[qqh];exact h
 refine⟨(sortK E)[i],by simp[hl],?_⟩
 grind[qvs,List.getElem_mem]
theorem qir{α:Type}{E:List (Int×α)}{e:α}(h:(k,e)∈E):∃e',dGet E k=some e':=by
 cases hg:dGet E k with
 | some e'=>exact⟨e',rfl⟩
 | none=>exact absurd rfl (dGet_none.1 hg _ h)
abbrev jfy(x:Ext)(o:Bool)(most:Int)(i j:Nat):Chunk:=@Chunk.mk x o 3 [(0,3,.agg ⟨[xc most,.map (some i),.map (some j)]⟩)]
abbrev ji4(most:Int):Chunk:=⟨false,2,[(0,2,.agg ⟨[xc most,.map (some 1)]⟩)]⟩
theorem qt1{x:Ext}{o:Bool}{most:Int}(hi:ixK ix 1=some i):qbh ix (jfy x o most i j) (ji4 most):=λl hl=>by
 match l,hl with
 | 0,_=>exact .plain rfl
 | 1,_=>exact .map hi
theorem qci{α:Type}{enc:α->Value}{D D':List (Int×α)}:qbh ix (mapC enc D) (mapC enc D'):=nzj
theorem qb6{α:Type}{enc:α->Value}{D:List (Int×α)}{h:Hp}{k:Nat}(hh:h[k]?=some (some (mapC enc D))):PostC ix h k (mapC enc D):=⟨_,hh,id,nlr _,nzj⟩
def jpu(E:Ez)(k:Nat)(pre:Mz)(v:Value)(ms:Mz):Prop:=
 (E=[]/\v=.slice none 0 0/\ms=pre)\/∃cap,0<E.length/\E.length<=cap/\v=.slice (some ⟨k,0,some 0⟩) E.length cap/\ms=pre++[(k,enC true cap λi=>if i<E.length then entT E i else Ent.zero)]
theorem qt2{h:Hp}(hj:j<c*10):Safe1 h ((enC true c T).f j):=by
 rw[jj7 hj];generalize T (j / 10)=x;generalize j%10=k;unfold jfl;split<;>trivial
theorem jnb{v u:Value}(h:v=u)(hp:qan v=true):Re ix v u:=by subst h;exact .plain hp
theorem qlb{k:IntKind}{a b:Int}(h:a=b):Value.int k a=.int k b:=by rw[h]
def allF(E:Ez)(r i:Nat):Ent:=if i<r then entT E i else Ent.zero
variable{P:Program}
theorem qjo{G:Tys}{n0:Nat}{c:Code}{A:(Exit->St->Prop)->St->Prop}{Q:Exit->St->Prop}{t:List (Option Value)}{h:Hp}(mk:Nat)(hw:updK mk [] t 0 λt'=>wkK n0 ⟨t,h⟩ ⟨t',h⟩ (N True))(k:updK mk [] t 0 λt'=>N (jhm P G n0 c A Q ⟨t',h⟩)):N (jhm P G n0 c A Q ⟨t,h⟩):=by
 have h1:=(qp8 (updK_iff.1 hw)).1;obtain⟨α,mk',inv,μ,nx,p1,⟨x,p2,p3⟩,p4⟩:=(updK_iff.1 k).out;exact N.mk ⟨α,mk',inv,μ,nx,p1,⟨x,p2,λX ρ a w hn R=>p3 X ρ a w hn (by subst hn;exact h1.rel R)⟩,p4⟩
variable{l:List Int}
theorem qn1{p n:Nat}{x:Int}(i:Nat)(hn:n=1)(h:l[i]?=some x)(e:p=i*1):Reads (jgu l) p false n (xc x):=by
 subst e hn;have hl:=(xg.1 h).1;exact⟨by show i*1<l.length;omega,rfl,by rw[x6];exact qr6 h⟩
theorem qt3{o:Bool}{n m:Nat}{l:List Value}(hl:l.length=n)(hm:m=n):Reads ⟨o,n,[(0,n,.agg ⟨l⟩)]⟩ 0 true m (.agg ⟨l⟩):=by
 subst hm;refine⟨by show 0+m<=m;omega,_,rfl,hl,λj hj=>?_⟩;show qbf [(0,m,.agg ⟨l⟩)] (0+j)=_
 grind[qar,cellIn]
variable{K:Value->Mz->Prop}
theorem qyi{cj:Chunk}{g m size bytes:Nat}{z:Value}{slot:Nat}(v:Value)(hr:Reads cj g true (m*size) v)(h0:0<m)(h1:m<=9223372036854775807)(h2:m*bytes<=140737488355328)
  (k:∀cap,m<=cap->K (.slice (some ⟨slot,0,some 0⟩) m cap) [(slot,grown ⟨true,0,[]⟩ 0 m size v z cap)]):N (App0N cj g m size bytes z slot K):=N.mk (.inl ⟨v,hr,h0,h1,h2,k⟩)
theorem q5g{k s l:Nat}{cj:Chunk}{g m size bytes:Nat}{z:Value}{slot:Nat}(v:Value)(hr:Reads cj g true (m*size) v)(hf:flatB v (m*size)=true)(hl:l*size<=ci.n)(h1:l+m<=9223372036854775807)(h2:(l+m)*bytes<=140737488355328)
  (d:Chunk) (hw:l+m<=c->Writes ci (l*size) (m*size) v d) (k1:l+m<=c->K (.slice (some ⟨k,0,some s⟩) (l+m) c) [(k,d)]) (k2:c<l+m->∀cap,l+m<=cap->K (.slice (some ⟨slot,0,some 0⟩) (l+m) cap) [(slot,grown ci l m size v z cap)]):N (jmg ci k s l c cj g m size bytes z slot K):=
 N.mk ⟨v,hr,hf,hl,h1,h2,λh=>⟨d,hw h,k1 h⟩,k2⟩
theorem qfy{F:List ((Nat×Nat)×Win)}{most:Int}(h1:ixK ix 1=some 1)(h2:ixK ix 2=some 2):ChunkReLe ix (mainC F most) (mainC F most):=⟨id,nlr _,λj hj=>by
 match j,hj with
 | 0,_=>exact .plain rfl
 | 1,_=>exact .map h1
 | 2,_=>exact .map h2⟩
theorem qex{most:Int}(h1:ixK ix 1=some 1):ChunkReLe ix (ji4 most) (ji4 most):=⟨id,nlr _,λj hj=>by
 match j,hj with
 | 0,_=>exact .plain rfl
 | 1,_=>exact .map h1⟩
theorem qgh{α:Type}{enc:α->Value}{D:List (Int×α)}:ChunkReLe ix (mapC enc D) (mapC enc D):=⟨id,nlr _,nzj⟩
theorem qgi(h1:ixK ix 1=some 1):ChunkReLe ix (jlb 1) (jlb 1):=⟨id,nlr _,λj hj=>by
 match j,hj with
 | 0,_=>exact .map h1⟩
theorem qe8:ChunkReLe ix (jgu l) (jgu l):=⟨id,nlr _,λj hj=>by
 have hj:j<l.length:=hj;have e:l[j]?=some l[j]:=by simp[hj]
 rw[qr6 e];exact .plain rfl⟩
theorem qax{g:FuncId}{vs:List Value}{h:Hp}{R R':Value->Mz->Prop}(hc:CallAll P g vs h R)(hr:∀v ms,R v ms->R' v ms):CallAll P g vs h R':=λX ρ w xs H hx=>by
 rcases hc X ρ w xs H hx with ⟨x,w',h1,v,ms,ρ',h2,h3⟩|⟨h1,h2⟩
 .exact .inl ⟨x,w',h1,v,ms,ρ',hr _ _ h2,h3⟩
 .refine .inr ⟨h1,h2.mono ?_⟩;rintro e w' ⟨x,he,v,ms,ρ',h3,h4⟩;exact⟨x,he,v,ms,ρ',hr _ _ h3,h4⟩
theorem jnc(T:Tbl)(hE:T.E.length<=64)(i K:Nat)(h:Hp)(hi:h[i]?=some (some (tblC T)))(hK:h[K]?=some none):
  CallAll prog 57 [xd i] h (jpu T.E K [(i,tblC T)]):=by
 have key:=qa8 (G:=tys) (h:=h) (vs:=[xd i]) (qa5 T.lives) (jf9 T) (α:=Option Nat) (λκ=>match κ with|none=>T.E=[]|some cap=>0<T.E.length/\T.E.length<=cap) (λκ=>match κ with|none=>.slice none 0 0|some cap=>.slice (some ⟨K,0,some 0⟩) T.E.length cap) [⟨i,tblC T,tblC T,tblC T⟩] (λ_=>[tblC T])
  (λκ=>match κ with|none=>[]|some cap=>[⟨K,8,enC true cap λi=>if i<T.E.length then entT T.E i else Ent.zero⟩]) [xd 0] tysOK mixed func57 Q8F (call57) ⟨hi,xb⟩ ⟨Q74,xb⟩ (λκ _=>⟨Q74,xb⟩) Q8K Q77 (λκ hκ=>by
   cases κ with
   | none=>exact trivial
   | some cap=>exact⟨⟨hK,rfl,.inl Q9v,by simp⟩,xb⟩) ⟨.ptr rfl,xb⟩ qav ?_
 .exact Q2C
 intro β hβ
 repeat' (refine Ba ?_;first|refine Q55 ?_|refine Q51 ?_|refine Bb (qyd 1 3 _ _ Q8F Q8F) ?_|fail)
 refine Ba ?_
 refine Bh (qnw T.E 1 3 7 _ _ Q8F rfl Q8F Q8F Q8E) λv ms hR=>?_
 rcases hR with ⟨hE0,rfl,rfl⟩|⟨kc,hpos,hkc,rfl,rfl⟩
 .refine Q0a ?_;refine Bp 1 ?_;refine Q0a ?_;refine qck T β 0 1 2 [] qcg (λi hi=>.inl Q8U) hβ Q8F Q8F Q8F Q8F Q8F Q8F Q8F Q8F Q8F Q8I (λk hk=>by cases hk) jg6 (qbt rfl) ?_;refine Bt none ⟨hE0,?_⟩;exact Q3c
 .refine Q0a ?_;refine qjo 4096 ?_ ?_
  .exact Q2S
  refine Ba ?_;refine Bq (α:=Option (Nat×Nat)) (λx=>match x with|none=>True|some q=>1<=q.1/\q.1<=T.E.length/\q.1<=q.2) (λx=>match x with|none=>T.E.length|some q=>T.E.length-q.1) (λx=>match x with|none=>[(15,xc 0),(3,.slice none 0 0)]|some q=>[(15,xc (q.1:Int)),(3,.slice (some ⟨8,0,some 0⟩) q.1 q.2)]) (λx=>match x with|none=>[]|some q=>[(8,enC true q.2 (allF T.E q.1))]) none [(0,0),(1,1),(2,2),(3,3),(7,7)] trivial ?_ ?_
  .exact Q1K
  .intro x hx;cases x with
   | none=>
    obtain⟨k0,hk0,e0,he0⟩:=qgg (E:=T.E) (i:=0) hpos;obtain⟨e1,hg⟩:=qir he0;refine Q0a ?_;refine Bj 0 1 rfl hpos ?_;repeat' (refine Ba ?_;first|refine Q55 ?_|refine Q51 ?_|refine Bl _ (qn1 0 rfl hk0 rfl) ?_|refine Q6Y ?_|fail)
    refine Ba ?_;refine qyi (entV e1) (qt3 Q8F Q8F) Q8I Q8I Q8I λcap hcap=>?_
    refine Q0a ?_;refine Bk (some (1,cap)) [(0,0),(1,1),(2,2),(3,3),(7,7),(9,8)] ⟨⟨nlr _,hpos,hcap⟩,by show T.E.length-1<T.E.length;omega⟩ ?_;have hgr:∀i,i<cap->allF T.E 1 i=jfs (λ_=>Ent.zero) 0 e1 i:=λi _=>Q3d
    exact Q1v
   | some q=>
    obtain⟨r,c⟩:=q;obtain⟨q1,q2,q3⟩:=hx;have q1:1<=r:=q1;have q2:r<=T.E.length:=q2;have q3:r<=c:=q3;by_cases hlt:r<T.E.length
    .obtain⟨k0,hk0,e0,he0⟩:=qgg (E:=T.E) (i:=r) hlt;obtain⟨e1,hg⟩:=qir he0;have hset:allF T.E (r+1)=seten (allF T.E r) r e1:=Q2K;have hgr:∀cap i,i<cap->allF T.E (r+1) i=jfs (allF T.E r) r e1 i:=λcap i _=>Q2V
     refine Q0a ?_;refine Bj r 1 rfl hlt ?_;repeat' (refine Ba ?_;first|refine Q55 ?_|refine Q51 ?_|refine Bl _ (qn1 r rfl hk0 Q95) ?_|refine Q6Y ?_|fail)
     refine Ba ?_;refine q5g (entV e1) (qt3 Q8F Q8F) Q8F (by show r*10<=c*10;omega) Q8E (by show(r+1)*80<=_;omega) (enC true c (seten (allF T.E r) r e1)) (λh=>jlf Q8E rfl) (λhr=>?_) (λhg2 cap hcap=>?_)
     .refine Q0a ?_;refine Bk (some (r+1,c)) [(0,0),(1,1),(2,2),(3,3),(7,7),(8,8)] ⟨⟨by show 1<=r+1;omega,hlt,hr⟩,by show T.E.length-(r+1)<T.E.length-r;omega⟩ ?_;exact Q1p
     .refine Q0a ?_;refine Bk (some (r+1,cap)) [(0,0),(1,1),(2,2),(3,3),(7,7),(10,8)] ⟨⟨by show 1<=r+1;omega,hlt,hcap⟩,by show T.E.length-(r+1)<T.E.length-r;omega⟩ ?_;repeat' (refine Ba ?_;first|refine Q55 ?_|refine Q51 ?_|exact Be|refine Q65 ?_|refine Q5l ?_|refine Q6d ?_|refine Bc (qfx (ci:=enC true c (allF T.E r)) hcap (λj hj=>jj7 Q8E) (hgr cap)) ?_|fail)
    .obtain rfl:r=T.E.length:=by omega
     refine Q0a ?_;refine qck T β 0 1 2 [8] qcg (λi hi=>.inl Q8U) hβ Q8F Q8F Q8F Q8F Q8F Q8F Q8F Q8F Q8F Q8I (λk hk=>by simp at hk;omega) (λk hk d hd l hl=>?_) (λρ ρ' ha=>by have:=ha 8 ⟨_,rfl⟩;simp[den,den2,den1,den0,jfd,this]) ?_
     .obtain rfl:k=8:=by simpa using hk
      obtain rfl:enC true c (allF T.E T.E.length)=d:=by simpa using hd
      exact qt2 hl
     refine Bt (some c) ⟨⟨q1,q3⟩,?_⟩;refine Bc (.one (.slice rfl)) ?_;refine Bc Q8c ?_;refine Bc ⟨⟨x7 rfl,qt0 (T':=allF T.E T.E.length) (λ_ _=>rfl) Q8F⟩,xb⟩ ?_;refine Bc Q8a ?_;exact Be
theorem jlg(x:Ext)(o:Bool)(most:Int)(E:Ez)(hE:E.length<=64)(i i1 i2 K:Nat)(h:Hp)(hi:h[i]?=some (some (jfy x o most i1 i2)))(h1:h[i1]?=some (some (mapC entV E)))(hii:i≠i1)(hK:h[K]?=some none):
  CallAll prog 57 [xd i] h (jpu E K [(i1,mapC entV E)]):=by
 have key:=qa8 (G:=tys) (h:=h) (vs:=[xd i]) (λ_:Unit=>True) (λ_=>_) (α:=Option Nat) (λκ=>match κ with|none=>E=[]|some cap=>0<E.length/\E.length<=cap) (λκ=>match κ with|none=>.slice none 0 0|some cap=>.slice (some ⟨K,0,some 0⟩) E.length cap) [⟨i,_,ji4 most,noC⟩,⟨i1,mapC entV E,mapC entV E,mapC entV E⟩] (λ_=>[noC,mapC entV E])
  (λκ=>match κ with|none=>[]|some cap=>[⟨K,7,enC true cap λi=>if i<E.length then entT E i else Ent.zero⟩]) [xd 0] tysOK mixed func57 Q8F (call57) ⟨hi,h1,xb⟩ Q89 (λκ _=>Q89) (by simp[Apart,hii]) ⟨.inl rfl,.inr ⟨rfl,rfl⟩,xb⟩ (λκ hκ=>by
   cases κ with
   | none=>exact trivial
   | some cap=>exact⟨⟨hK,rfl,.inl Q9v,by simp⟩,xb⟩) ⟨.ptr rfl,xb⟩ Opens.same ?_
 .exact Q2C
 rintro⟨⟩ -
 repeat' (refine Ba ?_;first|refine Q55 ?_|refine Q51 ?_|refine Bb (qyd 1 2 _ _ Q8F Q8F) ?_|fail)
 refine Ba ?_
 refine Bh (qnw E 1 2 6 _ _ Q8F rfl Q8F Q8F Q8E) λv ms hR=>?_
 rcases hR with ⟨hE0,rfl,rfl⟩|⟨kc,hpos,hkc,rfl,rfl⟩
 .refine Q0a ?_;refine Bp 1 ?_;refine Q0a ?_;refine Bn ?_;refine Bt none ⟨hE0,?_⟩;refine Bc (.plain rfl) ?_;refine Bc ⟨qb6 Q8F,xb⟩ ?_;refine Bc xb ?_;refine Bc ⟨⟨.inl rfl,.inr ⟨_,rfl,rfl⟩,xb⟩,xb⟩ ?_;exact Be
 .refine Q0a ?_;refine qjo 4096 ?_ ?_
  .exact Q2S
  refine Ba ?_;refine Bq (α:=Option (Nat×Nat)) (λx=>match x with|none=>True|some q=>1<=q.1/\q.1<=E.length/\q.1<=q.2) (λx=>match x with|none=>E.length|some q=>E.length-q.1) (λx=>match x with|none=>[(15,xc 0),(3,.slice none 0 0)]|some q=>[(15,xc (q.1:Int)),(3,.slice (some ⟨7,0,some 0⟩) q.1 q.2)]) (λx=>match x with|none=>[]|some q=>[(7,enC true q.2 (allF E q.1))]) none [(0,0),(1,1),(2,2),(6,6)] trivial ?_ ?_
  .exact Q1K
  .intro x hx;cases x with
   | none=>
    obtain⟨k0,hk0,e0,he0⟩:=qgg (E:=E) (i:=0) hpos;obtain⟨e1,hg⟩:=qir he0;refine Q0a ?_;refine Bj 0 1 rfl hpos ?_;repeat' (refine Ba ?_;first|refine Q55 ?_|refine Q51 ?_|refine Bl _ (qn1 0 rfl hk0 rfl) ?_|refine Q72 ?_|fail)
    refine Ba ?_;refine qyi (entV e1) (qt3 Q8F Q8F) Q8I Q8I Q8I λcap hcap=>?_
    refine Q0a ?_;refine Bk (some (1,cap)) [(0,0),(1,1),(2,2),(6,6),(8,7)] ⟨⟨nlr _,hpos,hcap⟩,by show E.length-1<E.length;omega⟩ ?_;have hgr:∀i,i<cap->allF E 1 i=jfs (λ_=>Ent.zero) 0 e1 i:=λi _=>Q3d
    exact Q1v
   | some q=>
    obtain⟨r,c⟩:=q;obtain⟨q1,q2,q3⟩:=hx;have q1:1<=r:=q1;have q2:r<=E.length:=q2;have q3:r<=c:=q3;by_cases hlt:r<E.length
    .obtain⟨k0,hk0,e0,he0⟩:=qgg (E:=E) (i:=r) hlt;obtain⟨e1,hg⟩:=qir he0;have hset:allF E (r+1)=seten (allF E r) r e1:=Q2K;have hgr:∀cap i,i<cap->allF E (r+1) i=jfs (allF E r) r e1 i:=λcap i _=>Q2V
     refine Q0a ?_;refine Bj r 1 rfl hlt ?_;repeat' (refine Ba ?_;first|refine Q55 ?_|refine Q51 ?_|refine Bl _ (qn1 r rfl hk0 Q95) ?_|refine Q72 ?_|fail)
     refine Ba ?_;refine q5g (entV e1) (qt3 Q8F Q8F) Q8F (by show r*10<=c*10;omega) Q8E (by show(r+1)*80<=_;omega) (enC true c (seten (allF E r) r e1)) (λh=>jlf Q8E rfl) (λhr=>?_) (λhg2 cap hcap=>?_)
     .refine Q0a ?_;refine Bk (some (r+1,c)) [(0,0),(1,1),(2,2),(6,6),(7,7)] ⟨⟨by show 1<=r+1;omega,hlt,hr⟩,by show E.length-(r+1)<E.length-r;omega⟩ ?_;exact Q1p
     .refine Q0a ?_;refine Bk (some (r+1,cap)) [(0,0),(1,1),(2,2),(6,6),(9,7)] ⟨⟨by show 1<=r+1;omega,hlt,hcap⟩,by show E.length-(r+1)<E.length-r;omega⟩ ?_;repeat' (refine Ba ?_;first|refine Q55 ?_|refine Q51 ?_|exact Be|refine Bc (qex Q8F) ?_|refine Bc qgh ?_|refine Bc (qgi Q8F) ?_|refine Bc qe8 ?_|refine Q5l ?_|refine Q6d ?_|refine Bc (qfx (ci:=enC true c (allF E r)) hcap (λj hj=>jj7 Q8E) (hgr cap)) ?_|fail)
    .obtain rfl:r=E.length:=by omega
     refine Q0a ?_;refine Bn ?_;refine Bt (some c) ⟨⟨q1,q3⟩,?_⟩;refine Bc (.one (.slice rfl)) ?_;refine Bc ⟨qb6 Q8F,xb⟩ ?_;refine Bc ⟨⟨x7 rfl,qt0 (T':=allF E E.length) (λ_ _=>rfl) Q8F⟩,xb⟩ ?_;refine Bc ⟨⟨.inl rfl,.inr ⟨_,rfl,rfl⟩,xb⟩,.inl rfl,xb⟩ ?_;exact Be
def ji5(x y:Int):Int:=if x<y then -1 else if x > y then 1 else 0
def jmm(a b:Ent):Int:=if ji5 a.heard b.heard≠0 then ji5 a.heard b.heard else ji5 a.node b.node
theorem q2d(s:Int)(w:World):xa 140 #[xc s] w (.bool false):=by
 refine qac (G:=tys) w tysOK mixed func140 Q8F Q8H Q8G ?_;exact Q33
theorem q63(s:Int)(h:Hp):qae prog 140 [xc s] h (.bool false) [] []:=qai rfl rfl (call140 _) (q2d s)
theorem q2e(a b:Int)(w:World):xa 115 #[xc a,xc b] w (xc (ji5 a b)):=by
 refine qac (G:=tys) w tysOK mixed func115 Q8F Q8H Q8G ?_;repeat' (refine Ba ?_;first|refine Q55 ?_|refine Q51 ?_|refine Bb (q63 _ _) ?_|with_reducible refine Bi (λhb=>?_) (λhb=>?_)|fail)
 all_goals
  refine congrArg _ ?_
  unfold ji5
  simp only[xh,xj] at *
  first
   | (rw[if_pos Q8E];first | done | fail)
   | (rw[if_neg Q8E,if_pos Q8E];first | done | fail)
   | (rw[if_neg Q8E,if_neg Q8E])
theorem q64(a b:Int)(h:Hp):qae prog 115 [xc a,xc b] h (xc (ji5 a b)) [] []:=qai rfl rfl (call115 _) (q2e a b)
theorem qvw(s:Int)(w:World):xa 139 #[xc s] w (.bool false):=by
 refine qac (G:=tys) w tysOK mixed func139 Q8F Q8H Q8G ?_;exact Q33
theorem qyj(s:Int)(h:Hp):qae prog 139 [xc s] h (.bool false) [] []:=qai rfl rfl (call139 _) (qvw s)
theorem qvx(a b:Int)(w:World):xa 114 #[xc a,xc b] w (xc (ji5 a b)):=by
 refine qac (G:=tys) w tysOK mixed func114 Q8F Q8H Q8G ?_;repeat' (refine Ba ?_;first|refine Q55 ?_|refine Q51 ?_|refine Bb (qyj _ _) ?_|with_reducible refine Bi (λhb=>?_) (λhb=>?_)|fail)
 all_goals
  refine congrArg _ ?_
  unfold ji5
  simp only[xh,xj] at *
  first
   | (rw[if_pos Q8E];first | done | fail)
   | (rw[if_neg Q8E,if_pos Q8E];first | done | fail)
   | (rw[if_neg Q8E,if_neg Q8E])
theorem qyk(a b:Int)(h:Hp):qae prog 114 [xc a,xc b] h (xc (ji5 a b)) [] []:=qai rfl rfl (call114 _) (qvx a b)
abbrev jmn(o:Bool)(a b:Int):Chunk:=⟨o,2,[(0,2,.agg ⟨[xc a,xc b]⟩)]⟩
theorem ja5{o o':Bool}{a b:Int}:qbh ix (jmn o a b) (jmn o' a b):=λj hj=>by
 match j,hj with
 | 0,_=>exact .plain rfl
 | 1,_=>exact .plain rfl
theorem cOr(o:Bool)(a b:Int)(i:Nat)(h:Hp)(hi:h[i]?=some (some (jmn o a b))):
  qae prog 113 [.slice (some ⟨i,0,some 0⟩) 2 2] h (xc (if a≠0 then a else b)) [] [i]:=by
 refine qak (G:=tys) [⟨i,_,jmn false a b,noC⟩] [] [.slice (some ⟨0,0,some 0⟩) 2 2] tysOK mixed func113 Q8F (call113) ⟨hi,xb⟩ ⟨⟨λh=>Q94,nlr _,ja5⟩,xb⟩ Q8K xb ⟨.slice rfl,xb⟩ ?_
 repeat' (refine Ba ?_;first|refine Q55 ?_|refine Q51 ?_|refine Q5d ?_|refine Q5m ?_|refine Bi (λhb=>?_) (λhb=>?_)|fail)
 refine Ba ?_
 refine Bp 3 ?_
 repeat' (refine Ba ?_;first|refine Q55 ?_|refine Q51 ?_|refine Q5d ?_|refine Q5m ?_|refine Bi (λhb=>?_) (λhb=>?_)|fail)
 refine Ba ?_
 refine Bj 0 0 rfl Q8I ?_
 repeat' (refine Ba ?_;first|refine Q55 ?_|refine Q51 ?_|refine Q5d ?_|refine Q5m ?_|refine Bi (λhb=>?_) (λhb=>?_)|fail)
 .simp only[bne_iff_ne,ne_eq] at hb;rw[if_pos hb];exact Q1z
 .refine Ba ?_;refine Bj 1 0 rfl Q8I ?_;repeat' (refine Ba ?_;first|refine Q55 ?_|refine Q51 ?_|refine Q5d ?_|refine Q5m ?_|refine Bi (λhb=>?_) (λhb=>?_)|fail)
  .rename_i hb1;simp only[bne_iff_ne,ne_eq,bne_eq_false_iff_eq] at hb hb1;rw[if_neg Q8E];exact Q1z
  .rename_i hb1;simp only[bne_iff_ne,ne_eq,bne_eq_false_iff_eq] at hb hb1;rw[if_neg Q8E,hb];exact Q1z
theorem q2f(a b:Ent)(w:World):xa 112 #[entV a,entV b] w (xc (jmm a b)):=by
 refine qac (G:=tys) w tysOK mixed func112 Q8F Q8H Q8G ?_;repeat' (refine Ba ?_;first|refine Q55 ?_|refine Q51 ?_|refine Bb (qyk _ _ _) ?_|refine Bb (q64 _ _ _) ?_|refine Bb (cOr _ _ _ _ _ Q8F) ?_|fail)
 all_goals rfl
theorem qh0(a b:Ent)(h:Hp):qae prog 112 [entV a,entV b] h (xc (jmm a b)) [] []:=qai rfl rfl (call112 _) (q2f a b)
def minT(T:Nat->Ent):Nat->Ent
 | 0=>T 0
 | 1=>T 0
 | r+2=>if jmm (T (r+1)) (minT T (r+1))<0 then T (r+1) else minT T (r+1)
theorem qis(T:Nat->Ent)(r:Nat)(h:1<=r):minT T (r+1)=if jmm (T r) (minT T r)<0 then T r else minT T r:=by
 obtain⟨k,rfl⟩:∃k,r=k+1:=⟨r-1,by omega⟩;rfl
abbrev q5h:Value:=.func (.func 112) ⟨[]⟩ ⟨[]⟩
abbrev jqe(e:Ent):Chunk:=⟨true,10,[(0,10,entV e)]⟩
theorem jnd(o:Bool)(cap:Nat)(T:Nat->Ent)(n c i:Nat)(h:Hp)(hi:h[i]?=some (some (enC o cap T)))(hn:1<=n)(hc:n<=cap)(hm:n<=1000):
  qae prog 111 [.slice (some ⟨i,0,some 0⟩) n c,q5h] h (entV (minT T n)) [] [i]:=by
 refine qak (G:=tys) [⟨i,_,enC false cap T,noC⟩] [] [.slice (some ⟨0,0,some 0⟩) n c,q5h] tysOK mixed func111 Q8F (call111) ⟨hi,xb⟩ ⟨Q8l,xb⟩ Q8K xb ⟨.slice rfl,.plain rfl,xb⟩ ?_
 repeat' (refine Ba ?_;first|refine Q55 ?_|refine Q51 ?_|refine Bb (qh0 _ _ _) ?_|refine Q5i ?_|refine Q5e ?_|fail)
 refine Ba ?_
 refine Bj 0 1 rfl hn ?_
 refine Ba ?_
 refine Bl _ (jj8 0 rfl Q8E rfl) ?_
 repeat' (refine Ba ?_;first|refine Q55 ?_|refine Q51 ?_|refine Bb (qh0 _ _ _) ?_|refine Q5i ?_|refine Q5e ?_|fail)
 refine Ba ?_
 refine Bo (α:=Nat) (λr=>1<=r/\r<=n) (λr=>n-r) (λr=>[(6,xc (r:Int))]) (λr=>[(2,jqe (minT T r))]) 1 ⟨nlr _,hn⟩ ?_ ?_
 .exact Q1m
 .intro r hr;obtain⟨r1,r2⟩:=hr;by_cases hlt:r<n
  .have hst:=qis T r r1;refine Q42 ?_;refine Bi (λhb=>?_) (λhb=>?_)
   .simp only[xh] at hb;rw[if_pos hb] at hst;refine Q42 ?_;exact Q4v
   .simp only[xj] at hb;rw[if_neg hb] at hst;refine Q0K ?_;exact Q4v
  .obtain rfl:r=n:=by omega
   repeat' (refine Ba ?_;first|refine Q55 ?_|refine Q51 ?_|refine Q5e ?_|refine Q5x ?_|refine Bc xb ?_|exact Be|fail)
theorem qdd{x y:Ext}{o o':Bool}{most:Int}{i' j':Nat}(hi:ixK ix i'=some i)(hj:ixK ix j'=some j):qbh ix (jfy x o most i j) (jfy y o' most i' j'):=λl hl=>by
 match l,hl with
 | 0,_=>exact .plain rfl
 | 1,_=>exact .map hi
 | 2,_=>exact .map hj
abbrev jgv(most:Int):Chunk:=jfy Ext.none false most 1 2
theorem qyl(x:Ext)(o:Bool)(most:Int)(E:Ez)(D:Fz)(hE:E.length<=64)(hpos:0<E.length)(i i1 i2:Nat)(h:Hp)(hi:h[i]?=some (some (jfy x o most i1 i2)))(h1:h[i1]?=some (some (mapC entV E)))(h2:h[i2]?=some (some (mapC jev D)))(hii:i≠i1/\i≠i2/\i1≠i2):
  qae prog 84 [xd i] h (xc (minT (entT E) E.length).node) [(i1,mapC entV E),(i2,mapC jev D)] [i]:=by
 refine qaq (G:=tys) (λ_:Unit=>True) (λ_=>_) [⟨i,_,jgv most,noC⟩,⟨i1,mapC entV E,mapC entV E,mapC entV E⟩,⟨i2,mapC jev D,mapC jev D,mapC jev D⟩] [] [xd 0] tysOK mixed func84 Q8F (call84) ⟨hi,h1,h2,xb⟩
  Q75 Q8W Q7k xb ⟨.ptr rfl,xb⟩ Opens.same ?_
 rintro⟨⟩ -
 repeat' (refine Ba ?_;first|refine Q55 ?_|refine Q51 ?_|fail)
 refine Ba ?_
 refine Bh (jlg Ext.none false most E hE 0 1 2 3 _ Q8F Q8F Q8I Q8F) λv ms hR=>?_
 rcases hR with ⟨hE0,_,_⟩|⟨cap,_,hcap,rfl,rfl⟩
 .rw[hE0] at hpos;exact absurd hpos Q8P
 have hmin:∀r,r<=E.length->1<=r->minT (λi=>if i<E.length then entT E i else Ent.zero) r=minT (entT E) r:=by
  intro r
  induction r with
  | zero=>intro _ h0;omega
  | succ r ih=>
   intro hr _;rcases xS r with rfl|h0
   .show(if 0<E.length then entT E 0 else Ent.zero)=entT E 0;rw[if_pos hpos]
   .rw[qis _ r h0,qis _ r h0,ih Q8E h0,if_pos (by omega:r<E.length)]
 have hm1:=hmin E.length (nlr _) hpos
 repeat' (refine Ba ?_;first|refine Q55 ?_|refine Q51 ?_|fail)
 refine Ba ?_
 refine Bb (jnd true cap _ E.length cap 3 _ Q8F hpos hcap Q8E) ?_
 rw[hm1]
 repeat' (refine Ba ?_;first|refine Q55 ?_|refine Q51 ?_|refine Bn ?_|refine Q5x ?_|refine Q5K ?_|exact Be|fail)
open Go Go.RowKit Sx
variable{α:Type}
theorem qbe(D:List (Int×α))(k:Int)(a:α):dGet (dPut D k a) k=some a:=by
 unfold dPut;cases hg:dGet D k with
 | none=>
  grind[dGet]
 | some b=>
  simp only;have hm:=qqd hg
  induction D with
  | nil=>cases hm
  | cons q D ih=>
   grind[dGet]
variable{n:Int}
theorem qcx(D:List (Int×α))(a:α)(h:n≠k):dGet (dPut D k a) n=dGet D n:=by
 unfold dPut;cases hg:dGet D k with
 | none=>
  grind[dGet]
 | some b=>
  simp only;clear hg;unfold dGet
  induction D with
  | nil=>rfl
  | cons q D ih=>
   grind
theorem qit(D:List (Int×α))(k:Int):dGet (jfr D k) k=none:=dGet_none.2 λq hq=>by
 have:=(List.mem_filter.1 hq).2;simp_all
theorem qlc(D:List (Int×α))(h:n≠k):dGet (jfr D k) n=dGet D n:=by
 grind[dGet,jfr]
def je5(lv:Int->Option jf8)(n:Int)(l:jf8)(m:Int):Option jf8:=if m=n then some l else lv m
variable{lv:Int->Option jf8}{β:LB}
theorem qql(h:qa5 lv β){r:jjq}{W:Win}(hg:dGet β.D n=some r)(hW:(r.q,W)∈β.F)(hl:lv n=some ⟨r.boot,r.left,W⟩)(b:Int)(l:Bool):qa5 (je5 lv n ⟨b,l,W⟩) ⟨dPut β.D n ⟨b,l,r.q⟩,β.F⟩:=by
 obtain⟨h1,h2,h3⟩:=h;have key:∀m s,dGet (dPut β.D n ⟨b,l,r.q⟩) m=some s->(m=n/\s=⟨b,l,r.q⟩)\/(m≠n/\dGet β.D m=some s):=λm s hs=>by
  grind[qbe,qcx]
 exact Q43
theorem jlh(T:Tbl)(n:Int)(e:Ent)(hg:dGet T.E n=some e)(i:Nat)(h:Hp)(hi:h[i]?=some (some (tblC T))):
  qae prog 73 [xd i,xc n] h (.tuple ⟨[entV e,.bool true]⟩) [(i,tblC (T))] []:=by
 refine qaq (G:=tys) (qa5 T.lives) (jf9 T) [⟨i,tblC T,tblC T,tblC (T)⟩] [] [xd 0,xc n] tysOK mixed func73 Q8F (call73) ⟨hi,xb⟩ ⟨Q74,xb⟩ Q8K Q77 xb Q79 qav ?_
 intro β hβ
 repeat' (refine Ba ?_;first|refine Q55 ?_|refine Q51 ?_|refine Q6P ?_|refine Q5q ?_|refine Q5b ?_|exact Be|fail)
theorem jli(T:Tbl)(n:Int)(hg:dGet T.E n=none)(i:Nat)(h:Hp)(hi:h[i]?=some (some (tblC T))):
  qae prog 73 [xd i,xc n] h (.tuple ⟨[entV Ent.zero,.bool false]⟩) [(i,tblC (T))] []:=by
 refine qaq (G:=tys) (qa5 T.lives) (jf9 T) [⟨i,tblC T,tblC T,tblC (T)⟩] [] [xd 0,xc n] tysOK mixed func73 Q8F (call73) ⟨hi,xb⟩ ⟨Q74,xb⟩ Q8K Q77 xb Q79 qav ?_
 intro β hβ
 repeat' (refine Ba ?_;first|refine Q55 ?_|refine Q51 ?_|refine Q6M ?_|refine Q5q ?_|refine Q5b ?_|exact Be|fail)
theorem qcy(h:qa5 lv β){l:jf8}(hl:lv n=some l):∃q,dGet β.D n=some ⟨l.boot,l.left,q⟩/\(q,l.W)∈β.F:=by
 cases hg:dGet β.D n with
 | none=>rw[h.1 n hg] at hl;cases hl
 | some r=>
  obtain⟨W,h1,h2⟩:=h.2.1 n r hg;rw[h2] at hl;obtain rfl:_=l:=by simpa using hl
  grind
theorem qe9(h:qa5 lv β)(hl:lv n=none):dGet β.D n=none:=by
 cases hg:dGet β.D n with
 | none=>rfl
 | some r=>
  obtain⟨W,_,h2⟩:=h.2.1 n r hg;simp_all
theorem q65(T:Tbl)(n:Int)(hn:0<=n/\n<64)(l:jf8)(hl:T.lives n=some l)(i:Nat)(h:Hp)(hi:h[i]?=some (some (tblC T))):
  qae prog 88 [xd i,xc n] h (.bool true) [(i,tblC (⟨T.most,jfr T.E n,je5 T.lives n ⟨l.boot,true,l.W⟩⟩))] []:=by
 refine qaq (G:=tys) (qa5 T.lives) (jf9 T) [⟨i,tblC T,tblC T,tblC (⟨T.most,jfr T.E n,je5 T.lives n ⟨l.boot,true,l.W⟩⟩)⟩] [] [xd 0,xc n] tysOK mixed func88 Q8F (call88) ⟨hi,xb⟩ ⟨Q74,xb⟩ Q8K Q77 xb Q79 qav ?_
 intro β hβ
 obtain⟨q,hg,hW⟩:=qcy hβ hl
 have hl2:qa5 (je5 T.lives n ⟨l.boot,true,l.W⟩) ⟨dPut β.D n ⟨l.boot,true,q⟩,β.F⟩:=qql hβ hg hW hl l.boot true
 repeat' (refine Ba ?_;first|refine Q55 ?_|refine Q51 ?_|refine qb8 jev β.D rfl underlying129 underlying3 type159 rfl (.tuple ⟨[jev ⟨l.boot,l.left,q⟩,.bool true]⟩) Q9m rfl ?_|refine jgc jev β.D ⟨l.boot,true,q⟩ rfl rfl ⟨by omega,by omega⟩ rfl underlying129 underlying3 ?_|refine jk8 entV T.E rfl rfl rfl underlying128 underlying3 ?_|refine qck (⟨T.most,jfr T.E n,je5 T.lives n ⟨l.boot,true,l.W⟩⟩) ⟨dPut β.D n ⟨l.boot,true,q⟩,β.F⟩ 0 1 2 [] qcg (λi hi=>.inl Q8U) hl2 Q8F Q8F Q8F Q8F Q8F Q8F Q8F Q8F Q8F Q8I (λk hk=>by cases hk) jg6 (qbt rfl) ?_|refine Q5b ?_|exact Be|fail)
theorem q66(T:Tbl)(n:Int)(hl:T.lives n=none)(i:Nat)(h:Hp)(hi:h[i]?=some (some (tblC T))):
  qae prog 88 [xd i,xc n] h (.bool false) [(i,tblC (T))] []:=by
 refine qaq (G:=tys) (qa5 T.lives) (jf9 T) [⟨i,tblC T,tblC T,tblC (T)⟩] [] [xd 0,xc n] tysOK mixed func88 Q8F (call88) ⟨hi,xb⟩ ⟨Q74,xb⟩ Q8K Q77 xb Q79 qav ?_
 intro β hβ
 have hg:=qe9 hβ hl
 repeat' (refine Ba ?_;first|refine Q55 ?_|refine Q51 ?_|refine qb8 jev β.D rfl underlying129 underlying3 type159 rfl (.tuple ⟨[.agg ⟨[xc 0,.bool false,.pointer none]⟩,.bool false]⟩) Q9m rfl ?_|refine Q5q ?_|refine Q5b ?_|exact Be|fail)
theorem qn2(K:Nat)(h:Hp)(hK:h[K]?=some none):qae prog 108 [] h (xd K) [(K,jpr true Win.zero)] []:=by
 refine qak (G:=tys) [] [⟨K,0,jpr true Win.zero⟩] [] tysOK mixed func108 Q8F (call108) xb xb xb ⟨⟨hK,rfl,Q9D,by simp⟩,xb⟩ xb ?_;repeat' (refine Ba ?_;first|refine Q55 ?_|refine Q51 ?_|refine Bc (.one (.ptr rfl)) ?_|refine Bc xb ?_|refine Bc ⟨⟨nlr _,_,rfl,id,nlr _,jm7⟩,xb⟩ ?_|exact Be|fail)
theorem q67(x:Ext)(o:Bool)(most:Int)(E:Ez)(D:Fz)(n boot:Int)(r:jjq)(hg:dGet D n=some r)(hb1:r.boot=boot)(hl:r.left=true)(i i1 i2:Nat)(h:Hp)(hi:h[i]?=some (some (jfy x o most i1 i2)))(h1:h[i1]?=some (some (mapC entV E)))(h2:h[i2]?=some (some (mapC jev D)))(hii:i≠i1/\i≠i2/\i1≠i2):
  qae prog 82 [xd i,xc n,xc boot] h (.tuple ⟨[.agg ⟨[xc 0,.bool false,.pointer none]⟩,xc 9]⟩) [(i1,mapC entV E),(i2,mapC jev D)] [i]:=by
 refine qaq (G:=tys) (λ_:Unit=>True) (λ_=>_) [⟨i,_,jgv most,noC⟩,⟨i1,mapC entV E,mapC entV E,mapC entV E⟩,⟨i2,mapC jev D,mapC jev D,mapC jev D⟩] [] [xd 0,xc n,xc boot] tysOK mixed func82 Q8F (call82) ⟨hi,h1,h2,xb⟩
  Q75 Q8W Q7k xb Q7c Opens.same ?_
 rintro⟨⟩ -
 obtain⟨rb,rl,rq⟩:=r
 have hb1:rb=boot:=hb1
 have hl:rl=true:=hl
 subst hb1 hl
 repeat' (refine Ba ?_;first|refine Q55 ?_|refine Q51 ?_|refine qb8 jev D rfl underlying129 underlying3 type159 rfl (.tuple ⟨[jev ⟨rb,true,rq⟩,.bool true]⟩) Q9m rfl ?_|refine Bg Q8P ?_|refine Bn ?_|refine Q5x ?_|refine Q5K ?_|exact Be|fail)
theorem qn3(x:Ext)(o:Bool)(most:Int)(E:Ez)(D:Fz)(n boot:Int)(r:jjq)(hg:dGet D n=some r)(hb1:r.boot=boot)(hl:r.left=false)(i i1 i2:Nat)(h:Hp)(hi:h[i]?=some (some (jfy x o most i1 i2)))(h1:h[i1]?=some (some (mapC entV E)))(h2:h[i2]?=some (some (mapC jev D)))(hii:i≠i1/\i≠i2/\i1≠i2):
  qae prog 82 [xd i,xc n,xc boot] h (.tuple ⟨[jev ⟨boot,false,r.q⟩,xc 0]⟩) [(i1,mapC entV E),(i2,mapC jev D)] [i]:=by
 refine qaq (G:=tys) (λ_:Unit=>True) (λ_=>_) [⟨i,_,jgv most,noC⟩,⟨i1,mapC entV E,mapC entV E,mapC entV E⟩,⟨i2,mapC jev D,mapC jev D,mapC jev D⟩] [] [xd 0,xc n,xc boot] tysOK mixed func82 Q8F (call82) ⟨hi,h1,h2,xb⟩
  Q75 Q8W Q7k xb Q7c Opens.same ?_
 rintro⟨⟩ -
 obtain⟨rb,rl,rq⟩:=r
 have hb1:rb=boot:=hb1
 have hl:rl=false:=hl
 subst hb1 hl
 repeat' (refine Ba ?_;first|refine Q55 ?_|refine Q51 ?_|refine qb8 jev D rfl underlying129 underlying3 type159 rfl (.tuple ⟨[jev ⟨rb,false,rq⟩,.bool true]⟩) Q9m rfl ?_|refine Bg Q8P ?_|refine Bn ?_|refine Q5x ?_|refine Q5K ?_|exact Be|fail)
theorem q68(x:Ext)(o:Bool)(most:Int)(E:Ez)(D:Fz)(n boot:Int)(r:jjq)(hg:dGet D n=some r)(hb1:r.boot≠boot)(hl:¬ (0<je1 r.boot boot/\je1 r.boot boot<32768))(i i1 i2:Nat)(h:Hp)(hi:h[i]?=some (some (jfy x o most i1 i2)))(h1:h[i1]?=some (some (mapC entV E)))(h2:h[i2]?=some (some (mapC jev D)))(hii:i≠i1/\i≠i2/\i1≠i2):
  qae prog 82 [xd i,xc n,xc boot] h (.tuple ⟨[.agg ⟨[xc 0,.bool false,.pointer none]⟩,xc 9]⟩) [(i1,mapC entV E),(i2,mapC jev D)] [i]:=by
 refine qaq (G:=tys) (λ_:Unit=>True) (λ_=>_) [⟨i,_,jgv most,noC⟩,⟨i1,mapC entV E,mapC entV E,mapC entV E⟩,⟨i2,mapC jev D,mapC jev D,mapC jev D⟩] [] [xd 0,xc n,xc boot] tysOK mixed func82 Q8F (call82) ⟨hi,h1,h2,xb⟩
  Q75 Q8W Q7k xb Q7c Opens.same ?_
 rintro⟨⟩ -
 repeat' (refine Ba ?_;first|refine Q55 ?_|refine Q51 ?_|refine Q6k ?_|refine Q6D ?_|refine Bg (by rw[xe hl];rfl) ?_|refine Bn ?_|refine Q5x ?_|refine Q5K ?_|exact Be|fail)
def je9(E:Ez)(n:Int):Ez:=match dGet E n with
 | some e=>dPut E n ⟨n,e.boot,e.heard,false,0,0,0,0,0,0⟩
 | none=>E
theorem q2g(x:Ext)(o:Bool)(most:Int)(E:Ez)(D:Fz)(n boot:Int)(hn:0<=n/\n<64)(hg:dGet D n=none)(e:Ent)(hE:dGet E n=some e)(i i1 i2:Nat)(h:Hp)(hi:h[i]?=some (some (jfy x o most i1 i2)))(h1:h[i1]?=some (some (mapC entV E)))(h2:h[i2]?=some (some (mapC jev D)))(hii:i≠i1/\i≠i2/\i1≠i2)(K:Nat)(hK:h[K]?=some none)(hKi:K≠i1/\K≠i2):
  CallAll prog 82 [xd i,xc n,xc boot] h (λv ms=>∃q:Nat×Nat,v=.tuple ⟨[jev ⟨boot,false,q⟩,xc 0]⟩/\ms=[(i1,mapC entV (je9 E n)),(i2,mapC jev D),(K,winX (atX q) Win.zero)]):=by
 refine qax (qa8 (G:=tys) (λ_:Unit=>True) (λ_=>_) (α:=Nat×Nat) (λ_=>True) (λq=>.tuple ⟨[jev ⟨boot,false,q⟩,xc 0]⟩) [⟨i,_,jgv most,noC⟩,⟨i1,mapC entV E,mapC entV E,mapC entV E⟩,⟨i2,mapC jev D,mapC jev D,mapC jev D⟩] (λ_=>[noC,mapC entV (je9 E n),mapC jev D]) (λq=>[⟨K,6,winX (atX q) Win.zero⟩]) [xd 0,xc n,xc boot] tysOK mixed func82 Q8F (call82) ⟨hi,h1,h2,xb⟩
  Q75 (λ_ _=>Q75) Q8W Q7k (λq _=>⟨⟨hK,rfl,.inl Q9D,by simp⟩,xb⟩) Q7c Opens.same ?_) ?_
 rotate_left
 .exact Q3m
 rintro⟨⟩ -
 have hbe:je9 E n=dPut E n ⟨n,e.boot,e.heard,false,0,0,0,0,0,0⟩:=by unfold je9;rw[hE]
 rw[hbe]
 repeat' (refine Ba ?_;first|refine Q55 ?_|refine Q51 ?_|refine Q6A ?_|refine Q66 ?_|fail)
 refine Ba ?_
 refine qip (k:=6) (λq=>.tuple ⟨[jev ⟨boot,false,q⟩,xc 0]⟩) Q8F (λq ρ hρ=>by simp[den,den2,den1,den0,jfd,je0,hρ]) λq=>?_
 refine Bn ?_
 refine Bt q ⟨xb,?_⟩
 refine Bc (.plain rfl) ?_
 refine Bc Q8b ?_
 refine Bc Q7P ?_
 refine Bc Q7D ?_
 exact Be
theorem qt4(x:Ext)(o:Bool)(most:Int)(E:Ez)(D:Fz)(n boot:Int)(hn:0<=n/\n<64)(hg:dGet D n=none)(hE:dGet E n=none)(i i1 i2:Nat)(h:Hp)(hi:h[i]?=some (some (jfy x o most i1 i2)))(h1:h[i1]?=some (some (mapC entV E)))(h2:h[i2]?=some (some (mapC jev D)))(hii:i≠i1/\i≠i2/\i1≠i2)(K:Nat)(hK:h[K]?=some none)(hKi:K≠i1/\K≠i2):
  CallAll prog 82 [xd i,xc n,xc boot] h (λv ms=>∃q:Nat×Nat,v=.tuple ⟨[jev ⟨boot,false,q⟩,xc 0]⟩/\ms=[(i1,mapC entV (je9 E n)),(i2,mapC jev D),(K,winX (atX q) Win.zero)]):=by
 refine qax (qa8 (G:=tys) (λ_:Unit=>True) (λ_=>_) (α:=Nat×Nat) (λ_=>True) (λq=>.tuple ⟨[jev ⟨boot,false,q⟩,xc 0]⟩) [⟨i,_,jgv most,noC⟩,⟨i1,mapC entV E,mapC entV E,mapC entV E⟩,⟨i2,mapC jev D,mapC jev D,mapC jev D⟩] (λ_=>[noC,mapC entV (je9 E n),mapC jev D]) (λq=>[⟨K,6,winX (atX q) Win.zero⟩]) [xd 0,xc n,xc boot] tysOK mixed func82 Q8F (call82) ⟨hi,h1,h2,xb⟩
  Q75 (λ_ _=>Q75) Q8W Q7k (λq _=>⟨⟨hK,rfl,.inl Q9D,by simp⟩,xb⟩) Q7c Opens.same ?_) ?_
 rotate_left
 .exact Q3m
 rintro⟨⟩ -
 have hbe:je9 E n=E:=by unfold je9;rw[hE]
 rw[hbe]
 repeat' (refine Ba ?_;first|refine Q55 ?_|refine Q51 ?_|refine Q6A ?_|refine Q6B ?_|fail)
 refine Ba ?_
 refine qip (k:=6) (λq=>.tuple ⟨[jev ⟨boot,false,q⟩,xc 0]⟩) Q8F (λq ρ hρ=>by simp[den,den2,den1,den0,jfd,je0,hρ]) λq=>?_
 refine Bn ?_
 refine Bt q ⟨xb,?_⟩
 refine Bc (.plain rfl) ?_
 refine Bc Q8b ?_
 refine Bc Q7P ?_
 refine Bc Q7D ?_
 exact Be
theorem q2h(x:Ext)(o:Bool)(most:Int)(E:Ez)(D:Fz)(n boot:Int)(hn:0<=n/\n<64)(r:jjq)(hg:dGet D n=some r)(hb1:r.boot≠boot)(hl:0<je1 r.boot boot/\je1 r.boot boot<32768)(e:Ent)(hE:dGet E n=some e)(i i1 i2:Nat)(h:Hp)(hi:h[i]?=some (some (jfy x o most i1 i2)))(h1:h[i1]?=some (some (mapC entV E)))(h2:h[i2]?=some (some (mapC jev D)))(hii:i≠i1/\i≠i2/\i1≠i2)(K:Nat)(hK:h[K]?=some none)(hKi:K≠i1/\K≠i2):
  CallAll prog 82 [xd i,xc n,xc boot] h (λv ms=>∃q:Nat×Nat,v=.tuple ⟨[jev ⟨boot,false,q⟩,xc 0]⟩/\ms=[(i1,mapC entV (je9 E n)),(i2,mapC jev D),(K,winX (atX q) Win.zero)]):=by
 refine qax (qa8 (G:=tys) (λ_:Unit=>True) (λ_=>_) (α:=Nat×Nat) (λ_=>True) (λq=>.tuple ⟨[jev ⟨boot,false,q⟩,xc 0]⟩) [⟨i,_,jgv most,noC⟩,⟨i1,mapC entV E,mapC entV E,mapC entV E⟩,⟨i2,mapC jev D,mapC jev D,mapC jev D⟩] (λ_=>[noC,mapC entV (je9 E n),mapC jev D]) (λq=>[⟨K,6,winX (atX q) Win.zero⟩]) [xd 0,xc n,xc boot] tysOK mixed func82 Q8F (call82) ⟨hi,h1,h2,xb⟩
  Q75 (λ_ _=>Q75) Q8W Q7k (λq _=>⟨⟨hK,rfl,.inl Q9D,by simp⟩,xb⟩) Q7c Opens.same ?_) ?_
 rotate_left
 .exact Q3m
 rintro⟨⟩ -
 have hbe:je9 E n=dPut E n ⟨n,e.boot,e.heard,false,0,0,0,0,0,0⟩:=by unfold je9;rw[hE]
 rw[hbe]
 repeat' (refine Ba ?_;first|refine Q55 ?_|refine Q51 ?_|refine Q6k ?_|refine Q66 ?_|refine Q6D ?_|refine Bf (by rw[xf hl];rfl) ?_|fail)
 refine Ba ?_
 refine qip (k:=6) (λq=>.tuple ⟨[jev ⟨boot,false,q⟩,xc 0]⟩) Q8F (λq ρ hρ=>by simp[den,den2,den1,den0,jfd,je0,hρ]) λq=>?_
 refine Bn ?_
 refine Bt q ⟨xb,?_⟩
 refine Bc (.plain rfl) ?_
 refine Bc Q8b ?_
 refine Bc Q7P ?_
 refine Bc Q7D ?_
 exact Be
theorem qt5(x:Ext)(o:Bool)(most:Int)(E:Ez)(D:Fz)(n boot:Int)(hn:0<=n/\n<64)(r:jjq)(hg:dGet D n=some r)(hb1:r.boot≠boot)(hl:0<je1 r.boot boot/\je1 r.boot boot<32768)(hE:dGet E n=none)(i i1 i2:Nat)(h:Hp)(hi:h[i]?=some (some (jfy x o most i1 i2)))(h1:h[i1]?=some (some (mapC entV E)))(h2:h[i2]?=some (some (mapC jev D)))(hii:i≠i1/\i≠i2/\i1≠i2)(K:Nat)(hK:h[K]?=some none)(hKi:K≠i1/\K≠i2):
  CallAll prog 82 [xd i,xc n,xc boot] h (λv ms=>∃q:Nat×Nat,v=.tuple ⟨[jev ⟨boot,false,q⟩,xc 0]⟩/\ms=[(i1,mapC entV (je9 E n)),(i2,mapC jev D),(K,winX (atX q) Win.zero)]):=by
 refine qax (qa8 (G:=tys) (λ_:Unit=>True) (λ_=>_) (α:=Nat×Nat) (λ_=>True) (λq=>.tuple ⟨[jev ⟨boot,false,q⟩,xc 0]⟩) [⟨i,_,jgv most,noC⟩,⟨i1,mapC entV E,mapC entV E,mapC entV E⟩,⟨i2,mapC jev D,mapC jev D,mapC jev D⟩] (λ_=>[noC,mapC entV (je9 E n),mapC jev D]) (λq=>[⟨K,6,winX (atX q) Win.zero⟩]) [xd 0,xc n,xc boot] tysOK mixed func82 Q8F (call82) ⟨hi,h1,h2,xb⟩
  Q75 (λ_ _=>Q75) Q8W Q7k (λq _=>⟨⟨hK,rfl,.inl Q9D,by simp⟩,xb⟩) Q7c Opens.same ?_) ?_
 rotate_left
 .exact Q3m
 rintro⟨⟩ -
 have hbe:je9 E n=E:=by unfold je9;rw[hE]
 rw[hbe]
 repeat' (refine Ba ?_;first|refine Q55 ?_|refine Q51 ?_|refine Q6k ?_|refine Q6B ?_|refine Q6D ?_|refine Bf (by rw[xf hl];rfl) ?_|fail)
 refine Ba ?_
 refine qip (k:=6) (λq=>.tuple ⟨[jev ⟨boot,false,q⟩,xc 0]⟩) Q8F (λq ρ hρ=>by simp[den,den2,den1,den0,jfd,je0,hρ]) λq=>?_
 refine Bn ?_
 refine Bt q ⟨xb,?_⟩
 refine Bc (.plain rfl) ?_
 refine Bc Q8b ?_
 refine Bc Q7P ?_
 refine Bc Q7D ?_
 exact Be
end Go.Proofs.YtfkngpmgcimdbaaGreat
