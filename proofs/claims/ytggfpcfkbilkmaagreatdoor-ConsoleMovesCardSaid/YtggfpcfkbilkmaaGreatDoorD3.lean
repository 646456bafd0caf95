/-
  Stretches that bear blocks of their own: how they are opened and closed; contracts of callees that take or make such.
-/
import Derived.MapKept
import Derived.WalkKit
import Derived.WalkSpells
import Derived.WalkLawsBesides
import Derived.ProofKit
import Derived.OpenShut
import Derived.ChangeOld
import Derived.SizedLaws
import Derived.Lib.Hide
import Derived.Deep.Slices
import Derived.Test.YtggfpcfkbilkmaaGreatDoorRows
import Derived.Laws.BytesArg
import Derived.Laws.OwnMore
import Derived.Laws.IdiomCopy
import Derived.Test.YtggfpcfkbilkmaaGreatDoorProg
import Derived.KernelRfl
import Derived.Shelf.SlIterI.Nil
import Derived.Shelf.SortM.Plain
import Derived.Shelf.SortM.SortNone
import Derived.Ground.GgzProg
import Derived.Ground.SlgmProg
import Derived.WideShapes
import Derived.Test.YtggfpcfkbilkmaaGreatDoorD2
set_option linter.unusedVariables false
set_option linter.unusedSimpArgs false
set_option maxRecDepth 100000
set_option maxHeartbeats 20000000
theorem Go.Proofs.xz:type_of% @List.nodup_cons:=@List.nodup_cons
theorem Go.Proofs.yd:type_of% @Nat.div_lt_iff_lt_mul:=@Nat.div_lt_iff_lt_mul
theorem Go.Proofs.xK:type_of% @Nat.div_add_mod:=@Nat.div_add_mod
theorem Go.Proofs.xq:type_of% @Nat.mul_comm:=@Nat.mul_comm
theorem Go.Proofs.x8:type_of% @Nat.lt_of_le_of_lt:=@Nat.lt_of_le_of_lt
theorem Go.Proofs.y2:type_of% @Nat.eq_zero_or_pos:=@Nat.eq_zero_or_pos
theorem Go.Proofs.xD:type_of% @decide_eq_false_iff_not:=@decide_eq_false_iff_not
theorem Go.Proofs.yy:type_of% @Nat.mul_le_mul_right:=@Nat.mul_le_mul_right
theorem Go.Proofs.xE:type_of% @List.nodup_nil:=@List.nodup_nil
theorem Go.Proofs.xv:type_of% @not_false_eq_true:=@not_false_eq_true
theorem Go.Proofs.yg:type_of% @ge_iff_le:=@ge_iff_le
theorem Go.Proofs.yh:type_of% @gt_iff_lt:=@gt_iff_lt
theorem Go.Proofs.xU:type_of% @Nat.mul_one:=@Nat.mul_one
open Go.Proofs.Tryz
namespace Go.Proofs
section
variable{Z Y:Prop}
theorem Q18(h:Z:=by obtain⟨rfl,rfl⟩:=one k d hk;exact absurd hj (xS j)):Z:=h
theorem Q1s(h:Z:=by
 intro hp;simp only[yl,xi] at hp;exact⟨Den.plain hp.1,ih hp.2⟩):Z:=h
theorem Q1t(h:Z:=by
 rw[e] at h1;exact(h1 (0,0) (λ_=>False) default λ_ h=>h).elim):Z:=h
theorem Q1B(h:Z:=by ·exact⟨d,by rw[xt (Ne.symm hne),xt ei];exact hd⟩):Z:=h
theorem Q1D(h:Z:=by
 obtain⟨b1,b2,b3⟩:=V.base W hW;exact⟨b1,xH b2 hB.size,λb hb=>⟨.inl (b3 b hb).1,(hB.block b (xh hb b2)).trans (b3 b hb).2⟩⟩):Z:=h
theorem Q1E(h:Z:=by
 obtain⟨rfl,rfl⟩:=one k d hk;exact⟨.inl rfl,hS.2,.inr ⟨hS.2,λ_=>hS.2⟩⟩):Z:=h
theorem Q1H(h:Z:=by
 cases k with
 | zero=>exact⟨rfl,by simpa using hk.symm⟩
 | succ k=>simp at hk):Z:=h
theorem Q1O(h:Z:=by
 simp[execOp,ho,resolve,invoke,builtin,hx',uR,uN,Builtin.len_,Sem.run_bind,Sem.run_pure,Result.andThen_ok,run_underlying he,Builtin.lenOf];rfl):Z:=h
theorem Q1Z(h:Z:=by
 subst ek;rw[xr (by rw[List.length_set,qfk,hbl];exact hkl),qbt nk,xt hik,hk]):Z:=h
theorem Q22(h:Z:=by ·exact absurd ((one l e hl).1.trans (one k d hk).1.symm) hne):Z:=h
theorem Q23(h:Z:=by exact absurd ((one k d hk).1.trans (one l e hl).1.symm) hne):Z:=h
theorem Q25(h:Z:=by
 subst ei;rw[xr (by rw[qfk,hbl];exact hil),qbt ni,xr hil]):Z:=h
theorem Q2a(h:Z:=by
 have hB:S j b:=by
  simp_all
 obtain⟨a1,a2⟩:=E.apart j _ b l _ h3 hB g3 hne;simp_all):Z:=h
theorem Q2b(h:Z:=by
 have:=congrArg (λl=>l.map Prod.fst) M.ents;simpa[List.map_map,Function.comp_def] using this):Z:=h
theorem Q2g(h:Z:=by
 rcases yc k X.n0 with h1|h1
 .exact absurd (H.base k h1).1 nf
 .exact h1):Z:=h
theorem Q2k(h:Z:=by
 cases h with
 | nil h=>subst h;exact .nil
 | new hb=>exact .own (yp ..)):Z:=h
theorem Q2y(h:Z:=by
 by_cases ejk:j=k
 .grind
 .exact(if_neg ejk).trans (hr j ⟨ejk,hj⟩)):Z:=h
theorem Q2z(h:Z:=by exact .inr ⟨hr,hcl.mono λe w' ⟨x,he,hq⟩=>⟨x,he,close x w' hq⟩⟩):Z:=h
theorem Q2C(h:Z:=by unfold World.freeze;rw[if_neg Q4T]):Z:=h
theorem Q2M(k:Y)(h:Wr Y->Z:=by intro kQ;(first|with_reducible (first|refine N.eq ?_|refine Bb rfl ?_|refine Bb ⟨by kernel_rfl,by kernel_rfl⟩ ?_|refine N.alt ?_|refine N.forkT ?_|refine N.forkF ?_)|fail);exact kQ.o):Z:=h ⟨k⟩
theorem Q2O(k:Y)(h:Wr Y->Z:=by intro kQ;(first|with_reducible refine Bb Q4T ?_|fail);exact kQ.o):Z:=h ⟨k⟩
theorem Q3y(k:Y)(h:Wr Y->Z:=by intro kQ;(first|with_reducible (first|refine N.min2 ?_|refine N.max2 ?_)|fail);exact kQ.o):Z:=h ⟨k⟩
theorem Q4G(h:Z:=by first|exact ⟨xb,.inr ⟨_,rfl,rfl⟩,xb⟩|fail):Z:=h
theorem Q4Q(h:Z:=by first|exact qag _|exact qap _ _ _|rfl|(simp only[qar,yl,List.all_nil,qac,qad,qaf];rfl)):Z:=h
theorem Q4R(h:Z:=by rfl):Z:=h
theorem Q4S(h:Z:=by first|rfl|(simp only[yl,List.all_nil,qac,qad,qaf];rfl)):Z:=h
theorem Q4T(h:Z:=by decide):Z:=h
theorem Q4U(h:Z:=by kernel_rfl):Z:=h
theorem Q4V(h:Z:=by first|(simp;done)|(simp;omega)|omega):Z:=h
theorem Q5i(h:Z:=by go_simp):Z:=h
theorem Q5u(h:Z:=by repeat (first|with_reducible exact hB|with_reducible exact Below.refl _ _|with_reducible apply Below.drew|with_reducible apply qbv|with_reducible refine Below.alloc ?_ Q4V _|with_reducible refine Below.setCell ?_ Q4V _)):Z:=h
theorem Q5z(h:Z:=by simpa using hkl):Z:=h
end
end Go.Proofs

namespace Go.Proofs.YtggfpcfkbilkmaaGreatDoor.Sx
open Go Go.RowKit
structure jcw(X:Ctx)(ρ':Rz)(h':Hp)(w:World)(F:Nat->Prop)(T:Nat->Nat->Prop)(k:Nat)(d:Chunk):Prop where
 blk:F (ρ' k).1
 cell:∀j,j<d.n->∃x,w.cell? ⟨(ρ' k).1,(ρ' k).2+j,none⟩=some x/\Den1 (Fil h') ρ' (d.f j) x
 own:d.own=true->∀j,j<d.n->w.frozen? ⟨(ρ' k).1,(ρ' k).2+j,none⟩=false
 inv:d.x.inv (ρ' k) (T k) w
 foot:∀b,T k b->F b/\(d.n=0\/b≠(ρ' k).1)
variable{X:Ctx}{ρ:Rz}{w:World}
theorem HOK.redo{ρ':Rz}{h h':Hp}{S T:Nat->Nat->Prop}(H:HOK X ρ h w)(E:ExtOK X ρ h w S)(J A F:Nat->Prop)
  (hF:∀b,F b->∃(j:Nat)(c:Chunk),J j/\h[j]?=some (some c)/\((c.own=true/\b=(ρ j).1)\/S j b)) (hmay:∀b,F b->May X b)
  (hbase:∀i,i<X.n0->Fil h' i/\ρ' i=ρ i)
  (hold:∀(k:Nat)(d:Chunk),h'[k]?=some (some d)->¬ A k->¬ J k/\ρ' k=ρ k/\h[k]?=some (some d)/\∀j,j<d.n->∀x,Den1 (Fil h) ρ (d.f j) x->Den1 (Fil h') ρ' (d.f j) x)
  (hnew:∀(k:Nat)(d:Chunk),h'[k]?=some (some d)->A k->jcw X ρ' h' w F T k d)
  (hsep:∀(k:Nat)(d:Chunk)(l:Nat)(e:Chunk),h'[k]?=some (some d)->A k->h'[l]?=some (some e)->A l->k≠l->(d.own=true->(ρ' k).1≠(ρ' l).1)/\∀b,T k b->(ρ' l).1≠b/\¬ T l b):HOK X ρ' h' w:=by
 have outF:∀(k:Nat)(e:Chunk),h[k]?=some (some e)->¬ J k->¬ F (ρ k).1:=λk e hk hJ hb=>by
  obtain⟨j,c,hj,hc,hb⟩:=hF _ hb;have hne:j≠k:=λe=>hJ (e▸hj)
  rcases hb with ⟨ho,hb⟩|hb
  .exact H.sep _ _ _ _ hc ho hk hne hb.symm
  .exact(E.apart _ _ _ _ _ hc hb hk hne.symm).1 rfl
 have outS:∀(k:Nat)(e:Chunk)(b:Nat),h[k]?=some (some e)->¬ J k->S k b->¬ F b:=λk e b hk hJ hS hb=>by
  obtain⟨j,c,hj,hc,hb⟩:=hF _ hb;have hne:j≠k:=λe=>hJ (e▸hj)
  obtain⟨a1,a2⟩:=E.apart _ _ b _ _ hk hS hc hne
  grind
 have inF:∀b,F b->b<w.heap.size:=λb hb=>by
  obtain⟨j,c,hj,hc,hb⟩:=hF _ hb;rcases hb with ⟨ho,rfl⟩|hb
  .exact H.lt _ _ hc
  .exact(E.mine _ _ _ hc hb).2.1
 refine⟨H.evo,λi hi=>⟨(hbase i hi).1,(hbase i hi).2.trans (H.base i hi).2⟩,λk d hk=>?_,λk d hk j hj=>?_,λk d hk ho j hj=>?_,λk d l e hk ho hl hne=>?_,?_⟩
 .by_cases hA:A k
  .exact inF _ (hnew k d hk hA).blk
  .obtain⟨_,hρ,hk',_⟩:=hold k d hk hA;rw[hρ];exact H.lt _ _ hk'
 .by_cases hA:A k
  .exact(hnew k d hk hA).cell j hj
  .obtain⟨_,hρ,hk',hd⟩:=hold k d hk hA;rw[hρ];obtain⟨x,hx,hx2⟩:=H.cell _ _ hk' j hj
   grind
 .by_cases hA:A k
  .refine⟨(hnew k d hk hA).own ho j hj,?_⟩;rcases hmay _ (hnew k d hk hA).blk with h1|h1
   .exact .inl h1
   grind
  .obtain⟨_,hρ,hk',_⟩:=hold k d hk hA;rw[hρ];exact H.own _ _ hk' ho j hj
 .by_cases hA:A k<;>by_cases hB:A l
  .grind
  .obtain⟨hJ,hρ,hl',_⟩:=hold l e hl hB;rw[hρ];exact λe'=>outF l e hl' hJ (e'▸(hnew k d hk hA).blk)
  .obtain⟨hJ,hρ,hk',_⟩:=hold k d hk hA;rw[hρ];exact λe'=>outF k d hk' hJ (e'▸(hnew l e hl hB).blk)
  .obtain⟨hJ,hρ,hk',_⟩:=hold k d hk hA;obtain⟨hJ2,hρ2,hl',_⟩:=hold l e hl hB;rw[hρ,hρ2];exact H.sep _ _ _ _ hk' ho hl' hne
 .refine⟨λk b=>(A k/\T k b)\/(¬ A k/\S k b),λk d hk=>?_,λk d b hk hS=>?_,λk d b l e hk hS hl hne=>?_⟩
  .by_cases hA:A k
   .have:(λb=>(A k/\T k b)\/(¬ A k/\S k b))=T k:=by
     grind
    rw[this];exact(hnew k d hk hA).inv
   .have:(λb=>(A k/\T k b)\/(¬ A k/\S k b))=S k:=by
     grind
    rw[this];obtain⟨_,hρ,hk',_⟩:=hold k d hk hA;rw[hρ];exact E.inv k d hk'
  .rcases hS with ⟨hA,hT⟩|⟨hA,hS⟩
   .obtain⟨h1,h2⟩:=(hnew k d hk hA).foot b hT
    grind
   .obtain⟨_,hρ,hk',_⟩:=hold k d hk hA;rw[hρ];exact E.mine k d b hk' hS
  .rcases hS with ⟨hA,hT⟩|⟨hA,hS⟩
   .by_cases hB:A l
    .grind
    .obtain⟨hJ,hρ,hl',_⟩:=hold l e hl hB;have hFb:=((hnew k d hk hA).foot b hT).1
     grind
   .obtain⟨hJ,hρ,hk',_⟩:=hold k d hk hA;by_cases hB:A l
    .refine⟨λe'=>outS k d b hk' hJ hS (e'▸(hnew l e hl hB).blk),λh=>?_⟩;rcases h with h|h
     .exact outS k d b hk' hJ hS ((hnew l e hl hB).foot b h.2).1
     grind
    .obtain⟨_,hρ2,hl',_⟩:=hold l e hl hB;obtain⟨a1,a2⟩:=E.apart k d b l e hk' hS hl' hne
     grind
structure Tidy(X:Ctx)(ss:List q3w):Prop where
 n0:X.n0=ss.length
 m:∀b j,X.M ⟨b,j,none⟩->(∃k,k<X.n0/\b=(X.ρ0 k).1)\/May X b
 x:∀(k:Nat)(s:q3w),ss[k]?=some s->s.e.x≠Ext.none->Selfish s.e.x->May X (X.ρ0 k).1
variable{ss:List q3w}
theorem Tidy.may{h:Hp}(T:Tidy X ss)(H:HOK X ρ h w){j:Nat}{c:Chunk}(hj:h[j]?=some (some c))(ho:c.own=true)(hn:0<c.n)(hl:ss.length<=j):May X (ρ j).1:=by
 rcases(H.own j c hj ho 0 hn).2 with h1|h1
 .exact .inl h1
 .rcases T.m _ _ h1 with ⟨k,hk,hb⟩|h2
  .obtain⟨⟨d,hd⟩,hρ⟩:=H.base k hk;have:=H.sep j c k d hj ho hd (by have:=T.n0;omega);simp_all
  .exact h2
theorem Tidy.mayX{h:Hp}(T:Tidy X ss)(H:HOK X ρ h w){k:Nat}{s:q3w}(hk:ss[k]?=some s)(hx:s.e.x≠Ext.none)(hs:Selfish s.e.x):May X (ρ k).1:=by
 have hl:=(xe.1 hk).1;rw[(H.base k (by rw[T.n0];exact hl)).2];exact T.x k s hk hx hs
def q51(ss:List q3w)(h:Hp)(v:Value)(K:Value->Hp->Prop):Prop:=
 ∀X ρ w x,Tidy X ss->HOK X ρ h w->Den (Fil h) ρ v x->∃v' h' ρ',HOK X ρ' h' w/\Den (Fil h') ρ' v' x/\K v' h'
variable{K:Value->Hp->Prop}
theorem Bj{h:Hp}{v:Value}(k:K v h):N (q51 ss h v K):=N.mk λX ρ w x _ H hd=>⟨v,h,ρ,H,hd,k⟩
def Opens(ss:List q3w){B:Type}(okB:B->Prop)(h1:B->Hp):Prop:=
 ∀X ρ w,Tidy X ss->HOK X ρ (partH ss) w->∃β,okB β/\∃ρ',AgreeOn (Fil (partH ss)) ρ ρ'/\(∀i,Fil (partH ss) i->Fil (h1 β) i)/\HOK X ρ' (h1 β) w
theorem Opens.same:Opens ss (λ_:Unit=>True) (λ_=>partH ss):=λX ρ w _ H=>⟨(),xb,ρ,AgreeOn.refl _ _,λ_ h=>h,H⟩
def PartsX:List q3w->Prop
 | []=>True
 | s::r=>(s.e.x=Ext.none\/(s.e.own=true/\s.e.x=s.c.x))/\PartsX r
theorem PartsX.at:∀{ss:List q3w},PartsX ss->∀s∈ss,qr1 s
 | t::r,hp,s,hs=>by
  rcases xf.1 hs with rfl|hs
  .exact hp.1
  .exact PartsX.at hp.2 s hs
def PostX(h:Hp):List q3w->Nat->Prop
 | [],_=>True
 | s::r,k=>(s.d.x=Ext.none\/∃c,h[k]?=some (some c)/\s.d.x=c.x)/\PostX h r (k+1)
theorem PostX.at{h:Hp}:∀{ss:List q3w}{k0:Nat},PostX h ss k0->∀(l:Nat)(s:q3w),ss[l]?=some s->s.d.x=Ext.none\/∃c,h[k0+l]?=some (some c)/\s.d.x=c.x
 | a::r,k0,hp,0,s,hl=>by simp at hl;subst hl;exact hp.1
 | a::r,k0,hp,l+1,s,hl=>by
  rw[show k0+(l+1)=k0+1+l by omega];exact PostX.at hp.2 l s Q5e
def MadeX(h:Hp):List q38->Prop
 | []=>True
 | n::r=>(h[n.i]?=some none/\n.d.own=true/\(0<n.d.n\/Selfish n.d.x)/\∀m∈r,n.i≠m.i/\n.k≠m.k)/\MadeX h r
theorem MadeX.at{h:Hp}:∀{ns:List q38},MadeX h ns->∀n∈ns,h[n.i]?=some none/\n.d.own=true/\(0<n.d.n\/Selfish n.d.x)
 | t::r,hp,s,hs=>by
  rcases xf.1 hs with rfl|hs
  .exact⟨hp.1.1,hp.1.2.1,hp.1.2.2.1⟩
  .exact MadeX.at hp.2 s hs
theorem MadeX.ne{h:Hp}:∀{ns:List q38},MadeX h ns->∀n∈ns,∀m∈ns,(n.i=m.i\/n.k=m.k)->n=m
 | t::r,hp,n,hn,m,hm,he=>by
  rcases xf.1 hn with h1|h1<;>rcases xf.1 hm with h2|h2
  .rw[h1,h2]
  .have:=hp.1.2.2.2 m h2;rw[h1] at he;omega
  .have:=hp.1.2.2.2 n h1;rw[h2] at he;omega
  .exact MadeX.ne hp.2 n h1 m h2 he
def MadeP(h:Hp):List q38->Prop
 | []=>True
 | n::r=>(n.d.x=Ext.none\/∃c,h[n.k]?=some (some c)/\n.d.x=c.x)/\MadeP h r
theorem MadeP.at{h:Hp}:∀{ns:List q38},MadeP h ns->∀n∈ns,n.d.x=Ext.none\/∃c,h[n.k]?=some (some c)/\n.d.x=c.x
 | t::r,hp,s,hs=>by
  rcases xf.1 hs with rfl|hs
  .exact hp.1
  .exact MadeP.at hp.2 s hs
theorem qnd{F F':Nat->Prop}{ρ ρ':Rz}(ha:AgreeOn F ρ ρ')(hF:∀i,F i->F' i):∀{vs xs:List Value},All2 (Den F ρ) vs xs->All2 (Den F' ρ') vs xs
 | [],[],_=>trivial
 | [],_::_,h=>h.elim
 | _::_,[],h=>h.elim
 | _::_,_::_,h=>⟨h.1.more ha hF,qnd ha hF h.2⟩
section
variable{P:Program}{G:Tys}
theorem qop{ss:List q3w}{ρ:Rz}{w:World}{S:Nat->Nat->Prop}{h:Hp}{X:Ctx}(hI:∀s∈ss,h[s.i]?=some (some s.c))(hex:PartsX ss)(E:ExtOK X ρ h w S):Tidy ⟨w,subM ρ S ss,ss.length,λk=>ρ (q5g ss k)⟩ ss:=by
 have hσ:∀k s,ss[k]?=some s->q5g ss k=s.i:=λk s hk=>by show(match ss[k]? with|some s=>s.i|none=>0)=s.i;rw[hk]
 refine⟨rfl,λb j hm=>?_,λk s hk hx hs=>?_⟩
 .rcases hm with ⟨_,s,hs,_,hb,_⟩|⟨s,hs,ho,hb⟩
  .obtain⟨l,hl,hlt⟩:=yB hs;have hl':ss[l]?=some s:=by rw[xn hl,hlt]
   grind
  .exact .inr (.inr ⟨.inr ⟨s,hs,ho,hb⟩,λj=>.inr ⟨s,hs,ho,hb⟩⟩)
 .have hmem:=xy hk;rcases hex.at s hmem with e|⟨ho,e⟩
  .simp_all
  .have hb:S s.i (ρ s.i).1:=by
    rw[e] at hs;exact hs _ _ _ (E.inv _ _ (hI s hmem))
   show May _ (ρ (q5g ss k)).1;rw[hσ k s hk];exact .inr ⟨.inr ⟨s,hmem,ho,hb⟩,λj=>.inr ⟨s,hmem,ho,hb⟩⟩
variable{vs:List Value}
theorem qay{g:FuncId}{fn:Func}{cd:Code}{h:Hp}{V:Value}{B:Type}(okB:B->Prop)(h1:B->Hp)(ss:List q3w)(ns:List q38)(vs':List Value)
  (hG:q32 P G) (hm:P.follows .mixedOrders=true) (hf:P.funcs[g]?=some fn) (hb:fn.body=some cd) (hr:∀xs w,(callFunc g xs).run P w=.ok (.enter g xs) w)
  (hin:PartsIn h ss) (hre:PartsRe (partX ss 0) ss) (hap:Apart ss) (hex:PartsX ss) (hmi:MadeX h ns) (hvs:All2 (Re2 (partX ss 0)) vs vs') (hop:Opens ss okB h1)
  (hwp:∀β,okB β->initK vs' fn.ntmps λt=>wpC P G ss.length cd (bodyQ P G fn λv st=>N (q51 ss st.h v λv' h'=>N (Obl (Re (partX ss 0++madeX ns) V v') (N (Obl (PostS (partX ss 0++madeX ns) h' ss 0) (N (Obl (PostN (partX ss 0++madeX ns) h' ss.length ns) (N (Obl (PostX h' ss 0/\MadeP h' ns) (N True)))))))))) ⟨t,h1 β⟩) :
  qae P g vs h V (partM ss++madeM ns) (q50 ss):=λh₂ hrd hms X ρ w xs H hx=>by
 have hI:∀s∈ss,h₂[s.i]?=some (some s.c):=λs hs=>Q1k
 have hNw:∀n∈ns,h₂[n.i]?=some none:=λn hn=>(hms (n.i,n.d) (zd _ (madeM_mem.2 ⟨n,hn,rfl⟩))).trans (hmi.at n hn).1
 obtain⟨S,E⟩:=H.ext
 have T:=qop hI hex E
 obtain⟨H0,hargs⟩:=qhk ss vs' hI hre hap hex.at hvs H E hx
 obtain⟨β,hβ,ρ',hag,hfil,H1⟩:=hop _ _ w T H0
 have hargs':All2 (Den (Fil (h1 β)) ρ') vs' xs:=qnd hag hfil hargs
 refine .inr ⟨hr _ w,?_⟩
 refine(qd5 (X:=⟨w,subM ρ S ss,ss.length,λk=>ρ (q5g ss k)⟩) (args:=⟨xs⟩) hG hm hf hb H1 hargs' (hwp β hβ)).mono ?_
 rintro e w' ⟨ρ1,v,st,x,rfl,H2,hdx,hq⟩
 obtain⟨v',h',ρ2,H3,hd3,hq⟩:=N.out hq _ _ _ _ T H2 hdx
 have q1:Re (partX ss 0++madeX ns) V v'/\N _:=N.out hq
 have q2:PostS (partX ss 0++madeX ns) h' ss 0/\N _:=N.out q1.2
 have q3:PostN (partX ss 0++madeX ns) h' ss.length ns/\N _:=N.out q2.2
 have q4:(PostX h' ss 0/\MadeP h' ns)/\N True:=N.out q3.2
 exact⟨x,rfl,qgw ss ns hI hNw hre hap (λn hn=>(hmi.at n hn).2) (λn hn m hm=>hmi.ne n hn m hm) H E H3 hd3 q1.1 q2.1 q3.1 (λl s hl _=>by have:=q4.1.1.at l s hl;rwa[xl] at this) q4.1.2.at⟩
theorem qaq{α:Type}{g:FuncId}{fn:Func}{cd:Code}{h:Hp}{B:Type}(okB:B->Prop)(h1:B->Hp)(ok:α->Prop)(V:α->Value)(ss:List q3w)(dd:α->List Chunk)(ns:α->List q38)(vs':List Value)
  (hG:q32 P G) (hm:P.follows .mixedOrders=true) (hf:P.funcs[g]?=some fn) (hb:fn.body=some cd) (hr:∀xs w,(callFunc g xs).run P w=.ok (.enter g xs) w)
  (hin:PartsIn h ss) (hre0:PartsRe (partX ss 0) ss) (hre:∀κ,ok κ->PartsRe (partX ss 0) (setD ss (dd κ))) (hap:Apart ss) (hex:PartsX ss) (hmi:∀κ,ok κ->MadeX h (ns κ)) (hvs:All2 (Re2 (partX ss 0)) vs vs') (hop:Opens ss okB h1)
  (hwp:∀β,okB β->initK vs' fn.ntmps λt=>wpC P G ss.length cd (bodyQ P G fn λv st=>N (q51 ss st.h v λv' h'=>N (q7z λκ=>ok κ/\N (Obl (Re (partX ss 0++madeX (ns κ)) (V κ) v') (N (Obl (PostS (partX ss 0++madeX (ns κ)) h' (setD ss (dd κ)) 0) (N (Obl (PostN (partX ss 0++madeX (ns κ)) h' ss.length (ns κ)) (N (Obl (PostX h' (setD ss (dd κ)) 0/\MadeP h' (ns κ)) (N True))))))))))) ⟨t,h1 β⟩) :
  CallAll P g vs h λv ms=>∃κ,ok κ/\v=V κ/\ms=partM (setD ss (dd κ))++madeM (ns κ):=λX ρ w xs H hx=>by
 obtain⟨S,E⟩:=H.ext
 have T:=qop (λs hs=>hin.at s hs) hex E
 obtain⟨H0,hargs⟩:=qhk ss vs' (λs hs=>hin.at s hs) hre0 hap hex.at hvs H E hx
 obtain⟨β,hβ,ρ',hag,hfil,H1⟩:=hop _ _ w T H0
 have hargs':All2 (Den (Fil (h1 β)) ρ') vs' xs:=qnd hag hfil hargs
 refine .inr ⟨hr _ w,?_⟩
 refine(qd5 (X:=⟨w,subM ρ S ss,ss.length,λk=>ρ (q5g ss k)⟩) (args:=⟨xs⟩) hG hm hf hb H1 hargs' (hwp β hβ)).mono ?_
 rintro e w' ⟨ρ1,v,st,x,rfl,H2,hdx,hq⟩
 obtain⟨v',h',ρ2,H3,hd3,hq⟩:=N.out hq _ _ _ _ T H2 hdx
 obtain⟨κ,hok,hq⟩:=N.out hq
 have q1:Re (partX ss 0++madeX (ns κ)) (V κ) v'/\N _:=N.out hq
 have q2:PostS (partX ss 0++madeX (ns κ)) h' (setD ss (dd κ)) 0/\N _:=N.out q1.2
 have q3:PostN (partX ss 0++madeX (ns κ)) h' ss.length (ns κ)/\N _:=N.out q2.2
 have q4:(PostX h' (setD ss (dd κ)) 0/\MadeP h' (ns κ))/\N True:=N.out q3.2
 obtain⟨ρ',ha,hh,hd⟩:=qgw (h₂:=h) (hE:=h') (V:=V κ) (setD ss (dd κ)) (ns κ) (λs hs=>by
  obtain⟨t,ht,e1,e2,_⟩:=qgz hs;rw[<-e1,<-e2];exact hin.at t ht) (λn hn=>((hmi κ hok).at n hn).1) (by rw[qfm];exact hre κ hok) (qf9 hap) (λn hn=>((hmi κ hok).at n hn).2) (λn hn m hm=>(hmi κ hok).ne n hn m hm) H E
  (by rw[qxu,qxt,qgy];exact H3) hd3 (by rw[qfm];exact q1.1) (by rw[qfm];exact q2.1) (by rw[qfm,qgy];exact q3.1) (λl s hl _=>by have:=q4.1.1.at l s hl;rwa[xl] at this) q4.1.2.at
 exact⟨x,rfl,V κ,_,ρ',⟨κ,hok,rfl,rfl⟩,ha,hh,hd⟩
end
open Go Go.RowKit Go.MapKept
section
variable{α:Type}
def dGet(D:List (Int×α))(k:Int):Option α:=(D.find? λq=>decide (q.1=k)).map (·.2)
def q52(D:List (Int×α))(k:Int)(a:α):List (Int×α):=match dGet D k with
 | some _=>D.map λq=>if q.1=k then (k,a) else q
 | none=>D++[(k,a)]
def q8v(D:List (Int×α))(k:Int):List (Int×α):=D.filter λq=>!decide (q.1=k)
variable{k:Int}
theorem dGet_none{D:List (Int×α)}:dGet D k=none↔∀q∈D,q.1≠k:=by
 simp[dGet,List.find?_eq_none]
theorem qr4{D:List (Int×α)}{a:α}(h:dGet D k=some a):(k,a)∈D:=by
 grind[dGet,Option.map_eq_some_iff]
theorem qvb{D:List (Int×α)}{a:α}(hd:(D.map (·.1)).Nodup)(h:(k,a)∈D):dGet D k=some a:=by
 induction D with
 | nil=>cases h
 | cons q D ih=>
  grind[dGet]
end
structure MapIs{α:Type}(enc:α->Value)(D:List (Int×α))(es:Array MapEntry)(clock:Nat):Prop where
 ents:es.toList.map (λe=>(e.key,e.val))=D.map λq=>(.int .i64 q.1,enc q.2)
 stamped:Stamped es clock
 wf:∀q∈D,-9223372036854775808<=q.1/\q.1<=9223372036854775807
section
variable{α:Type}{enc:α->Value}{D:List (Int×α)}{es:Array MapEntry}{clock:Nat}
theorem MapIs.at(M:MapIs enc D es clock)(j:Nat):(es.toList[j]?).map (λe=>(e.key,e.val))=(D[j]?).map λq=>((.int .i64 q.1,enc q.2):Value×Value):=by
 have:=congrArg (λl=>l[j]?) M.ents;simp_all
theorem MapIs.keys(M:MapIs enc D es clock):∀x∈es.toList,∃k,x.key=.int .i64 k:=λx hx=>by
 have:(x.key,x.val)∈es.toList.map (λe=>(e.key,e.val)):=xx.2 ⟨x,hx,rfl⟩;rw[M.ents] at this
 grind
theorem MapIs.isKey(M:MapIs enc D es clock):∀x∈es.toList,IsKey (.int .i64) x.key:=λx hx=>by
 obtain⟨k,e⟩:=M.keys x hx;rw[e];exact rfl
theorem MapIs.nodup(M:MapIs enc D es clock):(D.map (·.1)).Nodup:=by
 have h:=M.stamped.2.2;have e:es.toList.map (·.key)=(D.map (·.1)).map (Value.int .i64):=Q2b
 grind
theorem MapIs.find(M:MapIs enc D es clock)(k:Int):(dGet D k=none/\Instr.findNow (.int .i64) (.int .i64 k) es.toList 0=some none/\∀x∈es.toList,x.key≠.int .i64 k)\/
  ∃j a,dGet D k=some a/\D[j]?=some (k,a)/\(∃e,es.toList[j]?=some e/\e.key=.int .i64 k)/\Instr.findNow (.int .i64) (.int .i64 k) es.toList 0=some (some (j,enc a)):=by
 rcases findNow_spec (d:=.int .i64) (k:=xc k) rfl es.toList 0 M.isKey with ⟨h1,h2⟩|⟨j,e,h1,h2,h3⟩
 .refine .inl ⟨dGet_none.2 λq hq e=>?_,h1,h2⟩;have:((.int .i64 q.1,enc q.2):Value×Value)∈es.toList.map (λe=>(e.key,e.val)):=by rw[M.ents];exact xx.2 ⟨q,hq,rfl⟩
  grind
 .have hj:=M.at j;rw[h2] at hj;simp only[yj] at hj;cases hq:D[j]? with
  | none=>rw[hq] at hj;cases hj
  | some q=>
   rw[hq] at hj;simp only[yj,Option.some.injEq,Prod.mk.injEq] at hj;have hk:q.1=k:=by
    simp_all
   obtain⟨q1,a⟩:=q;subst hk;refine .inr ⟨j,a,qvb M.nodup (xy hq),hq,⟨e,h2,h3⟩,?_⟩;simp_all
variable{k:Int}{j:Nat}
theorem MapIs.put(M:MapIs enc D es clock)(hk : -9223372036854775808<=k/\k<=9223372036854775807)(a:α){b:α}(hg:dGet D k=some b)(hj:D[j]?=some (k,b))(hv:Value)(hve:hv=enc a):MapIs enc (q52 D k a) (es.modify j λe=>{ e with key:=.int .i64 k,val:=hv }) clock:=by
 subst hve;have hnd:=M.nodup;have hjl:=(xe.1 hj).1;refine⟨?_,stamped_modify M.stamped j _ (λ_ _=>rfl) (λe _ he=>?_),λq hq=>?_⟩
 .unfold q52;rw[hg];apply xO;intro i;simp only[xN,Array.getElem?_toList,y7];have hi:=M.at i;rw[Array.getElem?_toList] at hi;by_cases e:j=i
  .grind
  .rw[if_neg e,hi];cases hq:D[i]? with
   | none=>simp
   | some q=>
    have hne:q.1≠k:=λh=>by
     refine e ((List.getElem?_inj (l:=D.map (·.1)) (by simpa using hjl) hnd).1 ?_);simp_all
    simp[hne]
 .have hi:=M.at j;simp_all
 .unfold q52 at hq;rw[hg] at hq;obtain⟨q',hq',rfl⟩:=xx.1 hq;split
  .exact hk
  .exact M.wf q' hq'
theorem MapIs.push(M:MapIs enc D es clock)(hk : -9223372036854775808<=k/\k<=9223372036854775807)(a:α)(hg:dGet D k=none)(hn:∀x∈es.toList,x.key≠.int .i64 k):MapIs enc (q52 D k a) (es.push { key:=.int .i64 k,val:=enc a,born:=clock }) (clock+1):=by
 refine⟨?_,stamped_push M.stamped hn,λq hq=>?_⟩
 .unfold q52;rw[hg];simp only[Array.toList_push,yS,M.ents,xk,xZ]
 .unfold q52 at hq;rw[hg] at hq;rcases yZ.1 hq with hq|hq
  .exact M.wf q hq
  simp_all
theorem qhl{β γ:Type}(f:β->γ):∀(l:List β)(j:Nat),(l.eraseIdx j).map f=(l.map f).eraseIdx j
 | [],_=>by simp
 | x::l,0=>by simp
 | x::l,j+1=>by simp[qhl f l j]
theorem qlz{D:List (Int×α)}{a:α}(hnd:(D.map (·.1)).Nodup)(hj:D[j]?=some (k,a)):D.eraseIdx j=q8v D k:=by
 induction D generalizing j with
 | nil=>simp at hj
 | cons q D ih=>
  simp only[xk,xz] at hnd;cases j with
  | zero=>
   grind[List.filter_eq_self,q8v]
  | succ j=>
   grind[q8v]
theorem MapIs.erase(M:MapIs enc D es clock){a:α}(hj:D[j]?=some (k,a)):MapIs enc (q8v D k) (es.eraseIdxIfInBounds j) clock:=by
 refine⟨?_,stamped_erase M.stamped j,λq hq=>M.wf q (List.mem_filter.1 hq).1⟩;have hl:=(xe.1 hj).1;have hsz:es.size=D.length:=by have:=congrArg List.length M.ents;simpa using this
 unfold Array.eraseIdxIfInBounds;rw[dif_pos Q4P];rw[Array.toList_eraseIdx,<-qlz M.nodup hj,qhl,qhl,M.ents]
theorem MapIs.size(M:MapIs enc D es clock):es.size=D.length:=by have:=congrArg List.length M.ents;simpa using this
theorem MapIs.nil:MapIs enc ([]:List (Int×α)) #[] 0:=⟨rfl,stamped_empty 0,λq hq=>by cases hq⟩
end
abbrev q94{α:Type}(enc:α->Value)(D:List (Int×α)):Ext where
 inv:=λp S w=>(∀b,S b↔b=p.1)/\∃es clock,w.heap[p.1]?=some (.map es clock)/\MapIs enc D es clock
 keep:=λh hb=>⟨h.1,by obtain⟨es,clock,h1,h2⟩:=h.2;exact⟨es,clock,(hb _ ((h.1 _).2 rfl)).trans h1,h2⟩⟩
theorem qgn{α:Type}{enc:α->Value}{D:List (Int×α)}:Selfish (q94 enc D):=λp S w h=>(h.1 _).2 rfl
abbrev q49{α:Type}(enc:α->Value)(D:List (Int×α)):Chunk:=@Chunk.mk (q94 enc D) true 0 []
section
variable{P:Program}{G:Tys}{α:Type}{enc:α->Value}{D:List (Int×α)}
theorem qvc{et:TypeId}{ei:TypeInfo}{z:Value}(he:P.info? et=some ei)(hz:ei.zero=some z)(w:World):(zeroValue et).run P w=.ok z w:=by
 simp[zeroValue,typeInfo,Sem.run_bind,run_program,Result.andThen_ok,he,hz]
theorem qvd{t kt et:TypeId}{ei:TypeInfo}{z:Value}{es:Array MapEntry}{clock:Nat}{w:World}{b:Nat}(ht:P.underlying t=some (.map kt et))(hk:P.underlying kt=some (.int .i64))(he:P.info? et=some ei)(hz:ei.zero=some z)
  (hb:w.heap[b]?=some (.map es clock)) (M:MapIs enc D es clock) (k:Int) (c:Bool) :
  (Instr.lookup t (.map (some b)) (xc k) c).run P w=.ok (if c then .tuple #[((dGet D k).map enc).getD z,.bool (dGet D k).isSome] else ((dGet D k).map enc).getD z) w:=by
 rcases M.find k with ⟨h1,h2,_⟩|⟨j,a,h1,_,_,h2⟩
 .simp[Instr.lookup,run_underlying ht,MapKept.run_getObj_map hb,run_checkKey hk (k:=xc k) rfl,run_findKey hk h2,qvc he hz,h1,Result.andThen]
 .simp[Instr.lookup,run_underlying ht,MapKept.run_getObj_map hb,run_checkKey hk (k:=xc k) rfl,run_findKey hk h2,h1,Result.andThen]
theorem qxv{t kt et:TypeId}{ei:TypeInfo}{z:Value}{c:Chunk}{k:Int}{b:Bool}{K:Value->Prop}(enc:α->Value)(D:List (Int×α))(hc:c.x=q94 enc D)(ht:P.underlying t=some (.map kt et))(hk:P.underlying kt=some (.int .i64))(he:P.info? et=some ei)(hz:ei.zero=some z)
  (v:Value) (hv:v=(if b then .tuple #[((dGet D k).map enc).getD z,.bool (dGet D k).isSome] else ((dGet D k).map enc).getD z)) (hp:qar v=true) (h:K v):N (q8l P t c (xc k) b K):=
 N.mk ⟨v,qa7 hp,λp S w hi=>by
  rw[hc] at hi;obtain⟨_,es,clock,hb,M⟩:=hi;rw[qvd ht hk he hz hb M k b,hv],h⟩
theorem qr5{K:Chunk->Prop}(enc:α->Value)(h:K (q49 enc [])):N (qxl K):=
 N.mk ⟨q49 enc [],rfl,λw=>⟨λb=>Iff.rfl,#[],0,(heap_alloc w (.map #[] 0)).1,MapIs.nil⟩,h⟩
end
open Go Go.RowKit
abbrev atX(q:Nat×Nat):Ext where
 inv:=λp S _=>p=q/\∀b,¬ S b
 keep:=λh _=>h
def q3z(q:Nat×Nat):Value:=.pointer (some ⟨q.1,q.2,none⟩)
theorem qek{q:Nat×Nat}:den ρ (q3z q)=q3z q:=rfl
structure jat{α:Type}(n:Nat)(enc:α->Nat->Value)(F:List ((Nat×Nat)×α))(S:Nat->Prop)(w:World):Prop where
 dom:∀b,S b↔∃q∈F,q.1.1=b
 nodup:(F.map (·.1.1)).Nodup
 cell:∀q∈F,∀j,j<n->w.cell? ⟨q.1.1,q.1.2+j,none⟩=some (enc q.2 j)/\w.frozen? ⟨q.1.1,q.1.2+j,none⟩=false
abbrev q95{α:Type}(n:Nat)(enc:α->Nat->Value)(F:List ((Nat×Nat)×α)):Ext where
 inv:=λ_ S w=>jat n enc F S w
 keep:=λ{p S w w'} h hb=>⟨h.dom,h.nodup,λq hq j hj=>by
  obtain⟨h1,h2⟩:=h.cell q hq j hj;have e:=hb q.1.1 ((h.dom _).2 ⟨q,hq,rfl⟩);refine⟨?_,?_⟩
  .rw[<-h1];unfold World.cell?;simp only[e]
  .rw[<-h2];unfold World.frozen?;simp only[e]⟩
structure q7k(ρ:Rz)(h:Hp)(w:World)(S:Nat->Prop)(T:Nat->Nat->Prop):Prop where
 blk:∀(k:Nat)(d:Chunk),h[k]?=some (some d)->S (ρ k).1
 cell:∀(k:Nat)(d:Chunk),h[k]?=some (some d)->∀j,j<d.n->∃x,w.cell? ⟨(ρ k).1,(ρ k).2+j,none⟩=some x/\Den1 (Fil h) ρ (d.f j) x
 own:∀(k:Nat)(d:Chunk),h[k]?=some (some d)->∀j,j<d.n->w.frozen? ⟨(ρ k).1,(ρ k).2+j,none⟩=false
 inv:∀(k:Nat)(d:Chunk),h[k]?=some (some d)->d.x.inv (ρ k) (T k) w
 foot:∀(k:Nat)(d:Chunk)(b:Nat),h[k]?=some (some d)->T k b->S b/\(d.n=0\/b≠(ρ k).1)
 sep:∀(k:Nat)(d:Chunk)(l:Nat)(e:Chunk),h[k]?=some (some d)->h[l]?=some (some e)->k≠l->(ρ k).1≠(ρ l).1/\∀b,T k b->(ρ l).1≠b/\¬ T l b
abbrev q47{B:Type}(ok:B->Prop)(h:B->Hp):Ext where
 inv:=λp S w=>S p.1/\∃β,ok β/\∃ρ T,ρ 0=p/\Fil (h β) 0/\q7k ρ (h β) w S T
 keep:=λ{p S w w'} hh hb=>⟨hh.1,by
  obtain⟨β,hβ,ρ,T,h0,hf,K⟩:=hh.2;refine⟨β,hβ,ρ,T,h0,hf,K.blk,λk d hk j hj=>?_,λk d hk j hj=>?_,λk d hk=>?_,K.foot,K.sep⟩
  .obtain⟨x,hx,hd⟩:=K.cell k d hk j hj;refine⟨x,?_,hd⟩;have e:=hb _ (K.blk k d hk);rw[<-hx];unfold World.cell?;simp only[e]
  .have e:=hb _ (K.blk k d hk);rw[<-K.own k d hk j hj];unfold World.frozen?;simp only[e]
  .exact d.x.keep (K.inv k d hk) λb hT=>hb b (K.foot k d b hk hT).1⟩
theorem qao{B:Type}{ok:B->Prop}{h:B->Hp}:Selfish (q47 ok h):=λp S w hh=>hh.1
abbrev packC{B:Type}(ok:B->Prop)(h:B->Hp):Chunk:=@Chunk.mk (q47 ok h) true 0 []
theorem qa3{B:Type}{ok:B->Prop}{h:B->Hp}{i:Nat}{c d:Chunk}:Opens [⟨i,c,packC ok h,d⟩] ok h:=λX ρ w T H=>by
 obtain⟨S,E⟩:=H.ext;have h0:(partH [⟨i,c,packC ok h,d⟩])[0]?=some (some (packC ok h)):=rfl;have one:∀(k:Nat)(e:Chunk),(partH [⟨i,c,packC ok h,d⟩])[k]?=some (some e)->k=0:=λk e hk=>by
  grind[partH]
 obtain⟨_,β,hβ,ρp,Tp,e0,hf,K⟩:=E.inv 0 _ h0;have n0:X.n0=1:=T.n0;refine⟨β,hβ,ρp,λk hk=>?_,λk hk=>?_,?_⟩
 .obtain⟨e,he⟩:=hk;simp_all
 .obtain⟨e,he⟩:=hk;simp_all
 .refine H.redo E (λk=>k=0) (λ_=>True) (S 0) (λb hb=>⟨0,_,rfl,h0,.inr hb⟩) (λb hb=>(E.mine 0 _ b h0 hb).2.2) (λk hk=>?_) (λk e hk hA=>absurd xb hA) (λk e hk _=>⟨K.blk k e hk,K.cell k e hk,λ_=>K.own k e hk,K.inv k e hk,λb hb=>K.foot k e b hk hb⟩) (λk e l f hk _ hl _ hne=>⟨λ_=>(K.sep k e l f hk hl hne).1,(K.sep k e l f hk hl hne).2⟩);simp_all
def qa5(pc:Chunk)(m:Nat)(keep:List Nat):Hp->Nat->Hp
 | [],_=>[]
 | x::r,i=>(match Nat.beq i m with
  | true=>some pc
  | false=>match keep.any (Nat.beq i) with
   | true=>x
   | false=>none)::qa5 pc m keep r (i+1)
theorem qga{pc:Chunk}{m:Nat}{keep:List Nat}:∀{h:Hp}{i0 k:Nat}{d:Chunk},(qa5 pc m keep h i0)[k]?=some (some d)->(i0+k=m/\d=pc)\/(i0+k≠m/\i0+k∈keep/\h[k]?=some (some d))
 | [],i0,k,d,hk=>by simp[qa5] at hk
 | x::r,i0,0,d,hk=>by
  grind[qa5,xF]
 | x::r,i0,k+1,d,hk=>by
  have:=qga (h:=r) (i0:=i0+1) (k:=k) (d:=d) (by simpa[qa5] using hk)
  grind
theorem qgb{pc:Chunk}{m:Nat}{keep:List Nat}:∀{h:Hp}{i0 k:Nat},k<h.length->(i0+k=m\/(i0+k∈keep/\Fil h k))->Fil (qa5 pc m keep h i0) k
 | [],i0,k,hl,_=>by simp at hl
 | x::r,i0,0,_,hk=>by
  grind[qa5,Fil,Nat.beq_refl]
 | x::r,i0,k+1,hl,hk=>by
  obtain⟨c,hc⟩:=qgb (pc:=pc) (m:=m) (keep:=keep) (h:=r) (i0:=i0+1) (k:=k) Q5e (by
   rw[show i0+1+k=i0+(k+1) by omega];exact hk.imp id fun⟨h1,c,h2⟩=>⟨h1,c,by simpa using h2⟩)
  exact⟨c,by simpa[qa5] using hc⟩
def qve(ix:Lz)(h hp:Hp):Prop:=
 ∀(k:Nat)(d:Chunk),hp[k]?=some (some d)->∃i c,ixK ix k=some i/\h[i]?=some (some c)/\c.own=true/\d.n<=c.n/\(∀j,j<d.n->Re1 ix (c.f j) (d.f j))/\(d.x=Ext.none\/d.x=c.x)/\(0<c.n\/Selfish c.x)
def q66:Hp->Lz->Bool
 | _,[]=>true
 | hp,(k,i)::r=>q7x hp k&&q66 hp r
theorem ql0{hp:Hp}:∀{ix:Lz},q66 hp ix=true->∀k i,(k,i)∈ix->Fil hp k
 | (a,b)::r,h,k,i,hm=>by
  simp only[q66,xi] at h;rcases xf.1 hm with e|hm
  .grind[filB_iff]
  .exact ql0 h.2 k i hm
def q5k:Lz->Bool
 | []=>true
 | (k,i)::r=>(r.all λp=>!Nat.beq p.1 k && !Nat.beq p.2 i)&&q5k r
theorem qdz:∀{ix:Lz},q5k ix=true->∀k i k' i',(k,i)∈ix->(k',i')∈ix->(k=k'\/i=i')->k=k'/\i=i'
 | (a,b)::r,h,k,i,k',i',h1,h2,he=>by
  simp only[q5k,xi,xJ] at h;have key:∀x y,(x,y)∈r->x≠a/\y≠b:=λx y hm=>by
   have:=h.1 (x,y) hm;simp only[Bool.not_eq_true'] at this;exact⟨λe=>by subst e;simp at this,λe=>by subst e;simp at this⟩
  rcases xf.1 h1 with e1|h1<;>rcases xf.1 h2 with e2|h2
  .simp_all
  .grind
  .grind
  .exact qdz h.2 k i k' i' h1 h2 he
theorem qgo{B:Type}{ok:B->Prop}{hB:B->Hp}{h:Hp}{v:Value}(β:B)(m:Nat)(ix:Lz)(keep:List Nat)(hpc:∀k i,(k,i)∈ix->i<ss.length->∃s,ss[i]?=some s/\s.e.x≠Ext.none/\Selfish s.e.x)(hbs:∀i,i<ss.length->i=m\/i∈keep)(hok:ok β)(h00:ixK ix 0=some m)(hf0:Fil (hB β) 0)(hone:q5k ix=true)(hpb:q66 (hB β) ix=true)
  (hpk:qve ix h (hB β)) (hkk:∀k∈keep,∀l i,(l,i)∈ix->k≠i) (hkd:∀k∈keep,∀(d:Chunk),h[k]?=some (some d)->∀j,j<d.n->Safe1 (qa5 (packC ok hB) m keep h 0) (d.f j))
  (hv:∀ρ ρ',AgreeOn (Fil (qa5 (packC ok hB) m keep h 0)) ρ ρ'->den ρ' v=den ρ v) (hlt:m<h.length) (kk:K v (qa5 (packC ok hB) m keep h 0)):N (q51 ss h v K):=N.mk λX ρ w x T H hd=>by
 obtain⟨S,E⟩:=H.ext
 have fil0:Fil (qa5 (packC ok hB) m keep h 0) m:=qgb hlt (.inl (xl m))
 have inv:∀k d,(hB β)[k]?=some (some d)->∃i c,(k,i)∈ix/\h[i]?=some (some c)/\c.own=true/\d.n<=c.n/\(∀j,j<d.n->Re1 ix (c.f j) (d.f j))/\(d.x=Ext.none\/d.x=c.x)/\(0<c.n\/Selfish c.x):=λk d hk=>by
  obtain⟨i,c,h1,h2⟩:=hpk k d hk;exact⟨i,c,qda h1,h2⟩
 have ofix:∀k i,(k,i)∈ix->∃d,(hB β)[k]?=some (some d):=λk i hm=>ql0 hpb k i hm
 have act:∀k i,(k,i)∈ix->∃d c,(hB β)[k]?=some (some d)/\h[i]?=some (some c)/\c.own=true/\d.n<=c.n/\(∀j,j<d.n->Re1 ix (c.f j) (d.f j))/\(d.x=Ext.none\/d.x=c.x)/\(0<c.n\/Selfish c.x):=λk i hm=>by
  obtain⟨d,hd⟩:=ofix k i hm;obtain⟨i',c,hm',h2⟩:=inv k d hd;obtain rfl:=(qdz hone k i k i' hm hm' (.inl rfl)).2;exact⟨d,c,hd,h2⟩
 have mayB:∀k i,(k,i)∈ix->May X (ρ i).1:=λk i hm=>by
  obtain⟨d,c,_,hc,ho,_,_,_,h3⟩:=act k i hm;rcases h3 with h3|h3
  .by_cases e:i<ss.length
   .obtain⟨s,hs,hx,hsf⟩:=hpc k i hm e;exact T.mayX H hs hx hsf
   .exact T.may H hc ho h3 Q4P
  .exact(E.mine i c _ hc (h3 _ _ _ (E.inv i c hc))).2.2
 let ρp:Nat->Nat×Nat:=λk=>match ixK ix k with|some i=>ρ i|none=>(0,0)
 let Tp:Nat->Nat->Prop:=λk b=>∃i d,(k,i)∈ix/\(hB β)[k]?=some (some d)/\d.x≠Ext.none/\S i b
 have ixKof:∀k i,(k,i)∈ix->ixK ix k=some i:=λk i hm=>by
  obtain⟨d,hd⟩:=ofix k i hm;obtain⟨i',c,h1,_⟩:=hpk k d hd;rw[(qdz hone k i k i' hm (qda h1) (.inl rfl)).2];exact h1
 have ρp_eq:∀k i,(k,i)∈ix->ρp k=ρ i:=λk i hm=>by
  show(match ixK ix k with|some i=>ρ i|none=>(0,0))=ρ i;rw[ixKof k i hm]
 let F:Nat->Prop:=λb=>∃k i,(k,i)∈ix/\(b=(ρ i).1\/Tp k b)
 have Tp_eq:∀k i d,(k,i)∈ix->(hB β)[k]?=some (some d)->d.x≠Ext.none->Tp k=S i:=λk i d hm hd hne=>by
  funext b;refine propext ⟨?_,λhb=>⟨i,d,hm,hd,hne,hb⟩⟩;rintro⟨i',_,hm',_,_,hb⟩;rw[(qdz hone k i k i' hm hm' (.inl rfl)).2];exact hb
 have TpS:∀k i b,(k,i)∈ix->Tp k b->S i b:=λk i b hm hb=>by
  obtain⟨i',_,hm',_,_,hb'⟩:=hb;rw[(qdz hone k i k i' hm hm' (.inl rfl)).2];exact hb'
 have K1:q7k ρp (hB β) w F Tp:=by
  refine⟨λk d hk=>?_,λk d hk j hj=>?_,λk d hk j hj=>?_,λk d hk=>?_,λk d b hk hb=>?_,λk d l e hk hl hne=>?_⟩
  .obtain⟨i,c,hm,_⟩:=inv k d hk;exact⟨k,i,hm,.inl (by rw[ρp_eq k i hm])⟩
  .obtain⟨i,c,hm,hc,ho,hn,hr,_⟩:=inv k d hk;obtain⟨y,hy,hdy⟩:=H.cell i c hc j (xh hj hn);rw[ρp_eq k i hm];refine⟨y,hy,λr hrr=>?_⟩;rw[<-(hr j hj).den (r:=ρ) (r':=r) (λk' i' hm'=>by
    obtain⟨d',hd'⟩:=ofix k' i' hm';rw[hrr k' ⟨d',hd'⟩,ρp_eq k' i' hm'])]
   exact hdy.self
  .obtain⟨i,c,hm,hc,ho,hn,_⟩:=inv k d hk;rw[ρp_eq k i hm];exact(H.own i c hc ho j (xh hj hn)).1
  .obtain⟨i,c,hm,hc,ho,hn,_,hx',_⟩:=inv k d hk;by_cases en:d.x=Ext.none
   .rw[en];rintro b ⟨i',d',_,hd',hne,_⟩;rw[hk] at hd';obtain rfl:d=d':=by simpa using hd'
    exact hne en
   .rw[Tp_eq k i d hm hk en,ρp_eq k i hm];rcases hx' with e|e
    .exact absurd e en
    .rw[e];exact E.inv i c hc
  .obtain⟨i,c,hm,hc,ho,hn,_⟩:=inv k d hk;refine⟨⟨k,i,hm,.inr hb⟩,?_⟩;have:=(E.mine i c b hc (TpS k i b hm hb)).1;rw[ρp_eq k i hm];omega
  .obtain⟨i,c,hm,hc,ho,_⟩:=inv k d hk;obtain⟨i2,c2,hm2,hc2,ho2,_⟩:=inv l e hl;have hii:i≠i2:=λei=>hne (qdz hone k i l i2 hm hm2 (.inr ei)).1
   refine⟨by rw[ρp_eq k i hm,ρp_eq l i2 hm2];exact H.sep i c i2 c2 hc ho hc2 hii,λb hb=>?_⟩;obtain⟨a1,a2⟩:=E.apart i c b i2 c2 hc (TpS k i b hm hb) hc2 (Ne.symm hii);exact⟨by rw[ρp_eq l i2 hm2];exact a1,λhb2=>a2 (TpS l i2 b hm2 hb2)⟩
 have m00:=qda h00
 have H':HOK X ρ (qa5 (packC ok hB) m keep h 0) w:=by
  refine H.redo (T:=λk b=>k=m/\F b) E (λi=>∃k,(k,i)∈ix) (λk=>k=m) F (λb hb=>?_) (λb hb=>?_) (λi hi=>?_) (λk d hk hA=>?_) (λk d hk hA=>?_) (λk d l e hk hA hl hB' hne=>?_)
  .obtain⟨k,i,hm,hb⟩:=hb;obtain⟨d,c,hd,hc,ho,_⟩:=act k i hm;rcases hb with hb|hb
   .exact⟨i,c,⟨k,hm⟩,hc,.inl ⟨ho,hb⟩⟩
   .exact⟨i,c,⟨k,hm⟩,hc,.inr (TpS k i b hm hb)⟩
  .obtain⟨k,i,hm,hb⟩:=hb;rcases hb with rfl|hb
   .exact mayB k i hm
   .obtain⟨d,c,hd,hc,_⟩:=act k i hm;exact(E.mine i c b hc (TpS k i b hm hb)).2.2
  .have hi:i<ss.length:=by have:=T.n0;omega
   rcases hbs i hi with rfl|h1
   .exact⟨fil0,rfl⟩
   .have hf:=(H.base i (by have:=T.n0;omega)).1;obtain⟨c,hc⟩:=hf;exact⟨qgb (xe.1 hc).1 (.inr ⟨by rw[xl];exact h1,c,hc⟩),rfl⟩
  .rcases qga hk with ⟨h1,_⟩|⟨h1,h2,h3⟩
   .exact absurd Q4P hA
   .rw[xl] at h1 h2;refine⟨fun⟨l,hm⟩=>hkk k h2 l k hm rfl,rfl,h3,λj hj y hy r hrr=>?_⟩;rw[(hkd k h2 d h3 j hj).inScope ρ r hrr];exact hy.self
  .subst hA;rcases qga hk with ⟨_,rfl⟩|⟨h1,_⟩
   .refine⟨⟨0,k,m00,.inl rfl⟩,nzj,λ_ j hj=>absurd hj (xS j),⟨⟨rfl,0,k,m00,.inl rfl⟩,β,hok,ρp,Tp,ρp_eq 0 k m00,hf0,?_⟩,λb hb=>⟨hb.2,.inl rfl⟩⟩;have:(λb=>k=k/\F b)=F:=by funext b;exact propext ⟨λh=>h.2,λh=>⟨rfl,h⟩⟩
    rw[this];exact K1
   .exact absurd Q4P h1
  .exact absurd (hA.trans hB'.symm) hne
 refine⟨v,_,ρ,H',λr hrr=>?_,kk⟩
 rw[hv ρ r hrr];exact hd.self
end Go.Proofs.YtggfpcfkbilkmaaGreatDoor.Sx


namespace Go.Proofs.YtggfpcfkbilkmaaGreatDoor
open Go.ChangeShapes Go.WideShapes Go.ChangeAt Go.RowKit
theorem qes{a b:Bool}(h:a=b):Ending.returned (.bool a)=.returned (.bool b):=by rw[h]
theorem qne{k:IntKind}{a b:Int}(h:a=b):Ending.returned (.int k a)=.returned (.int k b):=by rw[h]
theorem qfn(a:Addr)(n:Nat):(a.add n).block=a.block:=by unfold Addr.add;split<;>rfl
theorem qr6(a:Addr)(i j:Nat):(a.add i).add j=a.add (i+j):=by
 unfold Addr.add
 grind
theorem qnf(b i:Nat):(⟨b,0,none⟩:Addr).add i=⟨b,i,none⟩:=by
 unfold Addr.add;simp_all
def Seg(w:World)(B:Nat)(A:Option Addr)(m:Nat)(f:Nat->Value):Prop:=
 0<m->∃x,A=some x/\x.block<B/\∀j,j<m->w.cell? (x.add j)=some (f j)
section
variable{w w':World}{B B' m:Nat}{A:Option Addr}{f:Nat->Value}
theorem Seg.zero:Seg w B A 0 f:=λh=>absurd h Q4P
theorem Seg.keep(h:Seg w B A m f)(hk:∀p:Addr,p.block<B->w'.cell? p=w.cell? p):Seg w' B A m f:=λhm=>by
 obtain⟨x,e,hb,hc⟩:=h hm
 grind[qfn]
theorem Seg.below(h:Seg w B A m f)(hb:Below B w w'):Seg w' B A m f:=h.keep λ_ hp=>hb.cell hp
theorem Seg.more(h:Seg w B A m f)(hB:B<=B'):Seg w B' A m f:=λhm=>by
 obtain⟨x,e,hb,hc⟩:=h hm
 grind
theorem Seg.same{g:Nat->Value}(h:Seg w B A m f)(e:∀j,j<m->f j=g j):Seg w B A m g:=λhm=>by
 obtain⟨x,ex,hb,hc⟩:=h hm;simp_all
theorem Seg.less{n:Nat}(h:Seg w B A m f)(e:n<=m):Seg w B A n f:=λhm=>by
 obtain⟨x,ex,hb,hc⟩:=h Q4P
 grind
theorem Seg.alloc(h:Seg w B A m f)(hB:B<=w.heap.size)(o:Obj):Seg (w.alloc o) B A m f:=h.below ((Below.refl _ _).alloc hB o)
theorem Seg.drew(h:Seg w B A m f):Seg w.drew B A m f:=h
end
theorem Seg.new(w:World)(ty:TypeId)(vs:Array Value)(b:Nat)(hb:b=w.heap.size)(f:Nat->Value)(hf:∀j,j<vs.size->vs[j]?=some (f j)):
  Seg (w.alloc (.cells vs ty)) (w.heap.size+1) (some ⟨b,0,none⟩) vs.size f:=λ_=>
 ⟨_,rfl,by simp[hb],λj hj=>by rw[qnf,World.cell?_alloc_at _ _ _ _ hb];exact hf j hj⟩
section
variable{H:Type}{enc:TypeId×Value->H}{P:Program}
theorem qgp(hl:laidOutB P=true){W W':World}(bel:Below W.heap.size W W'):∀(ts:List TypeId)(vs:List Value)(ds:List (DataW H))(p:List MemPlace),
  (∀t∈ts,P.readableRec t=true/\t<P.types.size)->DataW.TrodAll enc P W 0 (λ_=>true) true ts vs ds p->DataW.TrodAll enc P W' 0 (λb=>decide (b<W.heap.size)) true ts vs ds p
 | [],vs,ds,p,_,h=>by
  obtain⟨rfl,rfl,rfl⟩:=trodAll_nil h;rfl
 | t::ts,vs,ds,p,ht,h=>by
  obtain⟨v,vs,d,ds,p,q,rfl,rfl,rfl,h0,hr⟩:=trodAll_cons h;have lt:∀x∈p,x.block<W.heap.size:=by obtain⟨m,hm⟩:=h0;exact DataW.trod_lt m _ _ _ hm
  exact trodAll_cons_mk (Below.trod hl (ht t Q50).1 (ht t Q50).2 h0 bel lt) (qgp hl bel ts vs ds q (λx hx=>ht x (by simp[hx])) hr)
end
def qiw(P:Program):Nat->TypeId->Nat->Option TypeId
 | 0,_,_=>none
 | d+1,t,j=>
  match P.underlying t with
  | some (.struct fs)=>(fs.toList.find? λf=>decide (f.offset<=j)&&decide (j<f.offset+P.cellsOf f.type)).bind λf=>qiw P d f.type (j-f.offset)
  | some (.array n e)=>if j<n*P.cellsOf e then qiw P d e (j%P.cellsOf e) else none
  | _=>if j=0 then some t else none
section
variable{H:Type}{enc:TypeId×Value->H}{P:Program}{w:World}{base:Nat}{spare:Nat->Bool}{held:Bool}
theorem qhm:∀(d:Nat)(t:TypeId)(j:Nat)(l:TypeId)(fuel:Nat)(cs:List Value)(x:DataW H×List MemPlace),qiw P d t j=some l->j<cs.length->DataW.trod enc P w base spare held fuel t cs=some x->
  ∃(v:Value)(y:DataW H×List MemPlace)(n:Nat),cs[j]?=some v/\DataW.trod enc P w base spare held n l [v]=some y
 | 0,_,_,_,_,_,_,h,_,_=>by simp[qiw] at h
 | d+1,t,j,l,fuel,cs,x,h,hj,ht=>by
  unfold qiw at h;split at h
  .rename_i fs hu;obtain⟨f,hf,hl⟩:=Option.bind_eq_some_iff.1 h;obtain⟨xs,n,hn,hx,hlen,hxl,hg⟩:=DataW.trod_struct hu ht;have hp:=List.find?_some hf;simp only[xi,xu] at hp;obtain⟨i,hi,hie⟩:=yB (List.mem_of_find?_eq_some hf);have hfi:fs[i]?=some f:=by simp at hi;rw[yQ hi];simpa using hie
   have hgi:=hg i f hfi;have hxi:i<xs.length:=by rw[hxl];simpa using hi
   rw[xn hxi] at hgi;obtain⟨v,y,n',hv,hy⟩:=qhm d f.type (j-f.offset) l n _ _ hl Q5q hgi
   grind
  .rename_i n e hu;split at h
   .rename_i hjn;obtain⟨xs,n',hn,hx,hlen,hxl,hg⟩:=DataW.trod_array hu ht;have hc:0<P.cellsOf e:=by
     grind
    have hq:j / P.cellsOf e<n:=(yd hc).2 hjn;have hgi:=hg (j / P.cellsOf e) hq;rw[xn Q4P] at hgi;have hm:=xB j hc;have hd:=xK j (P.cellsOf e);have hd':j / P.cellsOf e*P.cellsOf e+j%P.cellsOf e=j:=by rw[xq];exact hd
    obtain⟨v,y,n'',hv,hy⟩:=qhm d e (j%P.cellsOf e) l n' _ _ h Q5q hgi
    grind
   .cases h
  .split at h
   .rename_i hj0;subst hj0;obtain rfl:t=l:=by simpa using h
    match cs,hj with
    | [v],_=>exact⟨v,x,fuel,rfl,ht⟩
    | v::v'::r,_=>
     exfalso;cases fuel with
     | zero=>simp[DataW.trod] at ht
     | succ n=>
      unfold DataW.trod at ht;simp_all
   .cases h
end
section
variable{H:Type}{enc:TypeId×Value->H}{P:Program}{w:World}
theorem qr7{t e:TypeId}{C:Nat}{v:Value}{d:DataW H}{p:List MemPlace}(ht:P.underlying t=some (.slice e))(hC:P.cellsOf e=C)(h:DataW.Trod enc P w 0 (λ_=>true) true t v d p)(hsh:∃A len cap,v=.slice A len cap):
  ∃(A:Option Addr)(len cap:Nat)(f:Nat->Value),v=.slice A len cap/\len<=cap/\cap<=maxLen/\((len=0/\d=.nil)\/∃el sp,d=.slice el sp/\el.length=len)/\Seg w w.heap.size A (len*C) f/\
   ∀i,i<len->∃(x:DataW H×List MemPlace)(n:Nat)(cs:List Value),DataW.trod enc P w 0 (λ_=>true) true n e cs=some x/\cs.length=C/\∀j,j<C->cs[j]?=some (f (i*C+j)):=by
 obtain⟨A,len,cap,rfl⟩:=hsh
 obtain⟨fuel,hf⟩:=h
 rcases Deep.open_slice ht hf with ⟨hcs,hx⟩|⟨a,len',cap',m,n,D,Pl,hcs,hb,hl,hm,hmm,hx,hi⟩
 .simp[Value.cells] at hcs;obtain⟨rfl,rfl,rfl⟩:=hcs;simp only[Prod.mk.injEq] at hx;exact⟨none,0,0,λ_=>undef,rfl,nlr _,by simp,.inl ⟨rfl,hx.1⟩,by rw[Nat.zero_mul];exact Seg.zero,λi hi=>absurd hi Q4P⟩
 .simp[Value.cells] at hcs;obtain⟨rfl,rfl,rfl⟩:=hcs;simp only[Prod.mk.injEq] at hx;have hmc:m=cap:=by simpa using hmm
  subst hmc;rw[hC] at hi;have hrow:∀i,i<len->∃cs',(cs'.length=C/\∀j,j<C->w.cell? ((a.add (i*C)).add j)=cs'[j]?)/\DataW.trod enc P w 0 (λ_=>true) true n e cs'=some (D i,Pl i):=λi hil=>by
   obtain⟨cs',hc,ht'⟩:=hi i Q4P;obtain⟨_,hcl,hat⟩:=World.cells?_some hc
   grind
  refine⟨some a,len,m,λj=>(w.cell? (a.add j)).getD undef,rfl,hl,hm,.inr ⟨_,_,hx.1,by simp⟩,?_,?_⟩
  .intro hpos;have hcell:∀j,j<len*C->w.cell? (a.add j)=some ((w.cell? (a.add j)).getD undef):=by
    intro j hj;have hC0:0<C:=by
     grind
    obtain⟨cs',⟨hcl,hat⟩,_⟩:=hrow (j / C) ((yd hC0).2 hj);have hr:=xB j hC0
    grind[xK,qr6]
   refine⟨a,rfl,?_,hcell⟩;have:=World.block_lt_of_cell? _ _ (hcell 0 hpos)
   grind[qfn]
  grind[qr6]
end
theorem qng{P:Program}{W:World}{r:Reach}{base:Nat}{t e:TypeId}{v:Value}(ht:P.underlying t=some (.slice e))(hv:Value.okWide P W r base t v):∃A len cap,v=.slice A len cap:=okWide_slice ht hv
section
variable{H:Type}{enc:TypeId×Value->H}{P:Program}{w:World}{base:Nat}{spare:Nat->Bool}{held:Bool}
theorem qoq{d:Nat}{t:TypeId}{j:Nat}{l:TypeId}{fuel:Nat}{cs:List Value}{x:DataW H×List MemPlace}{k:IntKind}{u:Value}(hl:qiw P d t j=some l)(hu:P.underlying l=some (.int k))(hj:cs[j]?=some u)
  (h:DataW.trod enc P w base spare held fuel t cs=some x):u=.int k (intOf u)/\(Lit.int k (intOf u)).wf=true:=by
 have hjl:j<cs.length:=(xe.1 hj).1
 obtain⟨v,y,n,hv,hy⟩:=qhm d t j l fuel cs x hl hjl h
 rw[hj] at hv
 obtain rfl:=Option.some.inj hv
 obtain⟨z,hz,_,hw⟩:=DataW.trod_int hu hy
 obtain rfl:u=.int k z:=by simpa using hz
 exact⟨rfl,hw⟩
end
variable{w:World}
theorem qdb{a:Addr}{o:Obj}{v:Value}(h:w.cell? a=some v):(w.alloc o).cell? a=some v:=by
 rw[World.cell?_alloc_lt w o a (World.block_lt_of_cell? _ _ h)];exact h
theorem qii{a:Addr}{v:Value}(h:w.cell? a=some v):w.drew.cell? a=some v:=h
theorem qjr{a b:Addr}{u v:Value}(h:w.cell? a=some v)(hne:b≠a):(w.setCell b u).cell? a=some v:=by
 rw[World.cell?_setCell_other w b a u hne];exact h
theorem qjs{b:Addr}{u v:Value}(h:w.cell? b=some v):(w.setCell b u).cell? b=some u:=World.cell?_setCell_same w b u h
theorem qbv{B:Nat}{a:World}(h:Below B a w)(n:Nat):Below B a (w.drewN n):=⟨h.os,h.tape,h.output,h.size,h.block⟩
end Go.Proofs.YtggfpcfkbilkmaaGreatDoor


namespace Go.Proofs.YtggfpcfkbilkmaaGreatDoor.Sx
open Go Go.RowKit
theorem qaw{o:Bool}{n:Nat}{f:Nat->Value}{j:Nat}(h:j<n):(⟨o,n,[(0,n,.agg ⟨segL n f⟩)]⟩:Chunk).f j=f j:=by
 refine Q1b ?_;exact qdf h
theorem qd0{o:Bool}{m p:Nat}{f:Nat->Value}{v:Value}(hp:p<m)(h1:v.oneCell'=true)(hv:f p=v):Reads ⟨o,m,[(0,m,.agg ⟨segL m f⟩)]⟩ p false 1 v:=
 ⟨hp,h1,by rw[qaw hp];exact hv⟩
def lit1(v:Value):Bool:=
 match v with
 | .int _ _ | .bool _ | .string _ | .float _ _ | .complex _ _ _ | .nilFunc | .nilIface=>true
 | .pointer none | .slice none _ _=>true
 | _=>false
theorem qd1{v:Value}(h:lit1 v=true):qa2 v=true:=by
 cases v with
 | pointer a=>cases a<;>first | rfl | (simp[lit1] at h)
 | slice a l c=>cases a<;>first | rfl | (simp[lit1] at h)
 | _=>first | rfl | (simp[lit1] at h)
structure jci where
 a:Addr
 n:Nat
 f:Nat->Value
def SeenIn(w:World)(s:jci):Prop:=s.a.spot=none/\s.a.block<w.heap.size/\∀j,j<s.n->w.cell? (s.a.add j)=some (s.f j)/\qa2 (s.f j)=true
theorem SeenIn.of{w:World}{A:Option Addr}{m:Nat}{f:Nat->Value}(h:Seg w w.heap.size A m f)(hm:0<m)(hp:∀j,j<m->qa2 (f j)=true):∃a,A=some a/\SeenIn w ⟨a,m,f⟩:=by
 obtain⟨a,rfl,hb,hc⟩:=h hm;refine⟨a,rfl,?_,hb,λj hj=>⟨hc j hj,hp j hj⟩⟩;have:=hc 0 hm;cases e:a.spot with
 | none=>rfl
 | some s=>
  exfalso;have e0:a.add 0=a:=rfl;rw[e0] at this;unfold World.cell? at this;rw[e] at this;simp at this;split at this<;>simp at this
variable{P:Program}{base:Nat}
theorem qhn{W:World}{r:Reach}{t e:TypeId}{a:Addr}{len cap:Nat}(ht:P.underlying t=some (.slice e))(hv:Value.okWide P W r base t (.slice (some a) len cap)):a.spot=none/\a.block<W.heap.size/\len<=cap:=by
 simp only[Value.okWide,ht,Cell.okWide,Cell.ok,World.has] at hv;obtain⟨h1,h2,h3,h4,row,cells,h5,_⟩:=hv;refine⟨h4,?_,h1⟩;unfold World.shape? at h5;cases e:W.heap[a.block]? with
 | none=>rw[e] at h5;simp at h5
 | some o=>exact(xI.1 e).1
theorem qp9{W:World}{r:Reach}{t e:TypeId}{len cap:Nat}(ht:P.underlying t=some (.slice e))(hv:Value.okWide P W r base t (.slice none len cap)):len=0/\cap=0:=by
 simp only[Value.okWide,ht,Cell.okWide,Cell.ok] at hv;split at hv<;>simp_all
theorem SeenIn.some{w:World}{r:Reach}{t e:TypeId}{a:Addr}{len cap m:Nat}{f:Nat->Value}(ht:P.underlying t=Option.some (.slice e))(hv:Value.okWide P w r base t (.slice (Option.some a) len cap))
  (h:Seg w w.heap.size (Option.some a) m f) (hp:∀j,j<m->lit1 (f j)=true):SeenIn w ⟨a,m,f⟩:=by
 obtain⟨h1,h2,_⟩:=qhn ht hv
 refine⟨h1,h2,λj hj=>⟨?_,qd1 (hp j hj)⟩⟩
 obtain⟨x,hx,_,hc⟩:=h (x8 (xo _) hj)
 obtain rfl:a=x:=by simpa using hx
 exact hc j hj
inductive ArgIs(sg:List jci):Value->Value->Prop
 | plain {v:Value} (h:qai v=true):ArgIs sg v v
 | slice {k l c s0 n:Nat} {a:Addr} {f:Nat->Value} (h:sg[k]?=some ⟨a,n,f⟩):ArgIs sg (.slice (some ⟨k,0,some s0⟩) l c) (.slice (some a) l c)
section
variable{P:Program}{G:Tys}
end
end Go.Proofs.YtggfpcfkbilkmaaGreatDoor.Sx


namespace Go.Proofs.YtggfpcfkbilkmaaGreatDoor
open Go.RowKit
abbrev xa(g:FuncId)(a:Array Value)(w:World)(v:Value):Prop:=Calls prog g a w λe w'=>e=.returned v/\Below w.heap.size w w'
theorem Tryz.info_u8:(prog.info? 5).map (λi=>(i.zero,i.size,i.bytes))=some (some (.int .u8 0),1,1):=by kernel_rfl
theorem qr8{P:Program}(w:World)(t e:TypeId)(a:Option Addr)(l c:Nat)(h:P.underlying t=some (.slice e)):(binOp .eql t (.slice a l c) (.slice none 0 0)).run P w=.ok (.bool a.isNone) w:=by
 simp[binOp,run_equal_slice_nil w t e a l c h]
theorem ql1{w:World}{base base':Nat}{e:TypeId}{size:Nat}{v:Value}{n:Nat}{xs:List Value}(h:w.ownsRow base e size v n xs)(hb:base'<=base):w.ownsRow base' e size v n xs:=by
 obtain⟨h1,h2⟩:=h;refine⟨h1,?_⟩;rcases h2 with h2|⟨g,cap,cur,hv,hg,r⟩
 .exact .inl h2
 .exact .inr ⟨g,cap,cur,hv,by omega,r⟩
theorem qr9(w:World):Calls prog 216 #[.slice none 0 0] w λe w'=>e=.returned (.slice none 0 0)/\w=w':=by
 have h0:=λw:World=>qr8 (P:=prog) w 30 5 none 0 0 underlying30
 go_enter func216,Tryz.ntmps216
 go_wp2
 go_ret
 exact⟨rfl,rfl⟩
theorem qsa(x:Addr)(cap:Nat)(bs:List Int)(w:World)(hm:bs.length<=1048576)(hc:∀j,j<bs.length->w.cell? (x.add j)=some (.int .u8 (bs.getD j 0))):
  Calls prog 216 #[.slice (some x) bs.length cap] w λe w'=>∃g c,e=.returned (.slice (some ⟨g,0,none⟩) bs.length c)/\w'.ownsRow w.heap.size 5 1 (.slice (some ⟨g,0,none⟩) bs.length c) bs.length (bs.map (Value.int .u8))/\w.heap.size<=g/\Below w.heap.size w w':=by
 obtain⟨i0,hi0,hz0,hz1,hz2⟩:=info_parts Tryz.info_u8
 have h0:=λw:World=>qr8 (P:=prog) w 30 5 (some x) bs.length cap underlying30
 go_enter func216,Tryz.ntmps216
 have hown:(w.alloc (.cells #[] 5)).ownsRow w.heap.size 5 1 (.slice (some ⟨w.heap.size,0,none⟩) 0 0) 0 []:=
  ⟨by simp,.inr ⟨w.heap.size,0,#[],rfl,nlr _,heap_alloc_new w _,nlr _,by simp,by simp,by simp⟩⟩
 have hblt:∀j,j<bs.length->x.block<w.heap.size:=λj hj=>by have:=World.block_lt_of_cell? _ _ (hc j hj);rwa[qfn] at this
 go_wp2_with (at_builtin;refine wpList_append_own _ rfl (.tmp 5) (.tmp 6) 30 rfl w.heap.size 5 i0 (.int .u8 0) 1 1 underlying30 hi0 hz0 hz1 hz2 rfl Q4T _ _ _ rfl hown x bs.length cap (bs.map (Value.int .u8)) rfl ?c1 ?c2 ?c3 ?c4 ?c5 ?c6 ?_)
 case c1=>simp
 case c2=>
  intro j u hu
  have hj:j<bs.length:=by
   rcases yc j bs.length with h|h
   .exact h
   .rw[yA Q5J] at hu;cases hu
  have hu2:u=.int .u8 (bs.getD j 0):=by simp[hj,xL] at hu ⊢;exact hu.symm
  rw[hu2,World.cell?_alloc_lt w _ _ (by rw[qfn];exact hblt j hj)]
  exact hc j hj
 case c3=>intro u hu;obtain⟨z,_,rfl⟩:=xx.1 hu;rfl
 case c4=>unfold maxLen;omega
 case c5=>omega
 case c6=>simp
 intro v' w1 hown1 hg1 hnil
 have hb1:Below w.heap.size w w1:=((Below.refl _ _).alloc (nlr _) _).grown hg1 Q50 (by intro k hk;simp[Value.ownBlock] at hk;omega)
 go_wp2_with fail
 go_ret
 have ho:w1.ownsRow w.heap.size 5 1 v' bs.length (bs.map (Value.int .u8)):=by simpa using hown1
 rcases ho.2 with ⟨rfl,_⟩|⟨g,c,cur,rfl,hge,_⟩
 .simp at hnil
 .exact⟨g,c,rfl,ho,hge,hb1⟩
theorem qzb(to at_ tr:Int)(bent:Bool)(w:World):xa 178 #[.agg #[xc to,.slice none 0 0,xc at_,xc tr,.bool bent]] w (.agg #[xc to,.slice none 0 0,xc at_,xc tr,.bool bent]):=by
 have hB:Below w.heap.size w w:=Below.refl _ _
 go_enter func178,Tryz.ntmps178
 go_wp2_with (go_at_call 216;refine(qr9 _).mono ?_;rintro e w' ⟨rfl,rfl⟩)
 exact bodyPost_ret (v:=.agg #[xc to,.slice none 0 0,xc at_,xc tr,.bool bent]) (by simp[results,Tryz.results178,go_sem]) rfl ⟨rfl,Q5u⟩
theorem qvf(to at_ tr:Int)(bent:Bool)(x:Addr)(cap:Nat)(bs:List Int)(w:World)(hm:bs.length<=1048576)(hc:∀j,j<bs.length->w.cell? (x.add j)=some (.int .u8 (bs.getD j 0))):
  Calls prog 178 #[.agg #[xc to,.slice (some x) bs.length cap,xc at_,xc tr,.bool bent]] w λe w'=>∃g c,e=.returned (.agg #[xc to,.slice (some ⟨g,0,none⟩) bs.length c,xc at_,xc tr,.bool bent])/\
   w'.ownsRow w.heap.size 5 1 (.slice (some ⟨g,0,none⟩) bs.length c) bs.length (bs.map (Value.int .u8))/\w.heap.size<=g/\Below w.heap.size w w':=by
 have hB:Below w.heap.size w w:=Below.refl _ _
 have HC:=Lib.hid hc
 clear hc
 go_enter func178,Tryz.ntmps178
 go_wp2_with fail
 refine(qsa x cap bs _ hm ?_).mono ?_
 .intro j hj;have h:=HC.out j hj;exact qdb (qdb h)
 .rintro e w1 ⟨g,c,rfl,ho,hg,hb⟩;have hz:=hb.size;simp at hz hg;have hB':Below w.heap.size w w1:=Below.trans Q5u (hb.mono Q4V);have hB:=hB';clear hB';have k0:w1.cell? ⟨w.heap.size,0,none⟩=some (xc to):=(hb.cell Q4V).trans Q5i;have k1:w1.cell? ⟨w.heap.size,1,none⟩=some (.slice (some x) bs.length cap):=(hb.cell Q4V).trans Q5i;have k2:w1.cell? ⟨w.heap.size,2,none⟩=some (xc at_):=(hb.cell Q4V).trans Q5i;have k3:w1.cell? ⟨w.heap.size,3,none⟩=some (xc tr):=(hb.cell Q4V).trans Q5i;have k4:w1.cell? ⟨w.heap.size,4,none⟩=some (.bool bent):=(hb.cell Q4V).trans Q5i;have k5:w1.cell? ⟨w.heap.size+1,0,none⟩=some (xc 0):=(hb.cell Q4V).trans Q5i;have k6:w1.cell? ⟨w.heap.size+1,1,none⟩=some (.slice none 0 0):=(hb.cell Q4V).trans Q5i;have k7:w1.cell? ⟨w.heap.size+1,2,none⟩=some (xc 0):=(hb.cell Q4V).trans Q5i
  have k8:w1.cell? ⟨w.heap.size+1,3,none⟩=some (xc 0):=(hb.cell Q4V).trans Q5i;have k9:w1.cell? ⟨w.heap.size+1,4,none⟩=some (.bool false):=(hb.cell Q4V).trans Q5i;have f0:w1.frozen? ⟨w.heap.size,0,none⟩=false:=(hb.frozen Q4V).trans Q5i;have f1:w1.frozen? ⟨w.heap.size,1,none⟩=false:=(hb.frozen Q4V).trans Q5i;have f2:w1.frozen? ⟨w.heap.size,2,none⟩=false:=(hb.frozen Q4V).trans Q5i;have f3:w1.frozen? ⟨w.heap.size,3,none⟩=false:=(hb.frozen Q4V).trans Q5i;have f4:w1.frozen? ⟨w.heap.size,4,none⟩=false:=(hb.frozen Q4V).trans Q5i;have f5:w1.frozen? ⟨w.heap.size+1,0,none⟩=false:=(hb.frozen Q4V).trans Q5i;have f6:w1.frozen? ⟨w.heap.size+1,1,none⟩=false:=(hb.frozen Q4V).trans Q5i;have f7:w1.frozen? ⟨w.heap.size+1,2,none⟩=false:=(hb.frozen Q4V).trans Q5i;have f8:w1.frozen? ⟨w.heap.size+1,3,none⟩=false:=(hb.frozen Q4V).trans Q5i
  have f9:w1.frozen? ⟨w.heap.size+1,4,none⟩=false:=(hb.frozen Q4V).trans Q5i;simp at ho;have HO:=Lib.hid ho;clear hb ho
  go_wp2_with fail
  refine bodyPost_ret (v:=.agg #[xc to,.slice (some ⟨g,0,none⟩) bs.length c,xc at_,xc tr,.bool bent]) (by simp[results,Tryz.results178,go_sem,k5,k6,k7,k8,k9]) rfl ?_;refine⟨g,c,rfl,?_,by omega,Q5u⟩;refine ql1 (base:=w.heap.size+1+1) ?_ Q4P;repeat (first|with_reducible exact HO.out|with_reducible refine ownsRow_setCell_below ?_ Q4V _)
end Go.Proofs.YtggfpcfkbilkmaaGreatDoor


namespace Go.Proofs.YtggfpcfkbilkmaaGreatDoor.Sx
open Go Go.RowKit
structure Sl where
 b:Nat
 o:Nat
 n:Nat
 c:Nat
 sp:Option Nat
def uR:Option Sl->Value
 | none=>.slice none 0 0
 | some s=>.slice (some ⟨s.b,s.o,s.sp⟩) s.n s.c
abbrev uV(u:Option Sl):Value:=.iface 99999999 (uR u)
theorem jau(u:Option Sl):∃a l c,uR u=.slice a l c:=by cases u with
 | none=>exact⟨_,_,_,rfl⟩
 | some s=>exact⟨_,_,_,rfl⟩
theorem qjt(u:Option Sl)(ρ:Rz):den0 ρ (uV u)=uR u:=by
 obtain⟨a,l,c,e⟩:=jau u;rw[uV,e];rfl
theorem qsb(u:Option Sl)(ρ:Rz):den1 ρ (uV u)=uR u:=qjt u ρ
theorem qfo(u:Option Sl)(ρ:Rz):den ρ (uV u)=uR u:=qjt u ρ
theorem qsc(u:Option Sl){ix:Lz}:Re1 ix (uV u) (uV u):=.quo
def uN:Option Sl->Nat
 | none=>0
 | some s=>s.n
structure By where
 b:Nat
 c:Nat
 bs:List Int
abbrev By.s(e:By):Option Sl:=some ⟨e.b,0,e.bs.length,e.c,none⟩
def jcx(w:World)(u:Option Sl)(bs:List Int):Prop:=bs.length=uN u/\∀s,u=some s->(s.sp=none\/s.n=0)/\∀j,j<bs.length->w.cell? ⟨s.b,s.o+j,none⟩=some (.int .u8 (bs.getD j 0))
structure ByAt(w:World)(e:By):Prop where
 lt:e.b<w.heap.size
 cell:∀j,j<e.bs.length->w.cell? ⟨e.b,j,none⟩=some (.int .u8 (e.bs.getD j 0))
 own:∀j,j<e.bs.length->w.frozen? ⟨e.b,j,none⟩=false
variable{w:World}{b:Nat}
theorem qet{w':World}{o:Nat}(h:w'.heap[b]?=w.heap[b]?):w'.cell? ⟨b,o,none⟩=w.cell? ⟨b,o,none⟩:=by
 simp only[World.cell?,h]
theorem qqa{w':World}{o:Nat}(h:w'.heap[b]?=w.heap[b]?):w'.frozen? ⟨b,o,none⟩=w.frozen? ⟨b,o,none⟩:=by
 simp only[World.frozen?,h]
theorem qju{w':World}(hl:b<w.heap.size)(h:w'.heap[b]?=w.heap[b]?):b<w'.heap.size:=by
 grind
theorem qsd{o:Nat}{v:Value}(h:w.cell? ⟨b,o,none⟩=some v):b<w.heap.size:=World.block_lt_of_cell? _ _ h
theorem ByAt.keep{w':World}{e:By}(h:ByAt w e)(hb:w'.heap[e.b]?=w.heap[e.b]?):ByAt w' e:=
 ⟨qju h.lt hb,λj hj=>(qet hb).trans (h.cell j hj),λj hj=>(qqa hb).trans (h.own j hj)⟩
structure MemOK(W:World)(F:List By)(p:Nat×Nat)(S:Nat->Prop)(w:World):Prop where
 at_:0<W.heap.size->p.1<W.heap.size
 dom:∀b,S b↔b<W.heap.size\/∃e∈F,e.b=b
 size:W.heap.size<=w.heap.size
 old:∀b,b<W.heap.size->w.heap[b]?=W.heap[b]?
 nodup:(F.map By.b).Nodup
 cell:∀e∈F,W.heap.size<=e.b/\ByAt w e
abbrev jcy(W:World)(F:List By):Ext where
 inv:=λp S w=>MemOK W F p S w
 keep:=λ{p S w w'} h hb=>⟨h.at_,h.dom,by
   rcases y2 W.heap.size with h0|h0
   .omega
   have h1:=h.at_ h0;have h2:=hb (W.heap.size-1) ((h.dom _).2 (.inl Q4P));have h3:=qju (b:=W.heap.size-1) (w:=w) (by have:=h.size;omega) h2;omega,λb hl=>(hb b ((h.dom b).2 (.inl hl))).trans (h.old b hl),h.nodup,λe he=>⟨(h.cell e he).1,(h.cell e he).2.keep (hb _ ((h.dom _).2 (.inr ⟨e,he,rfl⟩)))⟩⟩
abbrev q3v(W:World)(F:List By):Chunk:=@Chunk.mk (jcy W F) true 0 []
inductive Src(W:World)(F:List By):Option Sl->List Int->Prop
 | nil:Src W F none []
 | own {e:By} (he:e∈F):Src W F e.s e.bs
 | old {s:Sl} {bs:List Int} (hn:bs.length=s.n) (hs:s.sp=none\/s.n=0) (hc:∀j,j<bs.length->W.cell? ⟨s.b,s.o+j,none⟩=some (.int .u8 (bs.getD j 0))):Src W F (some s) bs
variable{u:Option Sl}{bs:List Int}
theorem MemOK.src{W:World}{F:List By}{p:Nat×Nat}{S:Nat->Prop}(M:MemOK W F p S w)(h:Src W F u bs):jcx w u bs:=by
 cases h with
 | nil=>exact⟨rfl,λs hs=>by cases hs⟩
 | own he=>
  refine⟨rfl,λs hs=>⟨?_,λj hj=>?_⟩⟩
  .grind
  cases hs
  show w.cell? ⟨_,0+j,none⟩=_;rw[xl];exact(M.cell _ he).2.cell j hj
 | old hn hsp hc=>
  refine⟨hn,λs hs=>⟨?_,λj hj=>?_⟩⟩
  .simp_all
  cases hs
  have h1:=hc j hj;rw[<-h1];exact qet (M.old _ (qsd h1))
theorem Src.more{W:World}{F F':List By}(hF:∀e∈F,e∈F')(h:Src W F u bs):Src W F' u bs:=by
 cases h with
 | nil=>exact .nil
 | own he=>exact .own (hF _ he)
 | old hn hsp hc=>exact .old hn hsp hc
inductive Made(F:List By)(bs:List Int):Option Sl->List By->Prop
 | nil:bs=[]->Made F bs none F
 | new {b c:Nat} (hb:b∉F.map By.b):Made F bs (By.mk b c bs).s (⟨b,c,bs⟩::F)
theorem Made.src{W:World}{F F':List By}(h:Made F bs u F'):Src W F' u bs:=Q2k
theorem Made.sub{F F':List By}(h:Made F bs u F'):∀e∈F,e∈F':=by
 cases h with
 | nil h=>exact λe he=>he
 | new hb=>exact λe he=>ym _ he
section
variable{X:Ctx}{ρ:Rz}{h:Hp}{w w':World}
theorem qor{i:Nat}{W:World}{F:List By}{e:By}(H:HOK X ρ h w)(hi:h[i]?=some (some (q3v W F)))(hB:Below w.heap.size w w')(he:ByAt w' e)(hge:w.heap.size<=e.b):e.b∉F.map By.b/\HOK X ρ (h.set i (some (q3v W (e::F)))) w':=by
 obtain⟨S,E⟩:=H.ext;have M:MemOK W F (ρ i) (S i) w:=E.inv i _ hi;have hno:e.b∉F.map By.b:=λhm=>by
  obtain⟨x,hx,hxb⟩:=xx.1 hm;have:=(M.cell x hx).2.lt;omega
 refine⟨hno,H.turnX E hi (d:=q3v W (e::F)) (S':=λb=>S i b\/b=e.b) id (nlr _) (nzj) hB.os hB.tape hB.output hB.size (λb hb _=>hB.block b hb) (λb hb=>?_) ?_⟩
 .rcases hb with hb|rfl
  .exact⟨xh (E.mine i _ b hi hb).2.1 hB.size,.inl rfl,.inl hb⟩
  .exact⟨he.lt,.inl rfl,.inr hge⟩
 .refine⟨M.at_,λb=>⟨λhb=>?_,λhb=>?_⟩,xH M.size hB.size,λb hb=>(hB.block b (xh hb M.size)).trans (M.old b hb),?_,λx hx=>?_⟩
  .rcases hb with hb|rfl
   .rcases(M.dom b).1 hb with hb|⟨x,hx,hxb⟩
    .exact .inl hb
    grind
   simp
  .rcases hb with hb|⟨x,hx,rfl⟩
   .exact .inl ((M.dom b).2 (.inl hb))
   .rcases xf.1 hx with rfl|hx
    .omega
    .exact .inl ((M.dom _).2 (.inr ⟨x,hx,rfl⟩))
  .rw[xk,xz];exact⟨hno,M.nodup⟩
  .rcases xf.1 hx with rfl|hx
   .exact⟨xH M.size hge,he⟩
   .exact⟨(M.cell x hx).1,(M.cell x hx).2.keep (hB.block _ (M.cell x hx).2.lt)⟩
end
section
variable{X:Ctx}{ρ:Rz}{h:Hp}{w:World}
end
section
variable{P:Program}{G:Tys}{o:Oper}{st:St}
variable{x:Operand}
theorem qnh{X:Ctx}{ρ:Rz}{st:St}{a:Act}{w:World}{v:Value}(h:EvTo x st v)(hp:qai v=true)(R:Rel X ρ st a w):a.eval x=v:=by
 rw[<-(h.den R).self,qaz hp]
theorem N.op{slot:Nat}{K:Value->Mz->List Nat->Prop}{v:Value}{ms:Mz}{rh:List Nat}(h:OKs P o st v ms rh)(k:K v ms rh):N (OpN P o st slot K):=N.mk ⟨v,ms,rh,h,k⟩
theorem qjv{t:TypeId}{y:Operand}{b f l c sz g:Nat}{a:Int}{k:IntKind}{v:Value}(hG:q32 P G)(ho:o.op=.indexAddr t x y)(hx:EvTo x st v)(hxv:∀ρ,den ρ v=.slice (some ⟨b,f,none⟩) l c)(hy:EvTo y st (.int k a))
  (ht:q3y G t λ_ d=>match d with|.slice e=>q3y G e λei _=>ei.size=sz|_=>False) (h0:0<=a) (hn:a<l) (hg:f+a.toNat*sz=g):OKs P o st (.pointer (some ⟨b,g,none⟩)) [] []:=λst₂ hs _ _=>
 qat λX ρ act w R=>by
  subst hg;have hx':act.eval x=.slice (some ⟨b,f,none⟩) l c:=by rw[<-((hs x Q4X _ hx).den R).self,hxv]
  have hy':=qnh (hs y Q4X _ hy) rfl R;obtain⟨i,d,_,h1,hd⟩:=qak hG ht;split at hd
  .obtain⟨ei,ed,h2,_,rfl⟩:=qak hG hd;refine⟨_,?_,Den.plain rfl⟩;exact Q1x
  .exact hd.elim
def jav(W:World)(F:List By)(b f:Nat)(v:Value):Prop:=∀p S w,MemOK W F p S w->w.cell? ⟨b,f,none⟩=some v
theorem qse{W:World}{F:List By}{b f:Nat}{v:Value}(h:W.cell? ⟨b,f,none⟩=some v):jav W F b f v:=λp S w M=>by
 rw[<-h];exact qet (M.old _ (qsd h))
theorem qck{ts:Array TypeId}{u:Option Sl}(ho:o.op=.call ⟨.builtin .len,⟨[x]⟩,ts⟩)(hx:EvTo x st (uV u))(ht:∃t,ts = #[t]/\∃e,P.underlying t=some (.slice e)):OKs P o st (xc (uN u:Nat)) [] []:=λst₂ hs2 hh _=>
 qat λX ρ a w R=>by
  have hx':a.eval x=uR u:=by rw[<-((hs2 x Q54 _ hx).den R).self,qfo]
  obtain⟨t,rfl,e,he⟩:=ht;refine⟨xc (uN u:Nat),?_,Den.plain rfl⟩;cases u with
  | none=>
   exact Q1O
  | some s=>
   exact Q1O
end
structure Rw where
 w:Bool
 e:TypeId
 k:Nat
 b:Nat
 o:Nat
 c:Nat
 n:Nat
 xs:List Value
abbrev Rw.sl(r:Rw):Sl:=⟨r.b,r.o,r.n,r.c,none⟩
structure RwAt(w:World)(r:Rw):Prop where
 lt:r.b<w.heap.size
 len:r.xs.length=r.n*r.k
 cap:r.n<=r.c
 cell:∀j,j<r.xs.length->w.cell? ⟨r.b,r.o+j,none⟩=r.xs[j]?
 own:r.w=true->r.o=0/\∃cur z,w.heap[r.b]?=some (.cells cur r.e z)/\(z.1=z.2\/cur.size<=z.1)/\cur.size=r.c*r.k
theorem RwAt.keep{w':World}{r:Rw}(h:RwAt w r)(hb:w'.heap[r.b]?=w.heap[r.b]?):RwAt w' r:=
 ⟨qju h.lt hb,h.len,h.cap,λj hj=>(qet hb).trans (h.cell j hj),λhw=>⟨(h.own hw).1,by rw[hb];exact(h.own hw).2⟩⟩
variable{e:TypeId}{k n:Nat}{xs:List Value}
theorem RwAt.row{c:Nat}{cur:Array Value}{z:Nat×Nat}(hh:w.heap[b]?=some (.cells cur e z))(hz:z.1=z.2\/cur.size<=z.1)(hs:cur.size=c*k)(hx:cur.toList.take (n*k)=xs)(hl:xs.length=n*k)(hn:n<=c):RwAt w ⟨true,e,k,b,0,c,n,xs⟩:=by
 have hc:∀j,w.cell? ⟨b,j,none⟩=cur[j]?:=λj=>by simp[World.cell?,hh]
 refine⟨(xI.1 hh).1,hl,hn,λj hj=>?_,λ_=>⟨rfl,cur,z,hh,hz,hs⟩⟩
 grind
theorem qos{cur:Array Value}{z:Nat×Nat}(hh:w.heap[b]?=some (.cells cur e z))(hz:z.1=z.2\/cur.size<=z.1)(j:Nat)(hj:j<cur.size):(w.cell? ⟨b,j,none⟩).isSome=true/\w.frozen? ⟨b,j,none⟩=false:=by
 refine⟨by simp[World.cell?,hh,hj],?_⟩;simp only[World.frozen?,hh,Bool.and_eq_false_iff,xD];omega
theorem qgq(b:Nat):∀(vs:List Value)(o:Nat)(w:World)(cur:Array Value)(e:TypeId)(z:Nat×Nat),w.heap[b]?=some (.cells cur e z)->∃cur',(w.setCells b o vs).heap[b]?=some (.cells cur' e z)/\cur'.size=cur.size
 | [],_,_,cur,_,_,h=>⟨cur,h,rfl⟩
 | v::r,o,w,cur,e,z,h=>by
  have h1:(w.setCell ⟨b,o,none⟩ v).heap[b]?=some (.cells (cur.setIfInBounds o v) e z):=by
   have:=setCell_eq_setRow w b o cur e z v h;rw[this];exact setRow_heap w b cur _ e z h
  obtain⟨cur',h2,h3⟩:=qgq b r (o+1) _ _ e z h1;exact⟨cur',h2,by rw[h3,Array.size_setIfInBounds]⟩
theorem RwAt.of{c:Nat}(h:w.ownsRow 0 e k (.slice (some ⟨b,0,none⟩) n c) n xs):RwAt w ⟨true,e,k,b,0,c,n,xs⟩:=by
 rcases h.2 with ⟨h1,_⟩|⟨g,cap,cur,h1,h2,h3,h4,h5,h6,h7⟩
 .cases h1
 .have e1:b=g/\c=cap:=by injection h1 with h1 h8 h9;injection h1 with h1;injection h1 with h1;exact⟨h1,h9⟩
  obtain⟨rfl,rfl⟩:=e1;exact .row h3 (.inl rfl) h6 h7 h.1 h4
theorem qfp(b:Nat):∀(vs:List Value)(o:Nat)(w:World),(w.setCells b o vs).os=w.os/\(w.setCells b o vs).tape=w.tape/\(w.setCells b o vs).output=w.output/\(w.setCells b o vs).heap.size=w.heap.size/\∀k,k≠b->(w.setCells b o vs).heap[k]?=w.heap[k]?
 | [],_,_=>⟨rfl,rfl,rfl,rfl,λ_ _=>rfl⟩
 | v::r,o,w=>by
  obtain⟨h1,h2,h3,h4,h5⟩:=qfp b r (o+1) (w.setCell ⟨b,o,none⟩ v);refine⟨h1,h2,h3,h4.trans (World.size_setCell ..),λk hk=>(h5 k hk).trans (heap_setCell_other w ⟨b,o,none⟩ k v hk)⟩
class ZW where
 z:Option World
structure RvOK[ZW](R:List Rw)(p:Nat×Nat)(S:Nat->Prop)(w:World):Prop where
 nodup:(R.map Rw.b).Nodup
 at_:∀r∈R,S r.b/\RwAt w r/\∀W,ZW.z=some W->W.heap.size<=r.b
 base:∀W,ZW.z=some W->p.1<W.heap.size/\W.heap.size<=w.heap.size/\∀b,b<W.heap.size->S b/\w.heap[b]?=W.heap[b]?
abbrev rvX[ZW](R:List Rw):Ext where
 inv:=λp S w=>RvOK R p S w
 keep:=λ{p S w w'} h hb=>⟨h.nodup,λr hr=>⟨(h.at_ r hr).1,(h.at_ r hr).2.1.keep (hb _ (h.at_ r hr).1),(h.at_ r hr).2.2⟩,λW hW=>by
  obtain⟨h1,h2,h3⟩:=h.base W hW;refine⟨h1,?_,λb hb'=>⟨(h3 b hb').1,(hb b (h3 b hb').1).trans (h3 b hb').2⟩⟩;have h4:=qju (b:=W.heap.size-1) (w:=w) (w':=w') Q4P (hb _ (h3 (W.heap.size-1) Q4P).1);omega⟩
abbrev rvC[ZW](R:List Rw):Chunk:=@Chunk.mk (rvX R) true 0 []
def rowO:Option Rw->Option Sl
 | none=>none
 | some r=>some r.sl
def rowL:Option Rw->List Rw->List Rw
 | none,R=>R
 | some r,R=>r::R
def q5h:Option Rw->Nat
 | none=>0
 | some r=>r.n
def q53:Option Rw->List Value
 | none=>[]
 | some r=>r.xs
theorem qot(o:Option Rw)(R:List Rw):∀r∈R,r∈rowL o R:=λr hr=>by
 cases o with
 | none=>exact hr
 | some q=>exact ym _ hr
theorem qe5(r:Rw)(R:List Rw):r∈rowL (some r) R:=yp ..
structure Grew(o o':Option Rw)(e:TypeId)(k m:Nat)(news:List Value):Prop where
 n:q5h o'=q5h o+m
 xs:q53 o'=q53 o++news
 ty:∀r,o'=some r->r.e=e/\r.k=k/\r.w=true
 nil:o'=none↔o=none/\m=0
 cap:∀r,o'=some r->r.n<=r.c
def SrcR(w:World)(v:Value)(m k:Nat)(news:List Value):Prop:=
 (v=.slice none 0 0/\m=0/\news=[])\/∃a c,v=.slice (some a) m c/\news.length=m*k/\∀j u,news[j]?=some u->w.cell? (a.add j)=some u
theorem qzc{size m cap:Nat}{z:Value}{olds news:List Value}(ho:olds.length=n*size)(hn:news.length=m*size)(hz:z.cells.size=size)(hge:n+m<=cap)(hcm:cap<=maxLen):
  (w.drew.alloc (.cells (olds.toArray++news.toArray++Builtin.zeroCells z.cells (cap-(n+m))) e)).ownsRow 0 e size (.slice (some ⟨w.heap.size,0,none⟩) (n+m) cap) (n+m) (olds++news):=by
 have hlen:(olds++news).length=(n+m)*size:=by rw[xP,ho,hn,x6]
 refine⟨hlen,.inr ⟨w.heap.size,_,_,rfl,xo _,heap_alloc_new w.drew _,hge,hcm,?_,?_⟩⟩
 .simp only[Array.size_append,List.size_toArray,size_zeroCells,hz,ho,hn,<-x6];congr 1;omega
 .grind
section
variable{P:Program}{G:Tys}{o:Oper}{st:St}
variable{n:Nat}{ps:Pz}{K:Value->Mz->Prop}
theorem qvg[ZW]{x y:Operand}{t e:TypeId}{ei:TypeInfo}{z p:Value}{i:Nat}{own:Bool}(oe:Option Rw)(R:List Rw)(m:Nat)(news:List Value)
  (ho:o.op=.call ⟨.builtin .append,#[x,y],#[t,t]⟩) (hx:EvTo x st p) (hp:∀ρ,den ρ p=uR (rowO oe))
  (h1:P.underlying t=some (.slice e)) (h2:P.info? e=some ei) (hz:ei.zero=some z) (hzs:z.cells.size=ei.size) (hs0:0<ei.size)
  (hi:st.h[i]?=some (some (@Chunk.mk (rvX (rowL oe R)) own n ps))) (hoe:∀r,oe=some r->r.e=e/\r.k=ei.size/\r.w=true)
  (hsrc:∀X ρ a w,Rel X ρ st a w->SrcR w (a.eval y) m ei.size news) (hone:∀u∈news,u.oneCell'=true)
  (h63:q5h oe+m<=35184372088831) (hb:(q5h oe+m)*ei.bytes<=140737488355328)
  (hK:∀oe',Grew oe oe' e ei.size m news->K (uV (rowO oe')) [(i,@Chunk.mk (rvX (rowL oe' R)) own n ps)]):EffAll P o st K:=λX ρ a w Rl next Q hn=>by
 have hx':a.eval x=uR (rowO oe):=by rw[<-(hx.den Rl).self,hp]
 obtain⟨S,E⟩:=Rl.heap.ext
 have V:RvOK (rowL oe R) (ρ i) (S i) w:=E.inv i _ hi
 have hpi:=Rl.heap.lt i _ hi
 have fin:∀oe' w',(Builtin.append_ #[t,t] o.type #[a.eval x,a.eval y]).run P w=.ok (uR (rowO oe')) w'->HOK X ρ (st.h.set i (some (@Chunk.mk (rvX (rowL oe' R)) own n ps))) w'->Grew oe oe' e ei.size m news->o.wp P a w next Q:=λoe' w' hr H' hg=>by
  have hrun2:=qb2 (P:=P) (o:=o) (x:=x) (y:=y) (t:=t) (a:=a) ho hr;unfold Oper.wp;rw[hrun2];exact hn _ _ ρ _ _ (hK oe' hg) ⟨AgreeOn.refl _ _,H',λr _=>qfo _ r⟩
 have hcm:∀q old,q<=35184372088831->grownCap w q old e<=maxLen:=λq old hq=>grownCap_le_maxLen w q old e (by simp only[maxLen];omega)
 have turn:∀oe' w',RvOK (rowL oe' R) (ρ i) (λb=>S i b\/∃r',oe'=some r'/\b=r'.b) w'->w'.os=w.os->w'.tape=w.tape->w'.output=w.output->w.heap.size<=w'.heap.size->(∀b,b<w.heap.size->¬ S i b->w'.heap[b]?=w.heap[b]?)->(∀r',oe'=some r'->S i r'.b\/w.heap.size<=r'.b)->
   HOK X ρ (st.h.set i (some (@Chunk.mk (rvX (rowL oe' R)) own n ps))) w':=λoe' w' hv e1 e2 e3 e4 e5 e6=>by
  refine Rl.heap.turnX E hi (d:=@Chunk.mk (rvX (rowL oe' R)) own n ps) (S':=λb=>S i b\/∃r',oe'=some r'/\b=r'.b) id (nlr _) (λj hj=>rfl) e1 e2 e3 e4 e5 (λb hb=>?_) hv
  rcases hb with hb|⟨r',hr',rfl⟩
  .obtain⟨m1,m2,m3⟩:=E.mine i _ b hi hb
   grind
  .have hlt:r'.b<w'.heap.size:=by
    subst hr';exact((hv.at_ r' (qe5 r' R)).2.1).lt
   rcases e6 r' hr' with h|h
   .exact⟨hlt,(E.mine i _ _ hi h).1,.inl h⟩
   omega
 by_cases hm0:m=0
 .subst hm0;have hnews:news=[]:=by
   rcases hsrc X ρ a w Rl with ⟨_,_,h⟩|⟨_,_,_,h,_⟩
   .exact h
   simp_all
  subst hnews;have hset:st.h.set i (some (@Chunk.mk (rvX (rowL oe R)) own n ps))=st.h:=by
   refine xO λj=>?_
   grind
  have same:(Builtin.append_ #[t,t] o.type #[uR (rowO oe),a.eval y]).run P w=.ok (uR (rowO oe)) w:=by
   have hf0:=λad c=>run_firstCells_some (P:=P) w ei.size 0 ad 0 c [] Q50 Q50
   rcases hsrc X ρ a w Rl with ⟨hv,_,_⟩|⟨ad,c,hv,_,_⟩
   .rw[hv];cases oe with
    | none=>simp[rowO,uR,Builtin.append_,run_underlying h1,sizeOf,typeInfo,h2,Builtin.lenOf,run_firstCells_none]
    | some r=>
     have hc:=((V.at_ r (qe5 r R)).2.1).cap;simp[rowO,uR,Builtin.append_,run_underlying h1,sizeOf,typeInfo,h2,Builtin.lenOf,hc,run_firstCells_none,storeCells]
   .rw[hv];cases oe with
    | none=>
     simp[rowO,uR,Builtin.append_,run_underlying h1,sizeOf,typeInfo,h2,Builtin.lenOf,hf0,storeCells]
    | some r=>
     have hc:=((V.at_ r (qe5 r R)).2.1).cap;simp[rowO,uR,Builtin.append_,run_underlying h1,sizeOf,typeInfo,h2,Builtin.lenOf,hc,hf0,storeCells]
  refine fin oe w (by rw[hx'];exact same) (by rw[hset];exact Rl.heap) ⟨rfl,by simp,hoe,by simp,λr hr=>by subst hr;exact((V.at_ r (qe5 r R)).2.1).cap⟩
 obtain⟨ad,c,hv,hnl,hnc⟩:∃ad c,a.eval y=.slice (some ad) m c/\news.length=m*ei.size/\∀j u,news[j]?=some u->w.cell? (ad.add j)=some u:=by
  rcases hsrc X ρ a w Rl with ⟨_,h,_⟩|h
  .omega
  .exact h
 have fresh:∀(olds:List Value)(q old:Nat),oe=none/\q=0/\olds=[]\/(∃r,oe=some r/\q=r.n/\olds=r.xs)->old<q+m->
   (Builtin.append_ #[t,t] o.type #[uR (rowO oe),a.eval y]).run P w=.ok (.slice (some ⟨w.heap.size,0,none⟩) (q+m) (grownCap w (q+m) old e)) (w.drew.alloc (.cells (olds.toArray++news.toArray++Builtin.zeroCells z.cells (grownCap w (q+m) old e-(q+m))) e))->olds.length=q*ei.size->q=q5h oe->o.wp P a w next Q:=λolds q old hq hold hr hol hqn=>by
  have hge:=grownCap_ge w (q+m) old e
  have hcap:=hcm (q+m) old Q4P
  have hrow:=qzc (w:=w) (e:=e) hol hnl hzs hge hcap
  generalize hcc:grownCap w (q+m) old e=cap at hr hge hcap hrow
  have hB:Below w.heap.size w (w.drew.alloc (.cells (olds.toArray++news.toArray++Builtin.zeroCells z.cells (cap-(q+m))) e)):=((Below.refl _ _).drew).alloc (nlr _) _
  have hxs:q53 oe=olds:=by rcases hq with ⟨rfl,_,rfl⟩|⟨r,rfl,_,rfl⟩<;>rfl
  refine fin (some ⟨true,e,ei.size,w.heap.size,0,cap,q+m,olds++news⟩) _ (by rw[hx',hr];rfl) (turn _ _ ?_ hB.os hB.tape hB.output hB.size (λb hb _=>hB.block b hb) λr' hr'=>by obtain rfl:=Option.some.inj hr';exact .inr (nlr _)) ⟨by rw[<-hqn];rfl,by rw[hxs];rfl,λr hr=>by obtain rfl:=Option.some.inj hr;exact⟨rfl,rfl,rfl⟩,⟨(λh=>by cases h),λh=>absurd h.2 hm0⟩,λr hr=>by obtain rfl:=Option.some.inj hr;exact hge⟩
  have hR:∀r∈R,S i r.b/\RwAt w r/\∀W,ZW.z=some W->W.heap.size<=r.b:=λr hr=>V.at_ r (qot oe R r hr)
  have hnd:(R.map Rw.b).Nodup:=by
   cases oe with
   | none=>exact V.nodup
   | some r=>have:=V.nodup;rw[show rowL (some r) R=r::R from rfl,xk,xz] at this;exact this.2
  refine⟨?_,λr hr=>?_,λW hW=>?_⟩
  rotate_left 2
  .exact Q1D
  .rw[show ∀r,rowL (some r) R=r::R from λ_=>rfl,xk,xz];refine⟨λhm=>?_,hnd⟩;obtain⟨r,hr,e'⟩:=xx.1 hm;have:=(hR r hr).2.1.lt;simp_all
  .rcases xf.1 hr with rfl|hr
   .exact⟨.inr ⟨_,rfl,rfl⟩,.of hrow,λW hW=>(V.base W hW).2.1⟩
   .exact⟨.inl (hR r hr).1,(hR r hr).2.1.keep (hB.block _ (hR r hr).2.1.lt),(hR r hr).2.2⟩
 cases oe with
 | none=>
  have hr:=run_append_nil (P:=P) w t o.type e ei z h1 h2 hz ad m c news hnl hnc Q4P (by simp only[q5h] at h63;omega) (by simp only[q5h,xl] at hb;omega);refine fresh [] 0 0 (.inl ⟨rfl,rfl,rfl⟩) Q4P ?_ Q50 rfl
  grind[rowO,uR]
 | some r=>
  obtain⟨q1,q2,q3⟩:=hoe r rfl;have A:=(V.at_ r (qe5 r R)).2.1;obtain⟨q4,hat⟩:=A.own q3;have hu:uR (rowO (some r))=.slice (some ⟨r.b,0,none⟩) r.n r.c:=by show Value.slice (some ⟨r.b,r.o,none⟩) r.n r.c=_;rw[q4]
  have hS:=(V.at_ r (qe5 r R)).1;have hxl:r.xs.length=r.n*ei.size:=by rw[A.len,q2]
  have hcel:∀j,j<r.xs.length->w.cell? ⟨r.b,j,none⟩=r.xs[j]?:=λj hj=>by have:=A.cell j hj;rw[q4,xl] at this;exact this
  obtain⟨cur,z0,hh,hz0,hcs⟩:=hat;rw[q2] at hcs;have hat:=qos hh hz0;by_cases hroom:r.n+m<=r.c
  .have hin:∀j,j<news.length->r.n*ei.size+j<cur.size:=λj hj=>by
    have h3:(r.n+m)*ei.size<=r.c*ei.size:=yy _ hroom
    grind
   have hst:=run_storeCells_cells (P:=P) r.b (r.n*ei.size) news 0 w (λj hj=>(hat _ (by have:=hin j hj;omega)).1) (λj hj=>(hat _ (by have:=hin j hj;omega)).2) hone;rw[yo] at hst;obtain⟨z1,z2,z3,z4,z5⟩:=qfp r.b news (r.n*ei.size) w;have zf:=λx=>World.frozen?_setCells r.b news (r.n*ei.size) w x
   have zi:=World.cell?_setCells_in r.b news (r.n*ei.size) w (λj hj=>(hat _ (hin j hj)).1);have zo:∀j,j<r.n*ei.size\/r.n*ei.size+news.length<=j->(w.setCells r.b (r.n*ei.size) news).cell? ⟨r.b,j,none⟩=w.cell? ⟨r.b,j,none⟩:=λj hj=>World.cell?_setCells_out r.b news (r.n*ei.size) w ⟨r.b,j,none⟩ λ_ _=>hj
   have hr:(Builtin.append_ #[t,t] o.type #[.slice (some ⟨r.b,0,none⟩) r.n r.c,.slice (some ad) m c]).run P w=.ok (.slice (some ⟨r.b,0,none⟩) (r.n+m) r.c) (w.setCells r.b (r.n*ei.size) news):=by
    have hf:=run_firstCells_some (P:=P) w ei.size m ad m c news hnl hnc;simp[Builtin.append_,run_underlying h1,sizeOf,typeInfo,h2,Builtin.lenOf,hroom,hf,Addr.add_lit,hst]
   generalize hw':w.setCells r.b (r.n*ei.size) news=w' at *;have hrow:RwAt w' ⟨true,e,ei.size,r.b,0,r.c,r.n+m,r.xs++news⟩:=by
    refine⟨by rw[z4];exact A.lt,by show(r.xs++news).length=(r.n+m)*ei.size;rw[xP,hxl,hnl,x6],hroom,λj hj=>?_,λ_=>⟨rfl,?_⟩⟩
    .have hj:j<(r.xs++news).length:=hj;show w'.cell? ⟨r.b,0+j,none⟩=(r.xs++news)[j]?;rw[xl];by_cases hlt:j<r.xs.length
     .grind
     .rw[xP] at hj;have hk:j-r.n*ei.size<news.length:=by omega
      have:=zi (j-r.n*ei.size) hk;rw[show r.n*ei.size+(j-r.n*ei.size)=j by omega] at this;rw[this,yF Q4P,hxl,xn hk]
    .obtain⟨cur',g1,g2⟩:=qgq r.b news (r.n*ei.size) w cur r.e z0 hh
     grind
   refine fin (some ⟨true,e,ei.size,r.b,0,r.c,r.n+m,r.xs++news⟩) w' (by rw[hx',hv,hu];exact hr) (turn _ _ ?_ z1 z2 z3 (Nat.le_of_eq z4.symm) (λb hb hnS=>z5 b λe'=>hnS (e'▸hS)) λr' hr'=>by obtain rfl:=Option.some.inj hr';exact .inl hS) ⟨rfl,rfl,λr' hr'=>by obtain rfl:=Option.some.inj hr';exact⟨rfl,rfl,rfl⟩,⟨(λh=>by cases h),λh=>absurd h.2 hm0⟩,λr' hr'=>by obtain rfl:=Option.some.inj hr';exact hroom⟩;have hnd:r.b∉R.map Rw.b/\(R.map Rw.b).Nodup:=by have:=V.nodup;rw[show rowL (some r) R=r::R from rfl,xk,xz] at this;exact this
   have hrb:=(V.at_ r (qe5 r R)).2.2;refine⟨?_,λr' hr'=>?_,λW hW=>?_⟩;rotate_left 2
   .obtain⟨b1,b2,b3⟩:=V.base W hW;have:=hrb W hW;exact⟨b1,by omega,λb hb=>⟨.inl (b3 b hb).1,(z5 b λe'=>by omega).trans (b3 b hb).2⟩⟩
   .rw[show ∀r,rowL (some r) R=r::R from λ_=>rfl,xk,xz];exact hnd
   .rcases xf.1 hr' with rfl|hr'
    .grind
    .obtain⟨g1,g2,g3⟩:=V.at_ r' (qot _ _ _ hr');exact⟨.inl g1,g2.keep (z5 _ λe'=>hnd.1 (xx.2 ⟨r',hr',e'⟩)),g3⟩
  .have holds:∀j u,r.xs[j]?=some u->w.cell? ((⟨r.b,0,none⟩:Addr).add j)=some u:=λj u hju=>by
    grind[qb7]
   have hr:=run_append_grow (P:=P) w t o.type e ei z h1 h2 hz ⟨r.b,0,none⟩ r.n r.c r.xs hxl holds ad m c news hnl hnc Q4P (by simp only[q5h] at h63;omega) (growslice_fits Q4P hb);refine fresh r.xs r.n r.c (.inr ⟨r,rfl,rfl,rfl⟩) Q4P ?_ hxl rfl
   grind
def q96(y:Operand)(st:St)(hs:List Nat)(m k:Nat)(news:List Value):Prop:=
 ∀st₂:St,(∀u,EvTo y st u->EvTo y st₂ u)->(∀i∈hs,st₂.h[i]?=st.h[i]?)->∀X ρ a w,Rel X ρ st₂ a w->SrcR w (a.eval y) m k news
theorem qsf[ZW]{x y:Operand}{t e:TypeId}{ei:TypeInfo}{z p:Value}{own:Bool}(oe:Option Rw)(R:List Rw)(i m:Nat)(news:List Value)
  (ho:o.op=.call ⟨.builtin .append,#[x,y],#[t,t]⟩) (hx:EvTo x st p) (hp:∀ρ,den ρ p=uR (rowO oe))
  (h1:P.underlying t=some (.slice e)) (h2:P.info? e=some ei) (hz:ei.zero=some z) (hzs:z.cells.size=ei.size) (hs0:0<ei.size)
  (hi:st.h[i]?=some (some (@Chunk.mk (rvX (rowL oe R)) own n ps))) (hoe:∀r,oe=some r->r.e=e/\r.k=ei.size/\r.w=true) (hs:List Nat) (hsrc:q96 y st hs m ei.size news) (hone:∀u∈news,u.oneCell'=true)
  (h63:q5h oe+m<=35184372088831) (hb:(q5h oe+m)*ei.bytes<=140737488355328)
  (hK:∀oe',Grew oe oe' e ei.size m news->K (uV (rowO oe')) [(i,@Chunk.mk (rvX (rowL oe' R)) own n ps)]):N (EffAll P o st K):=
 N.mk (qvg oe R m news ho hx hp h1 h2 hz hzs hs0 hi hoe (hsrc st (λ_ h=>h) λ_ _=>rfl) hone h63 hb hK)
theorem ql2{y:Operand}{j g u m q k:Nat}{cj:Chunk}{cs:List Value}(hs:List Nat)(hjs:j∈hs)(hy:EvTo y st (.slice (some ⟨j,g,some u⟩) m q))(hj:st.h[j]?=some (some cj))(hr:Reads cj g true (m*k) (.agg ⟨cs⟩))(hp:cs.all qa2=true):
  q96 y st hs m k cs:=λst₂ ha hh X ρ a w Rl=>by
 have hj:=(hh j hjs).trans hj
 have hy:=ha _ hy
 have hy':a.eval y=.slice (some ⟨(ρ j).1,(ρ j).2+g,none⟩) m q:=(hy.den Rl).self.symm
 obtain⟨cs',e,hcl,hcc,hcd⟩:=qe4 Rl.heap hj hr
 obtain rfl:cs=cs':=by simpa using e
 refine .inr ⟨_,q,hy',hcl,λl v hv=>hcc l v ?_⟩
 have hl:=(xe.1 hv).1
 rw[xN,hv]
 have:qa2 v=true:=xJ.1 hp v (xy hv)
 show some (den1 ρ v)=some v
 rw[qa6 this]
theorem qou[ZW]{t:TypeId}{x:Operand}{f i:Nat}{own:Bool}{R:List Rw}(r:Rw){v:Value}(p:Nat)(hG:q32 P G)(ho:o.op=.load t x)(hx:EvTo x st (.pointer (some ⟨r.b,f,none⟩)))(hf:f=r.o+p)(hi:st.h[i]?=some (some (@Chunk.mk (rvX R) own n ps)))(hr:r∈R)
  (ht:q3y G t λ_ d=>qco d=false) (hp:qa2 v=true) (hk:r.xs[p]?=some v):OKs P o st v [] [i]:=λst₂ hs hh _=>
 qat λX ρ a w R'=>by
  have hi2:=(hh i Q50).trans hi;have hx':=qnh (hs x Q4X _ hx) rfl R';obtain⟨ti,d,_,h2,hd⟩:=qak hG ht;obtain⟨S,E⟩:=R'.heap.ext;have V:RvOK R (ρ i) (S i) w:=E.inv i _ hi2;have hy:=((V.at_ r hr).2.1.cell p (xe.1 hk).1).trans hk;rw[<-hf] at hy;refine⟨v,?_,λr _=>?_⟩
  .exact Q1I
  .cases v<;>first|exact qaz (by exact hp) r|(simp[qa2] at hp)
end
open Go Go.RowKit
theorem ql3:∀{l:List Rw},(l.map Rw.b).Nodup->∀{q r:Rw},q∈l->r∈l->q.b=r.b->q=r
 | [],_,q,r,hq,_,_=>by cases hq
 | x::l,h,q,r,hq,hr,e=>by
  rw[xk,xz] at h;rcases xf.1 hq with hq2|hq2<;>rcases xf.1 hr with hr2|hr2
  .rw[hq2,hr2]
  .grind
  .simp_all
  .exact ql3 h.2 hq2 hr2 e
variable{X:Ctx}{ρ:Rz}{ps:Pz}
theorem q1n[ZW]{h:Hp}{w':World}{i:Nat}{R:List Rw}{r:Rw}{own:Bool}(H:HOK X ρ h w)(hi:h[i]?=some (some (@Chunk.mk (rvX R) own n ps)))(hB:Below w.heap.size w w')(he:RwAt w' r)(hge:w.heap.size<=r.b):HOK X ρ (h.set i (some (@Chunk.mk (rvX (r::R)) own n ps))) w':=by
 obtain⟨S,E⟩:=H.ext;have V:RvOK R (ρ i) (S i) w:=E.inv i _ hi;have hpi:=H.lt i _ hi;refine H.turnX E hi (d:=@Chunk.mk (rvX (r::R)) own n ps) (S':=λb=>S i b\/b=r.b) id (nlr _) (λj hj=>rfl) hB.os hB.tape hB.output hB.size (λb hb _=>hB.block b hb) (λb hb=>?_) ?_
 .rcases hb with hb|rfl
  .obtain⟨m1,m2,m3⟩:=E.mine i _ b hi hb;exact⟨xh m2 hB.size,m1,.inl hb⟩
  .exact⟨he.lt,.inr Q4P,.inr hge⟩
 .refine⟨?_,λq hq=>?_,λW hW=>?_⟩
  .rw[xk,xz];refine⟨λhm=>?_,V.nodup⟩;obtain⟨q,hq,e'⟩:=xx.1 hm;have:=(V.at_ q hq).2.1.lt;omega
  .rcases xf.1 hq with rfl|hq
   .exact⟨.inr rfl,he,λW hW=>xH (V.base W hW).2.1 hge⟩
   .exact⟨.inl (V.at_ q hq).1,(V.at_ q hq).2.1.keep (hB.block _ (V.at_ q hq).2.1.lt),(V.at_ q hq).2.2⟩
  .exact Q1D
section
variable{P:Program}{G:Tys}{o:Oper}{st:St}
variable{R:List Rw}{ps:Pz}
theorem qqb[ZW]{t e:TypeId}{m i:Nat}{pp:Array (Nat×Operand)}{vs:Vz}{ei:TypeInfo}{z:Value}{out:List Value}{own:Bool}{n:Nat}{K:Value->Mz->Prop}
  (ho:o.op=.buildSlice t m pp) (hx:qdp st pp.toList vs) (h2:P.underlying t=some (.slice e)) (h3:P.info? e=some ei) (hz:ei.zero=some z) (hp:qai z=true) (hfz:flatB z ei.size=true) (hs0:0<ei.size) (hn:m*ei.size<=16777216)
  (hout:q4l (λi=>some (i*ei.size,ei.size)) (segL (m*ei.size) (repZ ei.size z)) vs=some out) (hlen:out.length=m*ei.size) (hpl:out.all qa2=true) (hm0:0<m*ei.size)
  (hi:st.h[i]?=some (some (@Chunk.mk (rvX R) own n ps)))
  (hK:∀b,K (uV (some ⟨b,0,m,m,none⟩)) [(i,@Chunk.mk (rvX (⟨true,e,ei.size,b,0,m,m,out⟩::R)) own n ps)]):EffAll P o st K:=λX ρ a w Rl next Q hk=>by
 obtain⟨e1,e2⟩:=qef Rl _ _ hx (λp hp=>λu hu=>hu)
 have hzv:(zeroValue e).run P w=.ok z w:=by simp[zeroValue,typeInfo,Sem.run_bind,run_program,Result.andThen_ok,h3,hz]
 have hcells:((Array.range (m*ei.size)).map (z.cells[· % z.cells.size]!))=⟨(segL (m*ei.size) (repZ ei.size z)).map (den1 ρ)⟩:=by
  grind[qha,qbw]
 have hr:=qcs (ρ:=ρ) vs _ _ hout
 rw[<-e1] at hr
 have hmap:out.map (den1 ρ)=out:=(xT λv hv=>qa6 (xJ.1 hpl v hv) ρ).trans (List.map_id _)
 have hf:Instr.fill (λi=>some (i*ei.size,ei.size)) ⟨(segL (m*ei.size) (repZ ei.size z)).map (den1 ρ)⟩ ((pp.map fun(p:Nat×Operand)=>(p.1,a.eval p.2)).toList)=some ⟨out⟩:=by
  simp_all
 have hrun:(execOp a.eval o).run P w=.ok (.value (.slice (some ⟨w.heap.size,0,none⟩) m m)) (w.alloc (.cells ⟨out⟩ e)):=by
  have g1:¬ m*ei.size > 2^24:=by omega
  have g2:¬ m*ei.size=0:=by omega
  exact Q1A
 have hB:Below w.heap.size w (w.alloc (.cells ⟨out⟩ e)):=(Below.refl _ _).alloc (nlr _) _
 have hrow:RwAt (w.alloc (.cells ⟨out⟩ e)) ⟨true,e,ei.size,w.heap.size,0,m,m,out⟩:=.row (heap_alloc_new w _) (.inl rfl) (by show out.length=m*ei.size;exact hlen) (by show out.take (m*ei.size)=out;rw[<-hlen];exact List.take_length) hlen (nlr _)
 have H':=q1n Rl.heap hi hB hrow (nlr _)
 unfold Oper.wp
 rw[hrun]
 exact hk _ _ ρ _ _ (hK w.heap.size) ⟨AgreeOn.refl _ _,H',λr _=>qfo _ r⟩
theorem qzd[ZW]{s e:TypeId}{x:Operand}{i:Nat}{own:Bool}{n:Nat}(r:Rw)(ho:o.op=.convert s s x)(hx:EvTo x st (uV (some r.sl)))(h1:P.underlying s=some (.slice e))(h2:P.underlying e=some (.int .u8))(hw:r.w=true)(hr:r∈R)(hi:st.h[i]?=some (some (@Chunk.mk (rvX R) own n ps))):OKs P o st (uV (some r.sl)) [(i,@Chunk.mk (rvX R) own n ps)] []:=λst₂ hs _ hh=>
 qbm λX ρ a w Rl=>by
  have hi:=(hh _ Q3Z).trans hi;have hx':a.eval x=uR (some r.sl):=by rw[<-((hs x Q4X _ hx).den Rl).self,qfo]
  obtain⟨S,E⟩:=Rl.heap.ext;have V:RvOK R (ρ i) (S i) w:=E.inv i _ hi;obtain⟨hSb,A,hZ⟩:=V.at_ r hr;obtain⟨q4,cur,z,hhb,hz,hcs⟩:=A.own hw;have hsh:w.shape? r.b=some (r.e,cur.size):=by unfold World.shape?;rw[hhb]
  let z':Nat×Nat:=if z.1==z.2 then (cur.size,cur.size+1) else (min z.1 cur.size,max z.2 (cur.size+1));have hb':(w.freeze ⟨r.b,cur.size,none⟩ 1).heap[r.b]?=some (.cells cur r.e z'):=by
   unfold World.freeze;rw[if_neg Q4T];simp only[y7,if_pos,hhb,yj];rfl
  have hoth:∀k,k≠r.b->(w.freeze ⟨r.b,cur.size,none⟩ 1).heap[k]?=w.heap[k]?:=λk hk=>by
   unfold World.freeze;rw[if_neg Q4T];simp only[y7,if_neg (Ne.symm hk)]
  have hsz:(w.freeze ⟨r.b,cur.size,none⟩ 1).heap.size=w.heap.size:=by
   unfold World.freeze;rw[if_neg Q4T];simp
  have hz':z'.1=z'.2\/cur.size<=z'.1:=by
   show(if z.1==z.2 then (cur.size,cur.size+1) else (min z.1 cur.size,max z.2 (cur.size+1))).1=(if z.1==z.2 then (cur.size,cur.size+1) else (min z.1 cur.size,max z.2 (cur.size+1))).2\/cur.size<=(if z.1==z.2 then (cur.size,cur.size+1) else (min z.1 cur.size,max z.2 (cur.size+1))).1;by_cases e:z.1=z.2
   .rw[if_pos (beq_iff_eq.2 e)];exact .inr (nlr _)
   .rw[if_neg (by rw[beq_iff_eq];exact e)];rcases hz with hz|hz
    .exact absurd hz e
    .exact .inr (by show cur.size<=min z.1 cur.size;omega)
  have hrow:RwAt (w.freeze ⟨r.b,cur.size,none⟩ 1) r:=by
   refine⟨by rw[hsz];exact A.lt,A.len,A.cap,λj hj=>?_,λ_=>⟨q4,cur,z',hb',hz',hcs⟩⟩;rw[<-A.cell j hj];simp only[World.cell?,hb',hhb]
  refine⟨ρ,uR (some r.sl),w.freeze ⟨r.b,cur.size,none⟩ 1,?_,AgreeOn.refl _ _,?_,λr' _=>qfo _ r'⟩
  .have hrun:(markStringish ⟨r.b,r.o,none⟩).run P w=.ok () (w.freeze ⟨r.b,cur.size,none⟩ 1):=by
    simp only[markStringish,Sem.run_bind,run_shape,Result.andThen_ok,hsh,run_freeze]
   simp only[execOp,ho,hx',convert,underlying,Sem.run_bind,run_program,Result.andThen_ok,h1,h2,Sem.run_pure,uR,beq_self_eq_true,hrun]
  .refine Rl.heap.turnX E hi (d:=@Chunk.mk (rvX R) own n ps) (S':=S i) id (nlr _) (λj hj=>rfl) ?_ ?_ ?_ (Nat.le_of_eq hsz.symm) (λb _ hnS=>hoth b λe'=>hnS (e'▸hSb)) (λb hb=>?_) ?_
   .exact Q2C
   .exact Q2C
   .exact Q2C
   .obtain⟨m1,m2,m3⟩:=E.mine i _ b hi hb;exact⟨by rw[hsz];exact m2,m1,.inl hb⟩
   .refine⟨V.nodup,λq hq=>⟨(V.at_ q hq).1,?_,(V.at_ q hq).2.2⟩,λW hW=>?_⟩
    .by_cases e:q.b=r.b
     .rw[ql3 V.nodup hq hr e];exact hrow
     .exact(V.at_ q hq).2.1.keep (hoth _ e)
    .obtain⟨b1,b2,b3⟩:=V.base W hW;have:=hZ W hW;exact⟨b1,by omega,λb hb=>⟨(b3 b hb).1,(hoth b λe'=>by omega).trans (b3 b hb).2⟩⟩
end
theorem HOK.soft{h:Hp}{i:Nat}{o:Bool}{x y:Ext}(H:HOK X ρ h w)(hi:h[i]?=some (some (@Chunk.mk x o n ps)))(hxy:∀p S w,x.inv p S w->y.inv p S w):HOK X ρ (h.set i (some (@Chunk.mk y o n ps))) w:=by
 have hil:=(xe.1 hi).1;obtain⟨S,E⟩:=H.ext;have back:∀(j:Nat)(d:Chunk),(h.set i (some (@Chunk.mk y o n ps)))[j]?=some (some d)->∃d0:Chunk,h[j]?=some (some d0)/\d.own=d0.own/\d.n=d0.n/\(∀l,d.f l=d0.f l)/\(∀p S w,d0.x.inv p S w->d.x.inv p S w):=λj d hj=>by
  by_cases e:i=j
  .subst e;rw[xr hil] at hj;obtain rfl:=Option.some.inj (Option.some.inj hj);exact⟨_,hi,rfl,rfl,λ_=>rfl,hxy⟩
  simp_all
 have fil:∀j,Fil h j->Fil (h.set i (some (@Chunk.mk y o n ps))) j:=λj hj=>hj.set
 refine⟨H.evo,λj hj=>⟨fil j (H.base j hj).1,(H.base j hj).2⟩,λj d hj=>?_,λj d hj l hl=>?_,λj d hj ho l hl=>?_,λj d l e hj ho hl hne=>?_,S,λj d hj=>?_,λj d b hj hb=>?_,λj d b l e hj hb hl hne=>?_⟩
 .obtain⟨d0,h0,_⟩:=back j d hj;exact H.lt _ _ h0
 .obtain⟨d0,h0,_,hn,hf,_⟩:=back j d hj;obtain⟨v,hv,hd⟩:=H.cell j d0 h0 l Q4P;exact⟨v,hv,by rw[hf];exact hd.more (AgreeOn.refl _ _) fil⟩
 .obtain⟨d0,h0,h1,hn,_⟩:=back j d hj;exact H.own j d0 h0 (h1▸ho) l Q4P
 .obtain⟨d0,h0,h1,_⟩:=back j d hj;obtain⟨e0,g0,_⟩:=back l e hl;exact H.sep _ _ _ _ h0 (h1▸ho) g0 hne
 .obtain⟨d0,h0,_,_,_,hx⟩:=back j d hj;exact hx _ _ _ (E.inv j d0 h0)
 .obtain⟨d0,h0,_,hn,_⟩:=back j d hj;rw[hn];exact E.mine j d0 b h0 hb
 .obtain⟨d0,h0,_⟩:=back j d hj;obtain⟨e0,g0,_⟩:=back l e hl;exact E.apart j d0 b l e0 h0 hb g0 hne
theorem qze[ZW]{R R2:List Rw}(hs:List.Sublist R R2):∀p S w,(rvX R2).inv p S w->(rvX R).inv p S w:=λp S w V=>by
 have V:RvOK R2 p S w:=V;exact⟨(hs.map _).nodup V.nodup,λr hr=>V.at_ r (hs.subset hr),V.base⟩
theorem CallAll.soft{P:Program}{g:FuncId}{vs:List Value}{h:Hp}{R R':Value->Mz->Prop}(k:CallAll P g vs h R)(hR:∀v ms,R v ms->∃(i:Nat)(x y:Ext)(o:Bool)(n:Nat)(ps:Pz)(ms':Mz),(modH h ms)[i]?=some (some (@Chunk.mk x o n ps))/\(∀p S w,x.inv p S w->y.inv p S w)/\(modH h ms).set i (some (@Chunk.mk y o n ps))=modH h ms'/\R' v ms'):CallAll P g vs h R':=by
 intro X ρ w xs H hx;have go:∀x w',(∃v ms ρ',R v ms/\AgreeOn (Fil h) ρ ρ'/\HOK X ρ' (modH h ms) w'/\Den (Fil (modH h ms)) ρ' v x)->∃v ms ρ',R' v ms/\AgreeOn (Fil h) ρ ρ'/\HOK X ρ' (modH h ms) w'/\Den (Fil (modH h ms)) ρ' v x:=λx w' ⟨v,ms,ρ',hq,ha,hH,hd⟩=>by
  obtain⟨i,ex,ey,o,n,ps,ms',h1,h2,h3,h4⟩:=hR v ms hq;have hH':=hH.soft h1 h2;rw[h3] at hH';exact⟨v,ms',ρ',h4,ha,hH',hd.more (AgreeOn.refl _ _) λj hj=>by rw[<-h3];exact hj.set⟩
 rcases k X ρ w xs H hx with ⟨v,w',hr,hq⟩|⟨hr,hcl⟩
 .exact .inl ⟨v,w',hr,go _ _ hq⟩
 .exact .inr ⟨hr,hcl.mono λe w' ⟨y,he,hq⟩=>⟨y,he,go _ _ hq⟩⟩
section
variable{P:Program}{G:Tys}
variable{vs:List Value}
theorem qbp{g:FuncId}{h:Hp}{slot:Nat}{C:List Nat->Prop}{K:List Nat->Value->Mz->Prop}(hs:List Nat)(R:Value->Mz->Prop)(hC:C hs)(hc:∀h₂:Hp,(∀q∈hs,h₂[q]?=h[q]?)->CallAll P g vs h₂ R)(k:∀v ms,R v ms->(∀q∈ms.map (·.1),q∈hs)/\K hs v ms):N (q6m P g vs h slot C K):=N.mk ⟨hs,R,hC,hc,k⟩
theorem qsg[ZW]{f:FuncId}{fn:Func}{c:Code}(W:World)(hz:ZW.z=some W){α:Type}(V:α->Value)(D:α->List Rw)(ok:α->Prop)(hG:q32 P G)(hm:P.follows .mixedOrders=true)(hf:P.funcs[f]?=some fn)(hb:fn.body=some c)(hW:0<W.heap.size)(hp:vs.all qai=true)(hV:∀κ r r',den r (V κ)=den r' (V κ))
  (hwp:initK vs fn.ntmps λt=>wpC P G 1 c (bodyQ P G fn λv st=>N (∃κ,ok κ/\v=V κ/\st.h[0]?=some (some (rvC (D κ))))) ⟨t,[some (rvC [])]⟩):Calls P f ⟨vs⟩ W λe w'=>∃κ,ok κ/\e=.returned (den (λ_=>(0,0)) (V κ))/\Below W.heap.size W w'/\∀r∈D κ,RwAt w' r/\W.heap.size<=r.b:=by
 let X:Ctx:=⟨W,λa=>a.block<W.heap.size,1,λ_=>(0,0)⟩
 have one:∀(k:Nat)(d:Chunk),[some (rvC [])][k]?=some (some d)->k=0/\d=rvC []:=λk d hk=>Q1H
 have H:HOK X (λ_=>(0,0)) [some (rvC [])] W:=by
  refine⟨Evo.refl _ _,λi hi=>⟨⟨_,by
    have hi:i<1:=hi;obtain rfl:i=0:=by omega
    rfl⟩,rfl⟩,λk d hk=>hW,λk d hk j hj=>?_,λk d hk ho j hj=>?_,λk d l e hk ho hl hne=>?_,λi b=>i=0/\b<W.heap.size,λk d hk=>?_,λk d b hk hS=>?_,λk d b l e hk hS hl hne=>?_⟩
  .exact Q18
  .exact Q18
  .exact Q23
  .obtain⟨rfl,rfl⟩:=one k d hk;refine⟨xE,(λr hr=>by cases hr),λW' hW'=>?_⟩;rw[hz] at hW';obtain rfl:=Option.some.inj hW';exact⟨hW,nlr _,λb hb=>⟨⟨rfl,hb⟩,rfl⟩⟩
  .exact Q1E
  exact Q22
 have hd:∀{vs:List Value},vs.all qai=true->All2 (Den (Fil [some (rvC [])]) λ_=>(0,0)) vs vs:=by
  intro vs
  induction vs with
  | nil=>exact λ_=>trivial
  | cons v r ih=>
   exact Q1s
 refine(qd5 (args:=⟨vs⟩) (X:=X) hG hm hf hb H (hd hp) hwp).mono ?_
 rintro e w' ⟨ρ',v,st,x,rfl,H',hdx,hq⟩
 obtain⟨κ,hκ,rfl,hF⟩:=hq.out
 obtain⟨S,E⟩:=H'.ext
 have M:RvOK (D κ) (ρ' 0) (S 0) w':=E.inv 0 _ hF
 refine⟨κ,hκ,?_,⟨H'.evo.os,H'.evo.tape,H'.evo.output,H'.evo.size,λb hb=>((M.base W hz).2.2 b hb).2⟩,λr hr=>⟨(M.at_ r hr).2.1,(M.at_ r hr).2.2 W hz⟩⟩
 rw[<-hdx.self,hV κ ρ' λ_=>(0,0)]
end
inductive AtRe(q:Nat×Nat)(k:Nat):Value->Value->Prop
 | same (v:Value):AtRe q k v v
 | ptr {s:Nat}:AtRe q k (q3z q) (.pointer (some ⟨k,0,some s⟩))
theorem qsh{F:Nat->Prop}{ρ:Rz}{q:Nat×Nat}{k:Nat}(hF:F k)(hρ:ρ k=q):∀{vs vs' xs:List Value},All2 (AtRe q k) vs vs'->All2 (Den F ρ) vs xs->All2 (Den F ρ) vs' xs
 | [],[],xs,_,h=>h
 | [],_::_,_,h,_=>h.elim
 | _::_,[],_,h,_=>h.elim
 | _::_,_::_,[],_,h=>h.elim
 | v::vs,v'::vs',x::xs,h,h'=>by
  refine⟨?_,qsh hF hρ h.2 h'.2⟩;have h1:=h.1;cases h1 with
  | same=>exact h'.1
  | ptr=>
   intro r hr;have e1:x=q3z q:=h'.1.self.symm.trans qek;have e2:r k=q:=(hr k hF).trans hρ
   grind[den,den2,den1,den0,q4a,q3z]
theorem HOK.setX{h:Hp}{o:Bool}(H:HOK X ρ h w)(hk:h[k]?=some (some (@Chunk.mk Ext.none o n ps)))(y:Ext)(hy:∀S,(∀b,¬ S b)->y.inv (ρ k) S w):HOK X ρ (h.set k (some (@Chunk.mk y o n ps))) w:=by
 obtain⟨S,E⟩:=H.ext;have hkl:=(xe.1 hk).1;have get:∀j d,(h.set k (some (@Chunk.mk y o n ps)))[j]?=some (some d)->∃c:Chunk,h[j]?=some (some c)/\d.own=c.own/\d.n=c.n/\d.ps=c.ps/\(d.x=c.x\/(j=k/\d.x=y/\c.x=Ext.none)):=λj d hj=>by
  grind
 have fil:∀j,Fil h j->Fil (h.set k (some (@Chunk.mk y o n ps))) j:=λj hj=>hj.set
 refine⟨H.evo,λi hi=>⟨fil i (H.base i hi).1,(H.base i hi).2⟩,λj d hj=>?_,λj d hj l hl=>?_,λj d hj ho l hl=>?_,λj d l f hj ho hl hne=>?_,S,λj d hj=>?_,λj d b hj hb=>?_,λj d b l f hj hb hl hne=>?_⟩
 .obtain⟨c,hc,_⟩:=get j d hj;exact H.lt j c hc
 .obtain⟨c,hc,_,e2,e3,_⟩:=get j d hj;obtain⟨x,hx,hd⟩:=H.cell j c hc l Q4P;refine⟨x,hx,?_⟩;have:d.f l=c.f l:=by unfold Chunk.f;rw[e3]
  rw[this];exact hd.more (AgreeOn.refl _ _) fil
 .obtain⟨c,hc,e1,e2,_⟩:=get j d hj;exact H.own j c hc (by rw[<-e1];exact ho) l Q4P
 .obtain⟨c,hc,e1,_⟩:=get j d hj;obtain⟨c2,hc2,_⟩:=get l f hl;exact H.sep j c l c2 hc (by rw[<-e1];exact ho) hc2 hne
 .obtain⟨c,hc,_,_,_,e⟩:=get j d hj;rcases e with e|⟨rfl,e,e'⟩
  .rw[e];exact E.inv j c hc
  .have:=E.inv j c hc;rw[e'] at this;rw[e];exact hy _ this
 .obtain⟨c,hc,_,e2,_⟩:=get j d hj;rw[e2];exact E.mine j c b hc hb
 .obtain⟨c,hc,_⟩:=get j d hj;obtain⟨c2,hc2,_⟩:=get l f hl;exact E.apart j c b l c2 hc hb hc2 hne
theorem HOK.mark{h:Hp}{o:Bool}(H:HOK X ρ h w)(hk:h[k]?=some (some (@Chunk.mk Ext.none o n ps))):HOK X ρ (h.set k (some (@Chunk.mk (atX (ρ k)) o n ps))) w:=
 H.setX hk _ λS hS=>⟨rfl,hS⟩
theorem HOK.famNil{α:Type}{h:Hp}{m:Nat}{o:Bool}{enc:α->Nat->Value}(H:HOK X ρ h w)(hk:h[k]?=some (some (@Chunk.mk Ext.none o n ps))):HOK X ρ (h.set k (some (@Chunk.mk (q95 m enc []) o n ps))) w:=
 H.setX hk _ λS hS=>⟨λb=>⟨λhb=>absurd hb (hS b),fun⟨q,hq,_⟩=>by cases hq⟩,xE,λq hq=>by cases hq⟩
abbrev atZ:Ext where
 inv:=λp S _=>p.2=0/\∀b,¬ S b
 keep:=λh _=>h
variable{α:Type}
theorem qvh{ss:List q3w}{h:Hp}{v:Value}{K:Value->Hp->Prop}{o:Bool}(m:Nat)(enc:α->Nat->Value)(hk:h[k]?=some (some (@Chunk.mk Ext.none o n ps)))(kk:N (q51 ss (h.set k (some (@Chunk.mk (q95 m enc []) o n ps))) v K)):N (q51 ss h v K):=
 N.mk λX ρ w x T H hd=>N.out kk X ρ w x T (H.famNil hk) (hd.more (AgreeOn.refl _ _) λj hj=>hj.set)
open Go Go.RowKit
abbrev wandX{α:Type}(Y Z:α->Ext)(q:Nat×Nat):Ext where
 inv:=λp S w=>∀(a:α)(T:Nat->Prop)(w':World),(∀b,S b->w'.heap[b]?=w.heap[b]?)->(∀b,S b->¬ T b)->¬ T p.1->(Z a).inv q T w'->T q.1->(Y a).inv p (λb=>S b\/T b) w'
 keep:=λ{p S w w'} h hb=>λa T w2 h2 hd hp hz hq=>h a T w2 (λb hb'=>(h2 b hb').trans (hb b hb')) hd hp hz hq
def q8g{α:Type}(Y Z:α->Ext)(q:Nat×Nat)(a:α):Prop:=
 ∀p S w,(Y a).inv p S w->∃S0 T:Nat->Prop,(∀b,S b↔S0 b\/T b)/\(∀b,S0 b->¬ T b)/\¬ T p.1/\(Z a).inv q T w/\T q.1/\(wandX Y Z q).inv p S0 w
def FreeV(k:Nat)(v:Value):Prop:=∀r r':Rz,(∀j,j≠k->r j=r' j)->den r v=den r' v
def FreeC(k:Nat)(c:Chunk):Prop:=∀l,l<c.n->∀r r':Rz,(∀j,j≠k->r j=r' j)->den1 r (c.f l)=den1 r' (c.f l)
variable{q:Nat×Nat}
theorem HOK.lensOut{α:Type}{h:Hp}{i:Nat}{o:Bool}{Y Z:α->Ext}{a:α}
  (H:HOK X ρ h w) (hi:h[i]?=some (some (@Chunk.mk (Y a) o n ps))) (hk:h[k]?=some none) (hL:q8g Y Z q a) :
  ∃ρ',AgreeOn (Fil h) ρ ρ'/\ρ' k=q/\HOK X ρ' ((h.set i (some (@Chunk.mk (wandX Y Z q) o n ps))).set k (some (@Chunk.mk (Z a) true 0 []))) w:=by
 obtain⟨S,E⟩:=H.ext
 have hil:=(xe.1 hi).1
 have hkl:=(xe.1 hk).1
 have hik:i≠k:=λe=>by rw[e,hk] at hi;cases hi
 have nf:¬ Fil h k:=fun⟨d,hd⟩=>by rw[hk] at hd;cases hd
 obtain⟨S0,T,hS,hd0,hp,hz,hq,hw⟩:=hL _ _ _ (E.inv i _ hi)
 let ρ':Nat->Nat×Nat:=λj=>if j=k then q else ρ j
 have ρk:ρ' k=q:=if_pos rfl
 have ρo:∀j,j≠k->ρ' j=ρ j:=λj hj=>if_neg hj
 have hag:AgreeOn (Fil h) ρ ρ':=λj hj=>ρo j λe=>nf (e▸hj)
 let hh:=(h.set i (some (@Chunk.mk (wandX Y Z q) o n ps))).set k (some (@Chunk.mk (Z a) true 0 []))
 have get:∀j d,hh[j]?=some (some d)->(j=k/\d = @Chunk.mk (Z a) true 0 [])\/(j=i/\d = @Chunk.mk (wandX Y Z q) o n ps)\/(j≠i/\j≠k/\h[j]?=some (some d)):=λj d hj=>by
  grind
 have fil:∀j,Fil h j->Fil hh j:=λj hj=>by
  obtain⟨d,hd⟩:=hj;by_cases ej:k=j
  .simp_all
  .by_cases ei:i=j
   .exact⟨_,by subst ei;rw[xt ej,xr hil]⟩
   .exact⟨d,by rw[xt ej,xt ei];exact hd⟩
 have Sq:S i q.1:=(hS _).2 (.inr hq)
 have qi:(ρ i).1≠q.1:=λe=>hp (e▸hq)
 have qo:∀j d,j≠i->h[j]?=some (some d)->(ρ j).1≠q.1:=λj d hj hd=>(E.apart i _ _ j d hi Sq hd hj).1
 refine⟨ρ',hag,ρk,H.evo,λj hj=>?_,λj d hj=>?_,λj d hj l hl=>?_,λj d hj ho l hl=>?_,λj d l e hj ho hl hne=>?_,λj b=>(j=i/\S0 b)\/(j=k/\T b)\/(j≠i/\j≠k/\S j b),λj d hj=>?_,λj d b hj hb=>?_,λj d b l e hj hb hl hne=>?_⟩
 .obtain⟨hf,hr⟩:=H.base j hj
  grind
 .rcases get j d hj with ⟨rfl,rfl⟩|⟨rfl,rfl⟩|⟨h1,h2,h3⟩
  .rw[ρk];exact(E.mine i _ _ hi Sq).2.1
  .rw[ρo _ hik];exact H.lt _ _ hi
  .rw[ρo _ h2];exact H.lt _ _ h3
 .rcases get j d hj with ⟨rfl,rfl⟩|⟨rfl,rfl⟩|⟨h1,h2,h3⟩
  .simp_all
  .rw[ρo _ hik];obtain⟨x,hx,hd⟩:=H.cell j _ hi l hl;exact⟨x,hx,hd.more hag fil⟩
  .rw[ρo _ h2];obtain⟨x,hx,hd⟩:=H.cell j _ h3 l hl;exact⟨x,hx,hd.more hag fil⟩
 .rcases get j d hj with ⟨rfl,rfl⟩|⟨rfl,rfl⟩|⟨h1,h2,h3⟩
  .simp_all
  .rw[ρo _ hik];exact H.own j _ hi ho l hl
  .rw[ρo _ h2];exact H.own j _ h3 ho l hl
 .rcases get j d hj with ⟨rfl,rfl⟩|⟨rfl,rfl⟩|⟨h1,h2,h3⟩<;>rcases get l e hl with ⟨rfl,rfl⟩|⟨rfl,rfl⟩|⟨g1,g2,g3⟩
  .omega
  .grind
  .grind
  .simp_all
  .omega
  .rw[ρo _ hik,ρo _ g2];exact H.sep _ _ _ _ hi ho g3 hne
  .simp_all
  .rw[ρo _ h2,ρo _ hik];exact H.sep _ _ _ _ h3 ho hi hne
  .rw[ρo _ h2,ρo _ g2];exact H.sep _ _ _ _ h3 ho g3 hne
 .rcases get j d hj with ⟨rfl,rfl⟩|⟨rfl,rfl⟩|⟨h1,h2,h3⟩
  .have e1:(λb=>(j=i/\S0 b)\/(j=j/\T b)\/(j≠i/\j≠j/\S j b))=T:=by
    grind
   simp_all
  .simp_all
  .have e1:(λb=>(j=i/\S0 b)\/(j=k/\T b)\/(j≠i/\j≠k/\S j b))=S j:=by
    simp_all
   rw[e1,ρo _ h2];exact E.inv j _ h3
 .rcases get j d hj with ⟨rfl,rfl⟩|⟨rfl,rfl⟩|⟨h1,h2,h3⟩
  .rcases hb with hb|hb|hb
   .omega
   .exact⟨.inl rfl,(E.mine i _ _ hi ((hS b).2 (.inr hb.2))).2⟩
   omega
  .rcases hb with hb|hb|hb
   .rw[ρo _ hik];have m:=E.mine _ _ b hi ((hS b).2 (.inl hb.2));exact m
   .omega
   omega
  .rcases hb with hb|hb|hb
   .omega
   .omega
   .rw[ρo _ h2];exact E.mine _ _ _ h3 hb.2.2
 .have lk:∀b,T b->(l=i->(ρ' l).1≠b/\¬ S0 b):=λb hT e=>by subst e;rw[ρo _ hik];exact⟨λe=>hp (e▸hT),λh=>hd0 b h hT⟩
  rcases get j d hj with ⟨rfl,rfl⟩|⟨rfl,rfl⟩|⟨h1,h2,h3⟩<;>rcases get l e hl with ⟨rfl,rfl⟩|⟨rfl,rfl⟩|⟨g1,g2,g3⟩
  .omega
  .grind
  .have hT:T b:=by
    grind
   obtain⟨a1,a2⟩:=E.apart i _ b l _ hi ((hS b).2 (.inr hT)) g3 g1;simp_all
  .grind
  .omega
  .have hB:S0 b:=by
    simp_all
   obtain⟨a1,a2⟩:=E.apart _ _ b l _ hi ((hS b).2 (.inl hB)) g3 g1;simp_all
  .have hB:S j b:=by
    simp_all
   have a2:=(E.apart j _ b i _ h3 hB hi (Ne.symm h1)).2
   grind
  .have hB:S j b:=by
    simp_all
   obtain⟨a1,a2⟩:=E.apart j _ b _ _ h3 hB hi (Ne.symm h1);simp_all
  .exact Q2a
theorem HOK.merge{h:Hp}{i:Nat}{o:Bool}{x y z:Ext}
  (H:HOK X ρ h w) (hi:h[i]?=some (some (@Chunk.mk x o n ps))) (hk:h[k]?=some (some (@Chunk.mk z true 0 []))) (hik:i≠k) (hb:X.n0<=k)
  (hy:∀S T,x.inv (ρ i) S w->z.inv (ρ k) T w->(∀b,S b->¬ T b)->¬ T (ρ i).1->y.inv (ρ i) (λb=>S b\/T b) w)
  (hcell:∀j c,j≠k->h[j]?=some (some c)->∀l,l<c.n->∀v,Den1 (Fil h) ρ (c.f l) v->Den1 (λj=>j≠k/\Fil h j) ρ (c.f l) v) :
  HOK X ρ ((h.set i (some (@Chunk.mk y o n ps))).set k none) w:=by
 obtain⟨S,E⟩:=H.ext
 have hil:=(xe.1 hi).1
 have hkl:=(xe.1 hk).1
 let hh:=(h.set i (some (@Chunk.mk y o n ps))).set k none
 have get:∀j d,hh[j]?=some (some d)->(j=i/\d = @Chunk.mk y o n ps)\/(j≠i/\j≠k/\h[j]?=some (some d)):=λj d hj=>by
  grind
 have fil:∀j,j≠k/\Fil h j->Fil hh j:=λj ⟨hne,hj⟩=>by
  obtain⟨d,hd⟩:=hj;by_cases ei:i=j
  .exact⟨_,by subst ei;rw[xt (Ne.symm hne),xr hil]⟩
  exact Q1B
 have den:∀{v x:Value},Den1 (λj=>j≠k/\Fil h j) ρ v x->Den1 (Fil hh) ρ v x:=λhd r hr=>hd r λj hj=>hr j (fil j hj)
 have dis:∀b,S i b->¬ S k b:=λb h1=>(E.apart i _ b k _ hi h1 hk (Ne.symm hik)).2
 have pk:¬ S k (ρ i).1:=λh1=>(E.apart k _ _ i _ hk h1 hi hik).1 rfl
 refine⟨H.evo,λj hj=>?_,λj d hj=>?_,λj d hj l hl=>?_,λj d hj ho l hl=>?_,λj d l e hj ho hl hne=>?_,λj b=>(j=i/\(S i b\/S k b))\/(j≠i/\j≠k/\S j b),λj d hj=>?_,λj d b hj hb=>?_,λj d b l e hj hb hl hne=>?_⟩
 .obtain⟨hf,hr⟩:=H.base j hj
  grind
 .rcases get j d hj with ⟨rfl,rfl⟩|⟨h1,h2,h3⟩
  .exact H.lt _ _ hi
  .exact H.lt _ _ h3
 .rcases get j d hj with ⟨rfl,rfl⟩|⟨h1,h2,h3⟩
  .obtain⟨x,hx,hd⟩:=H.cell j _ hi l hl;exact⟨x,hx,den (hcell j _ hik hi l hl x hd)⟩
  .obtain⟨x,hx,hd⟩:=H.cell j _ h3 l hl
   grind
 .rcases get j d hj with ⟨rfl,rfl⟩|⟨h1,h2,h3⟩
  .exact H.own j _ hi ho l hl
  .exact H.own j _ h3 ho l hl
 .rcases get j d hj with ⟨rfl,rfl⟩|⟨h1,h2,h3⟩<;>rcases get l e hl with ⟨rfl,rfl⟩|⟨g1,g2,g3⟩
  .omega
  .exact H.sep _ _ _ _ hi ho g3 hne
  .exact H.sep _ _ _ _ h3 ho hi hne
  .exact H.sep _ _ _ _ h3 ho g3 hne
 .rcases get j d hj with ⟨rfl,rfl⟩|⟨h1,h2,h3⟩
  .have e1:(λb=>(j=j/\(S j b\/S k b))\/(j≠j/\j≠k/\S j b))=λb=>S j b\/S k b:=by
    simp
   rw[e1];exact hy _ _ (E.inv j _ hi) (E.inv k _ hk) dis pk
  .have e1:(λb=>(j=i/\(S i b\/S k b))\/(j≠i/\j≠k/\S j b))=S j:=by
    simp_all
   rw[e1];exact E.inv j _ h3
 .rcases get j d hj with ⟨rfl,rfl⟩|⟨h1,h2,h3⟩
  .rcases hb with hb|hb
   .rcases hb.2 with hb|hb
    .have m:=E.mine _ _ b hi hb;exact m
    .exact⟨.inr λe=>pk (e▸hb),(E.mine _ _ _ hk hb).2⟩
   omega
  .rcases hb with hb|hb
   .omega
   .exact E.mine _ _ _ h3 hb.2.2
 .rcases get j d hj with ⟨rfl,rfl⟩|⟨h1,h2,h3⟩<;>rcases get l e hl with ⟨rfl,rfl⟩|⟨g1,g2,g3⟩
  .omega
  .have hB:S j b\/S k b:=by
    simp_all
   have a:(ρ l).1≠b/\¬ S l b:=by
    rcases hB with hB|hB
    .exact E.apart _ _ b l _ hi hB g3 g1
    .exact E.apart _ _ b l _ hk hB g3 g2
   simp_all
  .have hB:S j b:=by
    simp_all
   refine⟨(E.apart j _ b _ _ h3 hB hi (Ne.symm h1)).1,λh=>?_⟩;rcases h with h|h
   .rcases h.2 with h|h
    .exact(E.apart j _ b _ _ h3 hB hi (Ne.symm h1)).2 h
    .exact(E.apart j _ b _ _ h3 hB hk (Ne.symm h2)).2 h
   omega
  .exact Q2a
section
variable{P:Program}
theorem qix{X:Ctx}{ρ ρ2:Rz}{h H1:Hp}{w:World}{k:Nat}{rest:Mz}{h1:Hp}(H:HOK X ρ h w)(hk:h[k]?=some none)(hag:AgreeOn (Fil h) ρ ρ2)(hf:∀j,Fil h j->Fil H1 j)(e:H1=modH h1 rest)(hfree:∀m∈rest,FreeC k m.2)
  (hold:∀j c,j≠k->h1[j]?=some (some c)->∃c0,h[j]?=some (some c0)/\c.n=c0.n/\∀l,c.f l=c0.f l) :
  ∀j c,j≠k->H1[j]?=some (some c)->∀l,l<c.n->∀v,Den1 (Fil H1) ρ2 (c.f l) v->Den1 (λj=>j≠k/\Fil H1 j) ρ2 (c.f l) v:=λj c hjk hj l hl v hd r hr=>by
 have nf:¬ Fil h k:=fun⟨d,hd⟩=>by rw[hk] at hd;cases hd
 rw[e] at hj
 rcases qjp hj with ⟨m,hm,_,rfl⟩|⟨_,hj⟩
 .let r2:Nat->Nat×Nat:=λj=>if j=k then ρ2 k else r j
  have h1:den1 r2 (m.2.f l)=v:=hd r2 λj hj=>Q2y
  rw[<-h1];exact hfree m hm l hl r r2 λj hj=>(if_neg hj).symm
 .obtain⟨c0,hc0,hn,hcf⟩:=hold j c hjk hj;obtain⟨x0,_,hd0⟩:=H.cell j c0 hc0 l Q4P;have e1:v=x0:=by rw[<-hd ρ2 (AgreeOn.refl _ _),hcf l];exact hd0 ρ2 hag
  rw[e1,hcf l];exact hd0 r λj hj=>(hr j ⟨λe=>nf (e▸hj),hf j hj⟩).trans (hag j hj)
theorem qov{F:Nat->Prop}{ρ:Rz}{k:Nat}{v x:Value}(hv:FreeV k v)(hd:Den F ρ v x):Den (λj=>j≠k/\F j) ρ v x:=λr hr=>by
 let r2:Nat->Nat×Nat:=λj=>if j=k then ρ k else r j
 have h1:den r2 v=x:=hd r2 λj hj=>Q2y
 rw[<-h1];exact hv r r2 λj hj=>(if_neg hj).symm
theorem qho{j:Nat}:∀{ms:Mz}{h:Hp},Fil h j->Fil (modH h ms) j
 | [],h,hf=>hf
 | m::ms,h,hf=>qho (ms:=ms) (h:=h.set m.1 (some m.2)) (Fil.set hf)
variable{ps:Pz}
theorem qel{α:Type}{g:FuncId}{vs vs':List Value}{h:Hp}{R R':Value->Mz->Prop}{Y Z:α->Ext}{q:Nat×Nat}{a:α}(i k:Nat){o:Bool}{n:Nat}
  (hi:h[i]?=some (some (@Chunk.mk (Y a) o n ps))) (hk:h[k]?=some none) (hL:q8g Y Z q a) (hsel:∀a,Selfish (Z a)) (hvs:All2 (AtRe q k) vs vs')
  (hc:CallAll P g vs' ((h.set i (some (@Chunk.mk (wandX Y Z q) o n ps))).set k (some (@Chunk.mk (Z a) true 0 []))) R')
  (hR:∀v ms,R' v ms->∃a' rest,modH ((h.set i (some (@Chunk.mk (wandX Y Z q) o n ps))).set k (some (@Chunk.mk (Z a) true 0 []))) ms=modH ((h.set i (some (@Chunk.mk (wandX Y Z q) o n ps))).set k (some (@Chunk.mk (Z a') true 0 []))) rest/\(∀m∈rest,m.1≠i/\m.1≠k/\FreeC k m.2)/\FreeV k v/\R v ((i,@Chunk.mk (Y a') o n ps)::rest)):CallAll P g vs h R:=λX ρ w xs H hxs=>by
 have hil:=(xe.1 hi).1
 have hkl:=(xe.1 hk).1
 have hik:i≠k:=λe=>by rw[e,hk] at hi;cases hi
 have nf:¬ Fil h k:=fun⟨d,hd⟩=>by rw[hk] at hd;cases hd
 have hn0:X.n0<=k:=Q2g
 obtain⟨ρ1,hag1,hρ1,H1⟩:=H.lensOut hi hk hL
 have fil1:∀j,Fil h j->Fil ((h.set i (some (@Chunk.mk (wandX Y Z q) o n ps))).set k (some (@Chunk.mk (Z a) true 0 []))) j:=λj hj=>(hj.set).set
 have filk:Fil ((h.set i (some (@Chunk.mk (wandX Y Z q) o n ps))).set k (some (@Chunk.mk (Z a) true 0 []))) k:=⟨_,xr Q5z⟩
 have hxs1:=qsh filk hρ1 hvs (qhg hxs λv _ x hd=>hd.more hag1 fil1)
 have close:∀x w',(∃v ms ρ',R' v ms/\AgreeOn (Fil ((h.set i (some (@Chunk.mk (wandX Y Z q) o n ps))).set k (some (@Chunk.mk (Z a) true 0 [])))) ρ1 ρ'/\HOK X ρ' (modH ((h.set i (some (@Chunk.mk (wandX Y Z q) o n ps))).set k (some (@Chunk.mk (Z a) true 0 []))) ms) w'/\Den (Fil (modH ((h.set i (some (@Chunk.mk (wandX Y Z q) o n ps))).set k (some (@Chunk.mk (Z a) true 0 []))) ms)) ρ' v x)->∃v ms ρ',R v ms/\AgreeOn (Fil h) ρ ρ'/\HOK X ρ' (modH h ms) w'/\Den (Fil (modH h ms)) ρ' v x:=λx w' ⟨v,ms,ρ2,hr,hag2,H2,hd⟩=>by
  obtain⟨a',rest,he,hfr,hfv,hRR⟩:=hR v ms hr;rw[he] at H2 hd;have hag:AgreeOn (Fil h) ρ ρ2:=λj hj=>(hag2 j (fil1 j hj)).trans (hag1 j hj)
  have hρ2:ρ2 k=q:=(hag2 k filk).trans hρ1;have nk:k∉rest.map (·.1):=λhm=>by
   obtain⟨m,hm,e⟩:=xx.1 hm;exact(hfr m hm).2.1 e
  have ni:i∉rest.map (·.1):=λhm=>by
   obtain⟨m,hm,e⟩:=xx.1 hm;exact(hfr m hm).1 e
  generalize hbase:(h.set i (some (@Chunk.mk (wandX Y Z q) o n ps))).set k (some (@Chunk.mk (Z a') true 0 []))=hb at H2 hd;have bi:hb[i]?=some (some (@Chunk.mk (wandX Y Z q) o n ps)):=by rw[<-hbase,xt (Ne.symm hik),xr hil]
  have bk:hb[k]?=some (some (@Chunk.mk (Z a') true 0 [])):=by rw[<-hbase,xr Q5z]
  have bo:∀j,j≠i->j≠k->hb[j]?=h[j]?:=λj h1 h2=>by rw[<-hbase,xt (Ne.symm h2),xt (Ne.symm h1)]
  have Hi:(modH hb rest)[i]?=some (some (@Chunk.mk (wandX Y Z q) o n ps)):=(qbt ni).trans bi;have Hk:(modH hb rest)[k]?=some (some (@Chunk.mk (Z a') true 0 [])):=(qbt nk).trans bk;have filb:∀j,Fil h j->Fil (modH hb rest) j:=λj hj=>qho (by
   obtain⟨d,hd⟩:=hj;by_cases ei:j=i
   .subst ei;exact⟨_,bi⟩
   .by_cases ek:j=k
    .subst ek;exact⟨_,bk⟩
    .exact⟨d,(bo j ei ek).trans hd⟩)
  have H3:=H2.merge (y:=Y a') Hi Hk hik hn0 (λS T hx hz hdis hp=>hx a' T w' (λ_ _=>rfl) hdis hp (by rw[hρ2] at hz;exact hz) (by have:=hsel a' _ _ _ hz;rw[hρ2] at this;exact this)) (qix H hk hag filb rfl (λm hm=>(hfr m hm).2.2) λj c hjk hj=>by
   by_cases ei:j=i
   .subst ei;rw[bi] at hj;obtain rfl:=Option.some.inj (Option.some.inj hj);exact⟨_,hi,rfl,λ_=>rfl⟩
   .exact⟨c,(bo j ei hjk).symm.trans hj,rfl,λ_=>rfl⟩)
  have eq:((modH hb rest).set i (some (@Chunk.mk (Y a') o n ps))).set k none=modH h ((i,@Chunk.mk (Y a') o n ps)::rest):=by
   have hbl:hb.length=h.length:=by rw[<-hbase,List.length_set,List.length_set]
   refine xO λj=>?_
   show _=(modH (h.set i (some (@Chunk.mk (Y a') o n ps))) rest)[j]?;by_cases ek:k=j
   .exact Q1Z
   .rw[xt ek];by_cases ei:i=j
    .exact Q25
    .rw[xt ei];exact qfg (by rw[bo j (Ne.symm ei) (Ne.symm ek),xt ei])
  rw[eq] at H3;refine⟨v,_,ρ2,hRR,hag,H3,?_⟩;rw[<-eq];refine(qov hfv hd).more (AgreeOn.refl _ _) λj ⟨hne,d,hd⟩=>?_
  by_cases ei:i=j
  .exact⟨@Chunk.mk (Y a') o n ps,by subst ei;rw[xt (Ne.symm hne),xr (xe.1 hd).1]⟩
  exact Q1B
 rcases hc X ρ1 w xs H1 hxs1 with ⟨x,w',hr,hq⟩|⟨hr,hcl⟩
 .exact .inl ⟨x,w',hr,close x w' hq⟩
 .exact Q2z
theorem ql4{α:Type}{g:FuncId}{vs:List Value}{h:Hp}{R R':Value->Mz->Prop}{Y0:Ext}{Y:Nat×Nat->α->Ext}{Z:α->Ext}(i k:Nat){o:Bool}{n:Nat}
  (hi:h[i]?=some (some (@Chunk.mk Y0 o n ps))) (hk:h[k]?=some none) (hsel:∀a,Selfish (Z a))
  (hA:∀p q S T a w,Y0.inv p S w->(Z a).inv q T w->T q.1->(∀b,S b->¬ T b)->¬ T p.1->(Y q a).inv p (λb=>S b\/T b) w)
  (hc:CallAll P g vs h R')
  (hR:∀v ms,R' v ms->R v ms\/∃(a:α)(rest:Mz)(v':Nat×Nat->Value),modH h ms=modH (h.set k (some (@Chunk.mk (Z a) true 0 []))) rest/\(∀m∈rest,m.1≠i/\m.1≠k/\FreeC k m.2)/\(∀r,den r v=den r (v' (r k)))/\(∀q,FreeV k (v' q))/\∀q,R (v' q) ((i,@Chunk.mk (Y q a) o n ps)::rest)):CallAll P g vs h R:=λX ρ w xs H hxs=>by
 have hil:=(xe.1 hi).1
 have hkl:=(xe.1 hk).1
 have hik:i≠k:=λe=>by rw[e,hk] at hi;cases hi
 have nf:¬ Fil h k:=fun⟨d,hd⟩=>by rw[hk] at hd;cases hd
 have hn0:X.n0<=k:=Q2g
 have close:∀x w',(∃v ms ρ',R' v ms/\AgreeOn (Fil h) ρ ρ'/\HOK X ρ' (modH h ms) w'/\Den (Fil (modH h ms)) ρ' v x)->∃v ms ρ',R v ms/\AgreeOn (Fil h) ρ ρ'/\HOK X ρ' (modH h ms) w'/\Den (Fil (modH h ms)) ρ' v x:=λx w' ⟨v,ms,ρ2,hr,hag,H2,hd⟩=>by
  rcases hR v ms hr with h0|⟨a',rest,v',he,hfr,hvv,hfv,hRR⟩
  .exact⟨v,ms,ρ2,h0,hag,H2,hd⟩
  rw[he] at H2 hd;have nk:k∉rest.map (·.1):=λhm=>by
   obtain⟨m,hm,e⟩:=xx.1 hm;exact(hfr m hm).2.1 e
  have ni:i∉rest.map (·.1):=λhm=>by
   obtain⟨m,hm,e⟩:=xx.1 hm;exact(hfr m hm).1 e
  generalize hbase:h.set k (some (@Chunk.mk (Z a') true 0 []))=hb at H2 hd;have bi:hb[i]?=some (some (@Chunk.mk Y0 o n ps)):=by rw[<-hbase,xt (Ne.symm hik),hi]
  have bk:hb[k]?=some (some (@Chunk.mk (Z a') true 0 [])):=by rw[<-hbase,xr hkl]
  have bo:∀j,j≠k->hb[j]?=h[j]?:=λj h2=>by rw[<-hbase,xt (Ne.symm h2)]
  have Hi:(modH hb rest)[i]?=some (some (@Chunk.mk Y0 o n ps)):=(qbt ni).trans bi;have Hk:(modH hb rest)[k]?=some (some (@Chunk.mk (Z a') true 0 [])):=(qbt nk).trans bk;have filb:∀j,Fil h j->Fil (modH hb rest) j:=λj hj=>qho (by
   obtain⟨d,hd⟩:=hj;by_cases ek:j=k
   .subst ek;exact⟨_,bk⟩
   .exact⟨d,(bo j ek).trans hd⟩)
  have H3:=H2.merge (y:=Y (ρ2 k) a') Hi Hk hik hn0 (λS T hx hz hdis hp=>hA _ _ S T a' w' hx hz (hsel a' _ _ _ hz) hdis hp) (qix H hk hag filb rfl (λm hm=>(hfr m hm).2.2) λj c hjk hj=>⟨c,(bo j hjk).symm.trans hj,rfl,λ_=>rfl⟩);have eq:((modH hb rest).set i (some (@Chunk.mk (Y (ρ2 k) a') o n ps))).set k none=modH h ((i,@Chunk.mk (Y (ρ2 k) a') o n ps)::rest):=by
   have hbl:hb.length=h.length:=by rw[<-hbase,List.length_set]
   refine xO λj=>?_
   show _=(modH (h.set i (some (@Chunk.mk (Y (ρ2 k) a') o n ps))) rest)[j]?;by_cases ek:k=j
   .exact Q1Z
   .rw[xt ek];by_cases ei:i=j
    .exact Q25
    .rw[xt ei];exact qfg (by rw[bo j (Ne.symm ek),xt ei])
  rw[eq] at H3;refine⟨v' (ρ2 k),_,ρ2,hRR _,hag,H3,?_⟩;rw[<-eq];have hd2:Den (Fil (modH hb rest)) ρ2 (v' (ρ2 k)) x:=λr hr=>by
   have e1:r k=ρ2 k:=hr k ⟨_,Hk⟩;rw[<-hd r hr,hvv r,e1]
  refine(qov (hfv _) hd2).more (AgreeOn.refl _ _) λj ⟨hne,d,hd⟩=>?_
  by_cases ei:i=j
  .exact⟨@Chunk.mk (Y (ρ2 k) a') o n ps,by subst ei;rw[xt (Ne.symm hne),xr (xe.1 hd).1]⟩
  exact Q1B
 rcases hc X ρ w xs H hxs with ⟨x,w',hr,hq⟩|⟨hr,hcl⟩
 .exact .inl ⟨x,w',hr,close x w' hq⟩
 .exact Q2z
end
def upd{α:Type}(s:Nat->α)(i:Nat)(a:α)(j:Nat):α:=if j=i then a else s j
theorem qfq(s:Nat->α)(i:Nat)(a:α):upd s i a i=a:=if_pos rfl
theorem qed(s:Nat->α){i j:Nat}(a:α)(h:j≠i):upd s i a j=s j:=if_neg h
theorem qct(s:Nat->α)(i:Nat):upd s i (s i)=s:=funext λj=>by
 by_cases h:j=i
 .subst h;exact if_pos rfl
 .exact if_neg h
structure ManyT{α:Type}(Z:α->Ext)(n:Nat)(g:Rz)(s:Nat->α)(S:Nat->Prop)(T:Nat->Nat->Prop)(w:World):Prop where
 sub:∀i b,i<n->T i b->S b
 inv:∀i,i<n->(Z (s i)).inv (g i) (T i) w
 blk:∀i,i<n->T i (g i).1
 sep:∀i j b,i<n->j<n->i≠j->T i b->¬ T j b
abbrev q31{α:Type}(Z:α->Ext)(n:Nat)(g:Rz)(s:Nat->α):Ext where
 inv:=λp S w=>¬ S p.1/\(n=0->∀b,¬ S b)/\∃T,ManyT Z n g s S T w
 keep:=λ{p S w w'} h hb=>⟨h.1,h.2.1,by
  obtain⟨T,h⟩:=h.2.2;exact⟨T,h.sub,λi hi=>(Z (s i)).keep (h.inv i hi) λb hT=>hb b (h.sub i b hi hT),h.blk,h.sep⟩⟩
theorem q1o{x y:Ext}(h:∀p S w,x.inv p S w↔y.inv p S w):x=y:=by
 cases x with
 | mk i k=>cases y with
  | mk i2 k2=>
   have:i=i2:=funext λp=>funext λS=>funext λw=>propext (h p S w)
   simp_all
theorem qiy(Z:α->Ext)(g:Rz)(s:Nat->α):q31 Z 0 g s=Ext.none:=q1o λp S w=>
 ⟨λh=>h.2.1 rfl,λh=>⟨h _,λ_=>h,λ_ _=>False,⟨λi b hi=>absurd hi (xS i),λi hi=>absurd hi (xS i),λi hi=>absurd hi (xS i),λi j b hi=>absurd hi (xS i)⟩⟩⟩
open Classical in
theorem qem(Z:α->Ext){i:Nat}(g:Rz)(s:Nat->α)(hi:i<n)(a:α)(ha:s i=a):q8g (λa=>q31 Z n g (upd s i a)) Z (g i) a:=λp S w h=>by
 obtain⟨hp,hn0,T,h⟩:=h;have h:ManyT Z n g (upd s i a) S T w:=h;rw[<-ha,qct] at h;refine⟨λb=>S b/\¬ T i b,T i,λb=>⟨λhb=>?_,λhb=>?_⟩,λb hb=>hb.2,λhT=>hp (h.sub i _ hi hT),by rw[<-ha];exact h.inv i hi,h.blk i hi,λa2 T2 w2 h2 hd hp2 hz hq=>⟨λhb=>?_,λe=>by omega,λj=>if j=i then T2 else T j,λj b hj hT=>?_,λj hj=>?_,λj hj=>?_,λj l b hj hl hne hT=>?_⟩⟩
 .grind
 .rcases hb with hb|hT
  .exact hb.1
  .exact h.sub i b hi hT
 .simp_all
 .by_cases e:j=i
  .simp_all
  .rw[if_neg e] at hT;exact .inl ⟨h.sub j b hj hT,h.sep j i b hj hi e hT⟩
 .by_cases e:j=i
  .grind[qfq]
  .rw[qed _ _ e];simp only[if_neg e];exact(Z (s j)).keep (h.inv j hj) λb hT=>h2 b ⟨h.sub j b hj hT,h.sep j i b hj hi e hT⟩
 .by_cases e:j=i
  .simp_all
  .simp only[if_neg e];exact h.blk j hj
 .by_cases e:j=i<;>by_cases e':l=i
  .omega
  .rw[if_pos e] at hT;rw[if_neg e'];exact λhT'=>hd b ⟨h.sub l b hl hT',h.sep l i b hl hi e' hT'⟩ hT
  .rw[if_neg e] at hT;rw[if_pos e'];exact hd b ⟨h.sub j b hj hT,h.sep j i b hj hi e hT⟩
  .rw[if_neg e] at hT;rw[if_neg e'];exact h.sep j l b hj hl hne hT
theorem qow(Z:α->Ext){m n2:Nat}(g:Rz)(s:Nat->α)(hm:m<n2)(hn:∀j,j<n2->j≠m->j<n)(p q:Nat×Nat)(S T:Nat->Prop)(a:α)(w:World)(h:(q31 Z n g s).inv p S w)(hz:(Z a).inv q T w)(hq:T q.1)(hd:∀b,S b->¬ T b)(hp:¬ T p.1):(q31 Z n2 (upd g m q) (upd s m a)).inv p (λb=>S b\/T b) w:=by
 obtain⟨hp0,hn0,U,h⟩:=h;refine⟨λhb=>hb.elim hp0 hp,λe=>by omega,λj=>if j=m then T else U j,λj b hj hT=>?_,λj hj=>?_,λj hj=>?_,λj l b hj hl hne hT=>?_⟩
 .by_cases e:j=m
  .simp_all
  .rw[if_neg e] at hT;exact .inl (h.sub j b (hn j hj e) hT)
 .by_cases e:j=m
  .grind[qfq]
  .rw[qed _ _ e,qed _ _ e];simp only[if_neg e];exact h.inv j (hn j hj e)
 .by_cases e:j=m
  .grind[qfq]
  .simp only[if_neg e,qed _ _ e];exact h.blk j (hn j hj e)
 .by_cases e:j=m<;>by_cases e':l=m
  .omega
  .rw[if_pos e] at hT;rw[if_neg e'];exact λhU=>hd b (h.sub l b (hn l hl e') hU) hT
  .rw[if_neg e] at hT;rw[if_pos e'];exact hd b (h.sub j b (hn j hj e) hT)
  .rw[if_neg e] at hT;rw[if_neg e'];exact h.sep j l b (hn j hj e) (hn l hl e') hne hT
open Go Go.RowKit
@[reducible] def z0:ZW:=⟨none⟩
abbrev rowX(oe:Option Rw):Ext:=match oe with
 | none=>Ext.none
 | some r=>@rvX z0 [r]
section
variable{P:Program}{G:Tys}{o:Oper}{st:St}
end
structure PrOK(t:TypeId)(oe:Option Rw)(g:Rz)(k:Nat):Prop where
 n:q5h oe=k
 xs:q53 oe=(List.range k).map λi=>q3z (g i)
 ty:∀r,oe=some r->r.e=t/\r.k=1/\r.w=true
theorem PrOK.nil{t:TypeId}{g:Rz}:PrOK t none g 0:=⟨rfl,rfl,(λr h=>by cases h)⟩
theorem PrOK.grew{t:TypeId}{oe oe':Option Rw}{g:Rz}(h:PrOK t oe g k)(hg:Grew oe oe' t 1 1 [q3z q]):PrOK t oe' (upd g k q) (k+1):=by
 refine⟨by rw[hg.n,h.n],?_,hg.ty⟩;rw[hg.xs,h.xs,List.range_succ,yS];congr 1
 .refine xT λi hi=>?_
  rw[qed _ _ (by have:=yX.1 hi;omega)]
 .rw[List.map_singleton,qfq]
open Go
noncomputable def tys:Tys:=[(0,Tryz.t0,Tryz.t0.desc),
 (1,Tryz.t1,Tryz.t1.desc),
 (2,Tryz.t2,Tryz.t2.desc),
 (3,Tryz.t3,Tryz.t3.desc),
 (4,Tryz.t4,Tryz.t4.desc),
 (5,Tryz.t5,Tryz.t5.desc),
 (6,Tryz.t6,Tryz.t5.desc),
 (7,Tryz.t7,Tryz.t7.desc),
 (8,Tryz.t8,Tryz.t7.desc),
 (9,Tryz.t9,Tryz.t9.desc),
 (10,Tryz.t10,Tryz.t9.desc),
 (11,Tryz.t11,Tryz.t9.desc),
 (12,Tryz.t12,Tryz.t12.desc),
 (13,Tryz.t13,Tryz.t13.desc),
 (14,Tryz.t14,Tryz.t13.desc),
 (15,Tryz.t15,Tryz.t15.desc),
 (16,Tryz.t16,Tryz.t16.desc),
 (17,Tryz.t17,Tryz.t17.desc),
 (18,Tryz.t18,Tryz.t18.desc),
 (19,Tryz.t19,Tryz.t18.desc),
 (20,Tryz.t20,Tryz.t20.desc),
 (21,Tryz.t21,Tryz.t21.desc),
 (22,Tryz.t22,Tryz.t22.desc),
 (23,Tryz.t23,Tryz.t23.desc),
 (24,Tryz.t24,Tryz.t24.desc),
 (25,Tryz.t25,Tryz.t25.desc),
 (26,Tryz.t26,Tryz.t26.desc),
 (27,Tryz.t27,Tryz.t27.desc),
 (28,Tryz.t28,Tryz.t28.desc),
 (29,Tryz.t29,Tryz.t29.desc),
 (30,Tryz.t30,Tryz.t30.desc),
 (31,Tryz.t31,Tryz.t31.desc),
 (32,Tryz.t32,Tryz.t32.desc),
 (33,Tryz.t33,Tryz.t33.desc),
 (34,Tryz.t34,Tryz.t34.desc),
 (35,Tryz.t35,Tryz.t35.desc),
 (36,Tryz.t36,Tryz.t35.desc),
 (37,Tryz.t37,Tryz.t37.desc),
 (38,Tryz.t38,Tryz.t3.desc),
 (39,Tryz.t39,Tryz.t39.desc),
 (40,Tryz.t40,Tryz.t40.desc),
 (41,Tryz.t41,Tryz.t41.desc),
 (42,Tryz.t42,Tryz.t41.desc),
 (43,Tryz.t43,Tryz.t43.desc),
 (44,Tryz.t44,Tryz.t44.desc),
 (45,Tryz.t45,Tryz.t45.desc),
 (46,Tryz.t46,Tryz.t46.desc),
 (47,Tryz.t47,Tryz.t47.desc),
 (48,Tryz.t48,Tryz.t48.desc),
 (49,Tryz.t49,Tryz.t49.desc),
 (50,Tryz.t50,Tryz.t50.desc),
 (51,Tryz.t51,Tryz.t50.desc),
 (52,Tryz.t52,Tryz.t52.desc),
 (53,Tryz.t53,Tryz.t53.desc),
 (54,Tryz.t54,Tryz.t54.desc),
 (55,Tryz.t55,Tryz.t55.desc),
 (56,Tryz.t56,Tryz.t56.desc),
 (57,Tryz.t57,Tryz.t57.desc),
 (58,Tryz.t58,Tryz.t58.desc),
 (59,Tryz.t59,Tryz.t58.desc),
 (60,Tryz.t60,Tryz.t60.desc),
 (61,Tryz.t61,Tryz.t60.desc),
 (62,Tryz.t62,Tryz.t62.desc),
 (63,Tryz.t63,Tryz.t62.desc),
 (64,Tryz.t64,Tryz.t64.desc),
 (65,Tryz.t65,Tryz.t64.desc),
 (66,Tryz.t66,Tryz.t66.desc),
 (67,Tryz.t67,Tryz.t67.desc),
 (68,Tryz.t68,Tryz.t68.desc),
 (69,Tryz.t69,Tryz.t69.desc),
 (70,Tryz.t70,Tryz.t70.desc),
 (71,Tryz.t71,Tryz.t71.desc),
 (72,Tryz.t72,Tryz.t72.desc),
 (73,Tryz.t73,Tryz.t73.desc),
 (74,Tryz.t74,Tryz.t74.desc),
 (75,Tryz.t75,Tryz.t75.desc),
 (76,Tryz.t76,Tryz.t76.desc),
 (77,Tryz.t77,Tryz.t77.desc),
 (78,Tryz.t78,Tryz.t78.desc),
 (79,Tryz.t79,Tryz.t79.desc),
 (80,Tryz.t80,Tryz.t80.desc),
 (81,Tryz.t81,Tryz.t80.desc),
 (82,Tryz.t82,Tryz.t82.desc),
 (83,Tryz.t83,Tryz.t83.desc),
 (84,Tryz.t84,Tryz.t84.desc),
 (85,Tryz.t85,Tryz.t85.desc),
 (86,Tryz.t86,Tryz.t86.desc),
 (87,Tryz.t87,Tryz.t87.desc),
 (88,Tryz.t88,Tryz.t87.desc),
 (89,Tryz.t89,Tryz.t89.desc),
 (90,Tryz.t90,Tryz.t90.desc),
 (91,Tryz.t91,Tryz.t90.desc),
 (92,Tryz.t92,Tryz.t92.desc),
 (93,Tryz.t93,Tryz.t93.desc),
 (94,Tryz.t94,Tryz.t94.desc),
 (95,Tryz.t95,Tryz.t95.desc),
 (96,Tryz.t96,Tryz.t96.desc),
 (97,Tryz.t97,Tryz.t97.desc),
 (98,Tryz.t98,Tryz.t98.desc),
 (99,Tryz.t99,Tryz.t99.desc),
 (100,Tryz.t100,Tryz.t100.desc),
 (101,Tryz.t101,Tryz.t101.desc),
 (102,Tryz.t102,Tryz.t102.desc),
 (103,Tryz.t103,Tryz.t103.desc),
 (104,Tryz.t104,Tryz.t104.desc),
 (105,Tryz.t105,Tryz.t105.desc),
 (106,Tryz.t106,Tryz.t106.desc),
 (107,Tryz.t107,Tryz.t106.desc),
 (108,Tryz.t108,Tryz.t108.desc),
 (109,Tryz.t109,Tryz.t109.desc),
 (110,Tryz.t110,Tryz.t110.desc),
 (111,Tryz.t111,Tryz.t111.desc),
 (112,Tryz.t112,Tryz.t112.desc),
 (113,Tryz.t113,Tryz.t113.desc),
 (114,Tryz.t114,Tryz.t114.desc),
 (115,Tryz.t115,Tryz.t115.desc),
 (116,Tryz.t116,Tryz.t116.desc),
 (117,Tryz.t117,Tryz.t117.desc),
 (118,Tryz.t118,Tryz.t118.desc),
 (119,Tryz.t119,Tryz.t118.desc),
 (120,Tryz.t120,Tryz.t120.desc),
 (121,Tryz.t121,Tryz.t121.desc),
 (122,Tryz.t122,Tryz.t122.desc),
 (123,Tryz.t123,Tryz.t123.desc),
 (124,Tryz.t124,Tryz.t124.desc),
 (125,Tryz.t125,Tryz.t125.desc),
 (126,Tryz.t126,Tryz.t126.desc),
 (127,Tryz.t127,Tryz.t127.desc),
 (128,Tryz.t128,Tryz.t128.desc),
 (129,Tryz.t129,Tryz.t129.desc),
 (130,Tryz.t130,Tryz.t130.desc),
 (131,Tryz.t131,Tryz.t130.desc),
 (132,Tryz.t132,Tryz.t132.desc),
 (133,Tryz.t133,Tryz.t133.desc),
 (134,Tryz.t134,Tryz.t134.desc),
 (135,Tryz.t135,Tryz.t135.desc),
 (136,Tryz.t136,Tryz.t136.desc),
 (137,Tryz.t137,Tryz.t136.desc),
 (138,Tryz.t138,Tryz.t138.desc),
 (139,Tryz.t139,Tryz.t138.desc),
 (140,Tryz.t140,Tryz.t140.desc),
 (141,Tryz.t141,Tryz.t141.desc),
 (142,Tryz.t142,Tryz.t141.desc),
 (143,Tryz.t143,Tryz.t143.desc),
 (144,Tryz.t144,Tryz.t144.desc),
 (145,Tryz.t145,Tryz.t145.desc),
 (146,Tryz.t146,Tryz.t145.desc),
 (147,Tryz.t147,Tryz.t147.desc),
 (148,Tryz.t148,Tryz.t147.desc),
 (149,Tryz.t149,Tryz.t149.desc),
 (150,Tryz.t150,Tryz.t149.desc),
 (151,Tryz.t151,Tryz.t151.desc),
 (152,Tryz.t152,Tryz.t151.desc),
 (153,Tryz.t153,Tryz.t153.desc),
 (154,Tryz.t154,Tryz.t153.desc),
 (155,Tryz.t155,Tryz.t155.desc),
 (156,Tryz.t156,Tryz.t156.desc),
 (157,Tryz.t157,Tryz.t157.desc),
 (158,Tryz.t158,Tryz.t158.desc),
 (159,Tryz.t159,Tryz.t159.desc),
 (160,Tryz.t160,Tryz.t160.desc),
 (161,Tryz.t161,Tryz.t161.desc),
 (162,Tryz.t162,Tryz.t162.desc),
 (163,Tryz.t163,Tryz.t163.desc),
 (164,Tryz.t164,Tryz.t164.desc),
 (165,Tryz.t165,Tryz.t165.desc),
 (166,Tryz.t166,Tryz.t166.desc),
 (167,Tryz.t167,Tryz.t167.desc),
 (168,Tryz.t168,Tryz.t168.desc),
 (169,Tryz.t169,Tryz.t168.desc),
 (170,Tryz.t170,Tryz.t170.desc),
 (171,Tryz.t171,Tryz.t171.desc),
 (172,Tryz.t172,Tryz.t172.desc),
 (173,Tryz.t173,Tryz.t173.desc),
 (174,Tryz.t174,Tryz.t174.desc),
 (175,Tryz.t175,Tryz.t175.desc),
 (176,Tryz.t176,Tryz.t176.desc),
 (177,Tryz.t177,Tryz.t177.desc),
 (178,Tryz.t178,Tryz.t178.desc),
 (179,Tryz.t179,Tryz.t179.desc),
 (180,Tryz.t180,Tryz.t180.desc),
 (181,Tryz.t181,Tryz.t181.desc),
 (182,Tryz.t182,Tryz.t182.desc),
 (183,Tryz.t183,Tryz.t183.desc),
 (184,Tryz.t184,Tryz.t183.desc),
 (185,Tryz.t185,Tryz.t185.desc),
 (186,Tryz.t186,Tryz.t186.desc),
 (187,Tryz.t187,Tryz.t187.desc),
 (188,Tryz.t188,Tryz.t188.desc),
 (189,Tryz.t189,Tryz.t189.desc),
 (190,Tryz.t190,Tryz.t190.desc),
 (191,Tryz.t191,Tryz.t191.desc),
 (192,Tryz.t192,Tryz.t192.desc),
 (193,Tryz.t193,Tryz.t193.desc),
 (194,Tryz.t194,Tryz.t193.desc),
 (195,Tryz.t195,Tryz.t195.desc),
 (196,Tryz.t196,Tryz.t196.desc),
 (197,Tryz.t197,Tryz.t197.desc),
 (198,Tryz.t198,Tryz.t198.desc),
 (199,Tryz.t199,Tryz.t199.desc),
 (200,Tryz.t200,Tryz.t200.desc),
 (201,Tryz.t201,Tryz.t201.desc),
 (202,Tryz.t202,Tryz.t202.desc),
 (203,Tryz.t203,Tryz.t203.desc),
 (204,Tryz.t204,Tryz.t204.desc),
 (205,Tryz.t205,Tryz.t205.desc),
 (206,Tryz.t206,Tryz.t206.desc),
 (207,Tryz.t207,Tryz.t207.desc),
 (208,Tryz.t208,Tryz.t208.desc),
 (209,Tryz.t209,Tryz.t209.desc),
 (210,Tryz.t210,Tryz.t210.desc),
 (211,Tryz.t211,Tryz.t210.desc),
 (212,Tryz.t212,Tryz.t212.desc),
 (213,Tryz.t213,Tryz.t213.desc),
 (214,Tryz.t214,Tryz.t214.desc),
 (215,Tryz.t215,Tryz.t215.desc),
 (216,Tryz.t216,Tryz.t216.desc),
 (217,Tryz.t217,Tryz.t217.desc),
 (218,Tryz.t218,Tryz.t218.desc),
 (219,Tryz.t219,Tryz.t219.desc),
 (220,Tryz.t220,Tryz.t220.desc),
 (221,Tryz.t221,Tryz.t221.desc),
 (222,Tryz.t222,Tryz.t221.desc),
 (223,Tryz.t223,Tryz.t223.desc),
 (224,Tryz.t224,Tryz.t224.desc),
 (225,Tryz.t225,Tryz.t225.desc),
 (226,Tryz.t226,Tryz.t226.desc),
 (227,Tryz.t227,Tryz.t227.desc),
 (228,Tryz.t228,Tryz.t3.desc),
 (229,Tryz.t229,Tryz.t229.desc),
 (230,Tryz.t230,Tryz.t230.desc),
 (231,Tryz.t231,Tryz.t231.desc),
 (232,Tryz.t232,Tryz.t232.desc),
 (233,Tryz.t233,Tryz.t233.desc),
 (234,Tryz.t234,Tryz.t234.desc),
 (235,Tryz.t235,Tryz.t235.desc),
 (236,Tryz.t236,Tryz.t236.desc),
 (237,Tryz.t237,Tryz.t237.desc),
 (238,Tryz.t238,Tryz.t238.desc),
 (239,Tryz.t239,Tryz.t239.desc),
 (240,Tryz.t240,Tryz.t239.desc),
 (241,Tryz.t241,Tryz.t241.desc),
 (242,Tryz.t242,Tryz.t241.desc),
 (243,Tryz.t243,Tryz.t243.desc),
 (244,Tryz.t244,Tryz.t244.desc),
 (245,Tryz.t245,Tryz.t245.desc),
 (246,Tryz.t246,Tryz.t246.desc),
 (247,Tryz.t247,Tryz.t247.desc),
 (248,Tryz.t248,Tryz.t248.desc),
 (249,Tryz.t249,Tryz.t249.desc),
 (250,Tryz.t250,Tryz.t249.desc),
 (251,Tryz.t251,Tryz.t251.desc),
 (252,Tryz.t252,Tryz.t252.desc),
 (253,Tryz.t253,Tryz.t253.desc),
 (254,Tryz.t254,Tryz.t254.desc),
 (255,Tryz.t255,Tryz.t255.desc),
 (256,Tryz.t256,Tryz.t256.desc),
 (257,Tryz.t257,Tryz.t257.desc),
 (258,Tryz.t258,Tryz.t258.desc),
 (259,Tryz.t259,Tryz.t259.desc),
 (260,Tryz.t260,Tryz.t260.desc),
 (261,Tryz.t261,Tryz.t261.desc),
 (262,Tryz.t262,Tryz.t262.desc),
 (263,Tryz.t263,Tryz.t263.desc),
 (264,Tryz.t264,Tryz.t264.desc),
 (265,Tryz.t265,Tryz.t265.desc),
 (266,Tryz.t266,Tryz.t266.desc),
 (267,Tryz.t267,Tryz.t267.desc),
 (268,Tryz.t268,Tryz.t268.desc),
 (269,Tryz.t269,Tryz.t269.desc),
 (270,Tryz.t270,Tryz.t270.desc),
 (271,Tryz.t271,Tryz.t271.desc),
 (272,Tryz.t272,Tryz.t272.desc),
 (273,Tryz.t273,Tryz.t273.desc),
 (274,Tryz.t274,Tryz.t274.desc),
 (275,Tryz.t275,Tryz.t275.desc),
 (276,Tryz.t276,Tryz.t276.desc),
 (277,Tryz.t277,Tryz.t277.desc),
 (278,Tryz.t278,Tryz.t278.desc),
 (279,Tryz.t279,Tryz.t279.desc),
 (280,Tryz.t280,Tryz.t280.desc),
 (281,Tryz.t281,Tryz.t281.desc),
 (282,Tryz.t282,Tryz.t281.desc),
 (283,Tryz.t283,Tryz.t283.desc),
 (284,Tryz.t284,Tryz.t284.desc),
 (285,Tryz.t285,Tryz.t285.desc),
 (286,Tryz.t286,Tryz.t286.desc),
 (287,Tryz.t287,Tryz.t287.desc),
 (288,Tryz.t288,Tryz.t288.desc),
 (289,Tryz.t289,Tryz.t289.desc),
 (290,Tryz.t290,Tryz.t290.desc),
 (291,Tryz.t291,Tryz.t291.desc),
 (292,Tryz.t292,Tryz.t292.desc),
 (293,Tryz.t293,Tryz.t293.desc),
 (294,Tryz.t294,Tryz.t294.desc),
 (295,Tryz.t295,Tryz.t295.desc),
 (296,Tryz.t296,Tryz.t296.desc),
 (297,Tryz.t297,Tryz.t297.desc),
 (298,Tryz.t298,Tryz.t298.desc),
 (299,Tryz.t299,Tryz.t299.desc),
 (300,Tryz.t300,Tryz.t300.desc),
 (301,Tryz.t301,Tryz.t301.desc),
 (302,Tryz.t302,Tryz.t302.desc),
 (303,Tryz.t303,Tryz.t303.desc),
 (304,Tryz.t304,Tryz.t304.desc),
 (305,Tryz.t305,Tryz.t305.desc),
 (306,Tryz.t306,Tryz.t306.desc),
 (307,Tryz.t307,Tryz.t307.desc),
 (308,Tryz.t308,Tryz.t308.desc),
 (309,Tryz.t309,Tryz.t308.desc),
 (310,Tryz.t310,Tryz.t310.desc),
 (311,Tryz.t311,Tryz.t3.desc),
 (312,Tryz.t312,Tryz.t312.desc),
 (313,Tryz.t313,Tryz.t313.desc),
 (314,Tryz.t314,Tryz.t314.desc),
 (315,Tryz.t315,Tryz.t315.desc),
 (316,Tryz.t316,Tryz.t316.desc),
 (317,Tryz.t317,Tryz.t317.desc),
 (318,Tryz.t318,Tryz.t318.desc),
 (319,Tryz.t319,Tryz.t319.desc),
 (320,Tryz.t320,Tryz.t319.desc),
 (321,Tryz.t321,Tryz.t321.desc),
 (322,Tryz.t322,Tryz.t322.desc),
 (323,Tryz.t323,Tryz.t323.desc),
 (324,Tryz.t324,Tryz.t324.desc),
 (325,Tryz.t325,Tryz.t325.desc),
 (326,Tryz.t326,Tryz.t326.desc),
 (327,Tryz.t327,Tryz.t327.desc),
 (328,Tryz.t328,Tryz.t328.desc),
 (329,Tryz.t329,Tryz.t329.desc),
 (330,Tryz.t330,Tryz.t330.desc),
 (331,Tryz.t331,Tryz.t331.desc),
 (332,Tryz.t332,Tryz.t332.desc),
 (333,Tryz.t333,Tryz.t333.desc),
 (334,Tryz.t334,Tryz.t333.desc),
 (335,Tryz.t335,Tryz.t335.desc),
 (336,Tryz.t336,Tryz.t336.desc),
 (337,Tryz.t337,Tryz.t336.desc),
 (338,Tryz.t338,Tryz.t338.desc),
 (339,Tryz.t339,Tryz.t339.desc),
 (340,Tryz.t340,Tryz.t340.desc),
 (341,Tryz.t341,Tryz.t31.desc),
 (342,Tryz.t342,Tryz.t342.desc),
 (343,Tryz.t343,Tryz.t343.desc),
 (344,Tryz.t344,Tryz.t344.desc),
 (345,Tryz.t345,Tryz.t345.desc),
 (346,Tryz.t346,Tryz.t346.desc),
 (347,Tryz.t347,Tryz.t347.desc),
 (348,Tryz.t348,Tryz.t348.desc),
 (349,Tryz.t349,Tryz.t349.desc),
 (350,Tryz.t350,Tryz.t350.desc),
 (351,Tryz.t351,Tryz.t351.desc),
 (352,Tryz.t352,Tryz.t352.desc),
 (353,Tryz.t353,Tryz.t353.desc),
 (354,Tryz.t354,Tryz.t354.desc),
 (355,Tryz.t355,Tryz.t354.desc),
 (356,Tryz.t356,Tryz.t356.desc),
 (357,Tryz.t357,Tryz.t357.desc),
 (358,Tryz.t358,Tryz.t358.desc),
 (359,Tryz.t359,Tryz.t359.desc),
 (360,Tryz.t360,Tryz.t360.desc),
 (361,Tryz.t361,Tryz.t361.desc),
 (362,Tryz.t362,Tryz.t362.desc),
 (363,Tryz.t363,Tryz.t363.desc),
 (364,Tryz.t364,Tryz.t364.desc),
 (365,Tryz.t365,Tryz.t365.desc),
 (366,Tryz.t366,Tryz.t366.desc),
 (367,Tryz.t367,Tryz.t366.desc),
 (368,Tryz.t368,Tryz.t368.desc),
 (369,Tryz.t369,Tryz.t369.desc),
 (370,Tryz.t370,Tryz.t370.desc),
 (371,Tryz.t371,Tryz.t371.desc),
 (372,Tryz.t372,Tryz.t372.desc),
 (373,Tryz.t373,Tryz.t373.desc),
 (374,Tryz.t374,Tryz.t374.desc),
 (375,Tryz.t375,Tryz.t375.desc),
 (376,Tryz.t376,Tryz.t376.desc),
 (377,Tryz.t377,Tryz.t377.desc),
 (378,Tryz.t378,Tryz.t378.desc),
 (379,Tryz.t379,Tryz.t379.desc),
 (380,Tryz.t380,Tryz.t380.desc),
 (381,Tryz.t381,Tryz.t381.desc),
 (382,Tryz.t382,Tryz.t382.desc),
 (383,Tryz.t383,Tryz.t383.desc),
 (384,Tryz.t384,Tryz.t384.desc),
 (385,Tryz.t385,Tryz.t385.desc),
 (386,Tryz.t386,Tryz.t386.desc),
 (387,Tryz.t387,Tryz.t387.desc),
 (388,Tryz.t388,Tryz.t388.desc),
 (389,Tryz.t389,Tryz.t389.desc),
 (390,Tryz.t390,Tryz.t390.desc),
 (391,Tryz.t391,Tryz.t390.desc),
 (392,Tryz.t392,Tryz.t392.desc),
 (393,Tryz.t393,Tryz.t393.desc),
 (394,Tryz.t394,Tryz.t394.desc),
 (395,Tryz.t395,Tryz.t395.desc),
 (396,Tryz.t396,Tryz.t396.desc),
 (397,Tryz.t397,Tryz.t397.desc),
 (398,Tryz.t398,Tryz.t398.desc),
 (399,Tryz.t399,Tryz.t399.desc),
 (400,Tryz.t400,Tryz.t400.desc),
 (401,Tryz.t401,Tryz.t400.desc),
 (402,Tryz.t402,Tryz.t402.desc),
 (403,Tryz.t403,Tryz.t403.desc),
 (404,Tryz.t404,Tryz.t404.desc),
 (405,Tryz.t405,Tryz.t405.desc),
 (406,Tryz.t406,Tryz.t405.desc),
 (407,Tryz.t407,Tryz.t407.desc),
 (408,Tryz.t408,Tryz.t408.desc),
 (409,Tryz.t409,Tryz.t409.desc),
 (410,Tryz.t410,Tryz.t410.desc),
 (411,Tryz.t411,Tryz.t411.desc),
 (412,Tryz.t412,Tryz.t411.desc),
 (413,Tryz.t413,Tryz.t413.desc),
 (414,Tryz.t414,Tryz.t413.desc),
 (415,Tryz.t415,Tryz.t415.desc),
 (416,Tryz.t416,Tryz.t416.desc),
 (417,Tryz.t417,Tryz.t417.desc),
 (418,Tryz.t418,Tryz.t418.desc),
 (419,Tryz.t419,Tryz.t419.desc),
 (420,Tryz.t420,Tryz.t420.desc),
 (421,Tryz.t421,Tryz.t421.desc),
 (422,Tryz.t422,Tryz.t422.desc),
 (423,Tryz.t423,Tryz.t423.desc),
 (424,Tryz.t424,Tryz.t424.desc),
 (425,Tryz.t425,Tryz.t425.desc),
 (426,Tryz.t426,Tryz.t426.desc),
 (427,Tryz.t427,Tryz.t427.desc),
 (428,Tryz.t428,Tryz.t428.desc),
 (429,Tryz.t429,Tryz.t429.desc),
 (430,Tryz.t430,Tryz.t430.desc),
 (431,Tryz.t431,Tryz.t431.desc),
 (432,Tryz.t432,Tryz.t432.desc),
 (433,Tryz.t433,Tryz.t433.desc),
 (434,Tryz.t434,Tryz.t434.desc),
 (435,Tryz.t435,Tryz.t435.desc),
 (436,Tryz.t436,Tryz.t435.desc),
 (437,Tryz.t437,Tryz.t437.desc),
 (438,Tryz.t438,Tryz.t438.desc),
 (439,Tryz.t439,Tryz.t438.desc),
 (440,Tryz.t440,Tryz.t5.desc),
 (441,Tryz.t441,Tryz.t5.desc),
 (442,Tryz.t442,Tryz.t442.desc),
 (443,Tryz.t443,Tryz.t21.desc),
 (444,Tryz.t444,Tryz.t21.desc),
 (445,Tryz.t445,Tryz.t445.desc),
 (446,Tryz.t446,Tryz.t445.desc)]
theorem tysOK:q32 prog tys:=TysAll.ok (
 ⟨⟨type0,underlying0⟩,
 ⟨⟨type1,underlying1⟩,
 ⟨⟨type2,underlying2⟩,
 ⟨⟨type3,underlying3⟩,
 ⟨⟨type4,underlying4⟩,
 ⟨⟨type5,underlying5⟩,
 ⟨⟨type6,underlying6⟩,
 ⟨⟨type7,underlying7⟩,
 ⟨⟨type8,underlying8⟩,
 ⟨⟨type9,underlying9⟩,
 ⟨⟨type10,underlying10⟩,
 ⟨⟨type11,underlying11⟩,
 ⟨⟨type12,underlying12⟩,
 ⟨⟨type13,underlying13⟩,
 ⟨⟨type14,underlying14⟩,
 ⟨⟨type15,underlying15⟩,
 ⟨⟨type16,underlying16⟩,
 ⟨⟨type17,underlying17⟩,
 ⟨⟨type18,underlying18⟩,
 ⟨⟨type19,underlying19⟩,
 ⟨⟨type20,underlying20⟩,
 ⟨⟨type21,underlying21⟩,
 ⟨⟨type22,underlying22⟩,
 ⟨⟨type23,underlying23⟩,
 ⟨⟨type24,underlying24⟩,
 ⟨⟨type25,underlying25⟩,
 ⟨⟨type26,underlying26⟩,
 ⟨⟨type27,underlying27⟩,
 ⟨⟨type28,underlying28⟩,
 ⟨⟨type29,underlying29⟩,
 ⟨⟨type30,underlying30⟩,
 ⟨⟨type31,underlying31⟩,
 ⟨⟨type32,underlying32⟩,
 ⟨⟨type33,underlying33⟩,
 ⟨⟨type34,underlying34⟩,
 ⟨⟨type35,underlying35⟩,
 ⟨⟨type36,underlying36⟩,
 ⟨⟨type37,underlying37⟩,
 ⟨⟨type38,underlying38⟩,
 ⟨⟨type39,underlying39⟩,
 ⟨⟨type40,underlying40⟩,
 ⟨⟨type41,underlying41⟩,
 ⟨⟨type42,underlying42⟩,
 ⟨⟨type43,underlying43⟩,
 ⟨⟨type44,underlying44⟩,
 ⟨⟨type45,underlying45⟩,
 ⟨⟨type46,underlying46⟩,
 ⟨⟨type47,underlying47⟩,
 ⟨⟨type48,underlying48⟩,
 ⟨⟨type49,underlying49⟩,
 ⟨⟨type50,underlying50⟩,
 ⟨⟨type51,underlying51⟩,
 ⟨⟨type52,underlying52⟩,
 ⟨⟨type53,underlying53⟩,
 ⟨⟨type54,underlying54⟩,
 ⟨⟨type55,underlying55⟩,
 ⟨⟨type56,underlying56⟩,
 ⟨⟨type57,underlying57⟩,
 ⟨⟨type58,underlying58⟩,
 ⟨⟨type59,underlying59⟩,
 ⟨⟨type60,underlying60⟩,
 ⟨⟨type61,underlying61⟩,
 ⟨⟨type62,underlying62⟩,
 ⟨⟨type63,underlying63⟩,
 ⟨⟨type64,underlying64⟩,
 ⟨⟨type65,underlying65⟩,
 ⟨⟨type66,underlying66⟩,
 ⟨⟨type67,underlying67⟩,
 ⟨⟨type68,underlying68⟩,
 ⟨⟨type69,underlying69⟩,
 ⟨⟨type70,underlying70⟩,
 ⟨⟨type71,underlying71⟩,
 ⟨⟨type72,underlying72⟩,
 ⟨⟨type73,underlying73⟩,
 ⟨⟨type74,underlying74⟩,
 ⟨⟨type75,underlying75⟩,
 ⟨⟨type76,underlying76⟩,
 ⟨⟨type77,underlying77⟩,
 ⟨⟨type78,underlying78⟩,
 ⟨⟨type79,underlying79⟩,
 ⟨⟨type80,underlying80⟩,
 ⟨⟨type81,underlying81⟩,
 ⟨⟨type82,underlying82⟩,
 ⟨⟨type83,underlying83⟩,
 ⟨⟨type84,underlying84⟩,
 ⟨⟨type85,underlying85⟩,
 ⟨⟨type86,underlying86⟩,
 ⟨⟨type87,underlying87⟩,
 ⟨⟨type88,underlying88⟩,
 ⟨⟨type89,underlying89⟩,
 ⟨⟨type90,underlying90⟩,
 ⟨⟨type91,underlying91⟩,
 ⟨⟨type92,underlying92⟩,
 ⟨⟨type93,underlying93⟩,
 ⟨⟨type94,underlying94⟩,
 ⟨⟨type95,underlying95⟩,
 ⟨⟨type96,underlying96⟩,
 ⟨⟨type97,underlying97⟩,
 ⟨⟨type98,underlying98⟩,
 ⟨⟨type99,underlying99⟩,
 ⟨⟨type100,underlying100⟩,
 ⟨⟨type101,underlying101⟩,
 ⟨⟨type102,underlying102⟩,
 ⟨⟨type103,underlying103⟩,
 ⟨⟨type104,underlying104⟩,
 ⟨⟨type105,underlying105⟩,
 ⟨⟨type106,underlying106⟩,
 ⟨⟨type107,underlying107⟩,
 ⟨⟨type108,underlying108⟩,
 ⟨⟨type109,underlying109⟩,
 ⟨⟨type110,underlying110⟩,
 ⟨⟨type111,underlying111⟩,
 ⟨⟨type112,underlying112⟩,
 ⟨⟨type113,underlying113⟩,
 ⟨⟨type114,underlying114⟩,
 ⟨⟨type115,underlying115⟩,
 ⟨⟨type116,underlying116⟩,
 ⟨⟨type117,underlying117⟩,
 ⟨⟨type118,underlying118⟩,
 ⟨⟨type119,underlying119⟩,
 ⟨⟨type120,underlying120⟩,
 ⟨⟨type121,underlying121⟩,
 ⟨⟨type122,underlying122⟩,
 ⟨⟨type123,underlying123⟩,
 ⟨⟨type124,underlying124⟩,
 ⟨⟨type125,underlying125⟩,
 ⟨⟨type126,underlying126⟩,
 ⟨⟨type127,underlying127⟩,
 ⟨⟨type128,underlying128⟩,
 ⟨⟨type129,underlying129⟩,
 ⟨⟨type130,underlying130⟩,
 ⟨⟨type131,underlying131⟩,
 ⟨⟨type132,underlying132⟩,
 ⟨⟨type133,underlying133⟩,
 ⟨⟨type134,underlying134⟩,
 ⟨⟨type135,underlying135⟩,
 ⟨⟨type136,underlying136⟩,
 ⟨⟨type137,underlying137⟩,
 ⟨⟨type138,underlying138⟩,
 ⟨⟨type139,underlying139⟩,
 ⟨⟨type140,underlying140⟩,
 ⟨⟨type141,underlying141⟩,
 ⟨⟨type142,underlying142⟩,
 ⟨⟨type143,underlying143⟩,
 ⟨⟨type144,underlying144⟩,
 ⟨⟨type145,underlying145⟩,
 ⟨⟨type146,underlying146⟩,
 ⟨⟨type147,underlying147⟩,
 ⟨⟨type148,underlying148⟩,
 ⟨⟨type149,underlying149⟩,
 ⟨⟨type150,underlying150⟩,
 ⟨⟨type151,underlying151⟩,
 ⟨⟨type152,underlying152⟩,
 ⟨⟨type153,underlying153⟩,
 ⟨⟨type154,underlying154⟩,
 ⟨⟨type155,underlying155⟩,
 ⟨⟨type156,underlying156⟩,
 ⟨⟨type157,underlying157⟩,
 ⟨⟨type158,underlying158⟩,
 ⟨⟨type159,underlying159⟩,
 ⟨⟨type160,underlying160⟩,
 ⟨⟨type161,underlying161⟩,
 ⟨⟨type162,underlying162⟩,
 ⟨⟨type163,underlying163⟩,
 ⟨⟨type164,underlying164⟩,
 ⟨⟨type165,underlying165⟩,
 ⟨⟨type166,underlying166⟩,
 ⟨⟨type167,underlying167⟩,
 ⟨⟨type168,underlying168⟩,
 ⟨⟨type169,underlying169⟩,
 ⟨⟨type170,underlying170⟩,
 ⟨⟨type171,underlying171⟩,
 ⟨⟨type172,underlying172⟩,
 ⟨⟨type173,underlying173⟩,
 ⟨⟨type174,underlying174⟩,
 ⟨⟨type175,underlying175⟩,
 ⟨⟨type176,underlying176⟩,
 ⟨⟨type177,underlying177⟩,
 ⟨⟨type178,underlying178⟩,
 ⟨⟨type179,underlying179⟩,
 ⟨⟨type180,underlying180⟩,
 ⟨⟨type181,underlying181⟩,
 ⟨⟨type182,underlying182⟩,
 ⟨⟨type183,underlying183⟩,
 ⟨⟨type184,underlying184⟩,
 ⟨⟨type185,underlying185⟩,
 ⟨⟨type186,underlying186⟩,
 ⟨⟨type187,underlying187⟩,
 ⟨⟨type188,underlying188⟩,
 ⟨⟨type189,underlying189⟩,
 ⟨⟨type190,underlying190⟩,
 ⟨⟨type191,underlying191⟩,
 ⟨⟨type192,underlying192⟩,
 ⟨⟨type193,underlying193⟩,
 ⟨⟨type194,underlying194⟩,
 ⟨⟨type195,underlying195⟩,
 ⟨⟨type196,underlying196⟩,
 ⟨⟨type197,underlying197⟩,
 ⟨⟨type198,underlying198⟩,
 ⟨⟨type199,underlying199⟩,
 ⟨⟨type200,underlying200⟩,
 ⟨⟨type201,underlying201⟩,
 ⟨⟨type202,underlying202⟩,
 ⟨⟨type203,underlying203⟩,
 ⟨⟨type204,underlying204⟩,
 ⟨⟨type205,underlying205⟩,
 ⟨⟨type206,underlying206⟩,
 ⟨⟨type207,underlying207⟩,
 ⟨⟨type208,underlying208⟩,
 ⟨⟨type209,underlying209⟩,
 ⟨⟨type210,underlying210⟩,
 ⟨⟨type211,underlying211⟩,
 ⟨⟨type212,underlying212⟩,
 ⟨⟨type213,underlying213⟩,
 ⟨⟨type214,underlying214⟩,
 ⟨⟨type215,underlying215⟩,
 ⟨⟨type216,underlying216⟩,
 ⟨⟨type217,underlying217⟩,
 ⟨⟨type218,underlying218⟩,
 ⟨⟨type219,underlying219⟩,
 ⟨⟨type220,underlying220⟩,
 ⟨⟨type221,underlying221⟩,
 ⟨⟨type222,underlying222⟩,
 ⟨⟨type223,underlying223⟩,
 ⟨⟨type224,underlying224⟩,
 ⟨⟨type225,underlying225⟩,
 ⟨⟨type226,underlying226⟩,
 ⟨⟨type227,underlying227⟩,
 ⟨⟨type228,underlying228⟩,
 ⟨⟨type229,underlying229⟩,
 ⟨⟨type230,underlying230⟩,
 ⟨⟨type231,underlying231⟩,
 ⟨⟨type232,underlying232⟩,
 ⟨⟨type233,underlying233⟩,
 ⟨⟨type234,underlying234⟩,
 ⟨⟨type235,underlying235⟩,
 ⟨⟨type236,underlying236⟩,
 ⟨⟨type237,underlying237⟩,
 ⟨⟨type238,underlying238⟩,
 ⟨⟨type239,underlying239⟩,
 ⟨⟨type240,underlying240⟩,
 ⟨⟨type241,underlying241⟩,
 ⟨⟨type242,underlying242⟩,
 ⟨⟨type243,underlying243⟩,
 ⟨⟨type244,underlying244⟩,
 ⟨⟨type245,underlying245⟩,
 ⟨⟨type246,underlying246⟩,
 ⟨⟨type247,underlying247⟩,
 ⟨⟨type248,underlying248⟩,
 ⟨⟨type249,underlying249⟩,
 ⟨⟨type250,underlying250⟩,
 ⟨⟨type251,underlying251⟩,
 ⟨⟨type252,underlying252⟩,
 ⟨⟨type253,underlying253⟩,
 ⟨⟨type254,underlying254⟩,
 ⟨⟨type255,underlying255⟩,
 ⟨⟨type256,underlying256⟩,
 ⟨⟨type257,underlying257⟩,
 ⟨⟨type258,underlying258⟩,
 ⟨⟨type259,underlying259⟩,
 ⟨⟨type260,underlying260⟩,
 ⟨⟨type261,underlying261⟩,
 ⟨⟨type262,underlying262⟩,
 ⟨⟨type263,underlying263⟩,
 ⟨⟨type264,underlying264⟩,
 ⟨⟨type265,underlying265⟩,
 ⟨⟨type266,underlying266⟩,
 ⟨⟨type267,underlying267⟩,
 ⟨⟨type268,underlying268⟩,
 ⟨⟨type269,underlying269⟩,
 ⟨⟨type270,underlying270⟩,
 ⟨⟨type271,underlying271⟩,
 ⟨⟨type272,underlying272⟩,
 ⟨⟨type273,underlying273⟩,
 ⟨⟨type274,underlying274⟩,
 ⟨⟨type275,underlying275⟩,
 ⟨⟨type276,underlying276⟩,
 ⟨⟨type277,underlying277⟩,
 ⟨⟨type278,underlying278⟩,
 ⟨⟨type279,underlying279⟩,
 ⟨⟨type280,underlying280⟩,
 ⟨⟨type281,underlying281⟩,
 ⟨⟨type282,underlying282⟩,
 ⟨⟨type283,underlying283⟩,
 ⟨⟨type284,underlying284⟩,
 ⟨⟨type285,underlying285⟩,
 ⟨⟨type286,underlying286⟩,
 ⟨⟨type287,underlying287⟩,
 ⟨⟨type288,underlying288⟩,
 ⟨⟨type289,underlying289⟩,
 ⟨⟨type290,underlying290⟩,
 ⟨⟨type291,underlying291⟩,
 ⟨⟨type292,underlying292⟩,
 ⟨⟨type293,underlying293⟩,
 ⟨⟨type294,underlying294⟩,
 ⟨⟨type295,underlying295⟩,
 ⟨⟨type296,underlying296⟩,
 ⟨⟨type297,underlying297⟩,
 ⟨⟨type298,underlying298⟩,
 ⟨⟨type299,underlying299⟩,
 ⟨⟨type300,underlying300⟩,
 ⟨⟨type301,underlying301⟩,
 ⟨⟨type302,underlying302⟩,
 ⟨⟨type303,underlying303⟩,
 ⟨⟨type304,underlying304⟩,
 ⟨⟨type305,underlying305⟩,
 ⟨⟨type306,underlying306⟩,
 ⟨⟨type307,underlying307⟩,
 ⟨⟨type308,underlying308⟩,
 ⟨⟨type309,underlying309⟩,
 ⟨⟨type310,underlying310⟩,
 ⟨⟨type311,underlying311⟩,
 ⟨⟨type312,underlying312⟩,
 ⟨⟨type313,underlying313⟩,
 ⟨⟨type314,underlying314⟩,
 ⟨⟨type315,underlying315⟩,
 ⟨⟨type316,underlying316⟩,
 ⟨⟨type317,underlying317⟩,
 ⟨⟨type318,underlying318⟩,
 ⟨⟨type319,underlying319⟩,
 ⟨⟨type320,underlying320⟩,
 ⟨⟨type321,underlying321⟩,
 ⟨⟨type322,underlying322⟩,
 ⟨⟨type323,underlying323⟩,
 ⟨⟨type324,underlying324⟩,
 ⟨⟨type325,underlying325⟩,
 ⟨⟨type326,underlying326⟩,
 ⟨⟨type327,underlying327⟩,
 ⟨⟨type328,underlying328⟩,
 ⟨⟨type329,underlying329⟩,
 ⟨⟨type330,underlying330⟩,
 ⟨⟨type331,underlying331⟩,
 ⟨⟨type332,underlying332⟩,
 ⟨⟨type333,underlying333⟩,
 ⟨⟨type334,underlying334⟩,
 ⟨⟨type335,underlying335⟩,
 ⟨⟨type336,underlying336⟩,
 ⟨⟨type337,underlying337⟩,
 ⟨⟨type338,underlying338⟩,
 ⟨⟨type339,underlying339⟩,
 ⟨⟨type340,underlying340⟩,
 ⟨⟨type341,underlying341⟩,
 ⟨⟨type342,underlying342⟩,
 ⟨⟨type343,underlying343⟩,
 ⟨⟨type344,underlying344⟩,
 ⟨⟨type345,underlying345⟩,
 ⟨⟨type346,underlying346⟩,
 ⟨⟨type347,underlying347⟩,
 ⟨⟨type348,underlying348⟩,
 ⟨⟨type349,underlying349⟩,
 ⟨⟨type350,underlying350⟩,
 ⟨⟨type351,underlying351⟩,
 ⟨⟨type352,underlying352⟩,
 ⟨⟨type353,underlying353⟩,
 ⟨⟨type354,underlying354⟩,
 ⟨⟨type355,underlying355⟩,
 ⟨⟨type356,underlying356⟩,
 ⟨⟨type357,underlying357⟩,
 ⟨⟨type358,underlying358⟩,
 ⟨⟨type359,underlying359⟩,
 ⟨⟨type360,underlying360⟩,
 ⟨⟨type361,underlying361⟩,
 ⟨⟨type362,underlying362⟩,
 ⟨⟨type363,underlying363⟩,
 ⟨⟨type364,underlying364⟩,
 ⟨⟨type365,underlying365⟩,
 ⟨⟨type366,underlying366⟩,
 ⟨⟨type367,underlying367⟩,
 ⟨⟨type368,underlying368⟩,
 ⟨⟨type369,underlying369⟩,
 ⟨⟨type370,underlying370⟩,
 ⟨⟨type371,underlying371⟩,
 ⟨⟨type372,underlying372⟩,
 ⟨⟨type373,underlying373⟩,
 ⟨⟨type374,underlying374⟩,
 ⟨⟨type375,underlying375⟩,
 ⟨⟨type376,underlying376⟩,
 ⟨⟨type377,underlying377⟩,
 ⟨⟨type378,underlying378⟩,
 ⟨⟨type379,underlying379⟩,
 ⟨⟨type380,underlying380⟩,
 ⟨⟨type381,underlying381⟩,
 ⟨⟨type382,underlying382⟩,
 ⟨⟨type383,underlying383⟩,
 ⟨⟨type384,underlying384⟩,
 ⟨⟨type385,underlying385⟩,
 ⟨⟨type386,underlying386⟩,
 ⟨⟨type387,underlying387⟩,
 ⟨⟨type388,underlying388⟩,
 ⟨⟨type389,underlying389⟩,
 ⟨⟨type390,underlying390⟩,
 ⟨⟨type391,underlying391⟩,
 ⟨⟨type392,underlying392⟩,
 ⟨⟨type393,underlying393⟩,
 ⟨⟨type394,underlying394⟩,
 ⟨⟨type395,underlying395⟩,
 ⟨⟨type396,underlying396⟩,
 ⟨⟨type397,underlying397⟩,
 ⟨⟨type398,underlying398⟩,
 ⟨⟨type399,underlying399⟩,
 ⟨⟨type400,underlying400⟩,
 ⟨⟨type401,underlying401⟩,
 ⟨⟨type402,underlying402⟩,
 ⟨⟨type403,underlying403⟩,
 ⟨⟨type404,underlying404⟩,
 ⟨⟨type405,underlying405⟩,
 ⟨⟨type406,underlying406⟩,
 ⟨⟨type407,underlying407⟩,
 ⟨⟨type408,underlying408⟩,
 ⟨⟨type409,underlying409⟩,
 ⟨⟨type410,underlying410⟩,
 ⟨⟨type411,underlying411⟩,
 ⟨⟨type412,underlying412⟩,
 ⟨⟨type413,underlying413⟩,
 ⟨⟨type414,underlying414⟩,
 ⟨⟨type415,underlying415⟩,
 ⟨⟨type416,underlying416⟩,
 ⟨⟨type417,underlying417⟩,
 ⟨⟨type418,underlying418⟩,
 ⟨⟨type419,underlying419⟩,
 ⟨⟨type420,underlying420⟩,
 ⟨⟨type421,underlying421⟩,
 ⟨⟨type422,underlying422⟩,
 ⟨⟨type423,underlying423⟩,
 ⟨⟨type424,underlying424⟩,
 ⟨⟨type425,underlying425⟩,
 ⟨⟨type426,underlying426⟩,
 ⟨⟨type427,underlying427⟩,
 ⟨⟨type428,underlying428⟩,
 ⟨⟨type429,underlying429⟩,
 ⟨⟨type430,underlying430⟩,
 ⟨⟨type431,underlying431⟩,
 ⟨⟨type432,underlying432⟩,
 ⟨⟨type433,underlying433⟩,
 ⟨⟨type434,underlying434⟩,
 ⟨⟨type435,underlying435⟩,
 ⟨⟨type436,underlying436⟩,
 ⟨⟨type437,underlying437⟩,
 ⟨⟨type438,underlying438⟩,
 ⟨⟨type439,underlying439⟩,
 ⟨⟨type440,underlying440⟩,
 ⟨⟨type441,underlying441⟩,
 ⟨⟨type442,underlying442⟩,
 ⟨⟨type443,underlying443⟩,
 ⟨⟨type444,underlying444⟩,
 ⟨⟨type445,underlying445⟩,
 ⟨⟨type446,underlying446⟩,xb⟩⟩⟩⟩⟩⟩⟩⟩⟩⟩⟩⟩⟩⟩⟩⟩⟩⟩⟩⟩⟩⟩⟩⟩⟩⟩⟩⟩⟩⟩⟩⟩⟩⟩⟩⟩⟩⟩⟩⟩⟩⟩⟩⟩⟩⟩⟩⟩⟩⟩⟩⟩⟩⟩⟩⟩⟩⟩⟩⟩⟩⟩⟩⟩⟩⟩⟩⟩⟩⟩⟩⟩⟩⟩⟩⟩⟩⟩⟩⟩⟩⟩⟩⟩⟩⟩⟩⟩⟩⟩⟩⟩⟩⟩⟩⟩⟩⟩⟩⟩⟩⟩⟩⟩⟩⟩⟩⟩⟩⟩⟩⟩⟩⟩⟩⟩⟩⟩⟩⟩⟩⟩⟩⟩⟩⟩⟩⟩⟩⟩⟩⟩⟩⟩⟩⟩⟩⟩⟩⟩⟩⟩⟩⟩⟩⟩⟩⟩⟩⟩⟩⟩⟩⟩⟩⟩⟩⟩⟩⟩⟩⟩⟩⟩⟩⟩⟩⟩⟩⟩⟩⟩⟩⟩⟩⟩⟩⟩⟩⟩⟩⟩⟩⟩⟩⟩⟩⟩⟩⟩⟩⟩⟩⟩⟩⟩⟩⟩⟩⟩⟩⟩⟩⟩⟩⟩⟩⟩⟩⟩⟩⟩⟩⟩⟩⟩⟩⟩⟩⟩⟩⟩⟩⟩⟩⟩⟩⟩⟩⟩⟩⟩⟩⟩⟩⟩⟩⟩⟩⟩⟩⟩⟩⟩⟩⟩⟩⟩⟩⟩⟩⟩⟩⟩⟩⟩⟩⟩⟩⟩⟩⟩⟩⟩⟩⟩⟩⟩⟩⟩⟩⟩⟩⟩⟩⟩⟩⟩⟩⟩⟩⟩⟩⟩⟩⟩⟩⟩⟩⟩⟩⟩⟩⟩⟩⟩⟩⟩⟩⟩⟩⟩⟩⟩⟩⟩⟩⟩⟩⟩⟩⟩⟩⟩⟩⟩⟩⟩⟩⟩⟩⟩⟩⟩⟩⟩⟩⟩⟩⟩⟩⟩⟩⟩⟩⟩⟩⟩⟩⟩⟩⟩⟩⟩⟩⟩⟩⟩⟩⟩⟩⟩⟩⟩⟩⟩⟩⟩⟩⟩⟩⟩⟩⟩⟩⟩⟩⟩⟩⟩⟩⟩⟩⟩⟩⟩⟩⟩⟩⟩⟩⟩⟩⟩⟩⟩⟩⟩⟩⟩⟩⟩⟩⟩⟩⟩⟩⟩⟩⟩⟩⟩⟩⟩⟩⟩⟩⟩⟩⟩⟩⟩⟩⟩⟩⟩⟩⟩⟩⟩⟩⟩⟩⟩⟩⟩⟩⟩⟩⟩⟩⟩⟩⟩⟩⟩⟩⟩⟩⟩⟩⟩⟩⟩⟩⟩⟩)
theorem mixed:prog.follows .mixedOrders=true:=by kernel_rfl
end Go.Proofs.YtggfpcfkbilkmaaGreatDoor.Sx


namespace Go.Proofs.YtggfpcfkbilkmaaGreatDoor
open Go Go.RowKit Sx
variable{ts:Array TypeId}{k:IntKind}{K:Value->Prop}
theorem N.min2{t:TypeId}{x y:Int}(h:K (.int k (min x y))):N (qn4 prog .min ts t [.int k x,.int k y] K):=by
 refine N.mk ⟨.int k (min x y),⟨rfl,rfl,λcs w=>?_⟩,h⟩;have e:(if y<x then y else x)=min x y:=by split<;>omega
 show(do pure (Next.value (<-Builtin.min_ ts t #[.int k x,.int k y])):Sem _).run prog w=_;rw[Sem.run_bind,run_min_int2,e];rfl
theorem N.max2{t:TypeId}{x y:Int}(h:K (.int k (max x y))):N (qn4 prog .max ts t [.int k x,.int k y] K):=by
 refine N.mk ⟨.int k (max x y),⟨rfl,rfl,λcs w=>?_⟩,h⟩;have e:(if y > x then y else x)=max x y:=by split<;>omega
 show(do pure (Next.value (<-Builtin.max_ ts t #[.int k x,.int k y])):Sem _).run prog w=_;rw[Sem.run_bind,run_max_int2,e];rfl
noncomputable def Roll(A:q4h)(Q:Exit->St->Prop)(k:Nat):St->Prop:=Nat.rec (motive:=λ_=>St->Prop) (λ_=>False) (λ_ W st=>A (thenQ W Q) st) k
theorem Bq{P:Program}{G:Tys}{n0:Nat}{c:Code}{A:(Exit->St->Prop)->St->Prop}{Q:Exit->St->Prop}{st:St}(k:Nat)(h:Roll A Q k st):N (q5z P G n0 c A Q st):=
 N.mk ⟨(k:Nat)×{s:St // Roll A Q k s},λx=>x.2.1,λ_=>True,λx=>x.1,λx s=>∃j,x.1=j+1/\Roll A Q j s,λx s hx=>by
  obtain⟨j,hj,hr⟩:=hx;refine⟨⟨j,s,hr⟩,xb,?_,by show j<x.1;omega⟩;exact(Wk.refl _ _).g,⟨⟨k,st,h⟩,xb,(Wk.refl _ _).g⟩,λx _=>by
  obtain⟨k,s,hs⟩:=x;cases k with
  | zero=>exact hs.elim
  | succ j=>
   have:(λs'=>∃i,j+1=i+1/\Roll A Q i s')=Roll A Q j:=by
    funext s';refine propext ⟨fun⟨i,hi,hr⟩=>?_,λhr=>⟨j,rfl,hr⟩⟩;have:j=i:=by simpa using hi
    subst this;exact hr
   show A (thenQ (λs'=>∃i,j+1=i+1/\Roll A Q i s') Q) s;rw[this];exact hs⟩
theorem Tryz.own:ownKnob prog.godebug=none:=by kernel_rfl
theorem Tryz.laidOut:laidOutB prog=true:=by kernel_rfl
abbrev q5l(s:Int):Prop:=0<=s/\s<=65535
theorem qvi(x:Int):IntKind.i64.wrap ((BitVec.ofInt IntKind.i64.bits x &&& BitVec.ofInt IntKind.i64.bits 65535).toNat:Nat)=x%65536:=by
 have h1:(BitVec.ofInt IntKind.i64.bits 65535).toNat=2^16-1:=by decide
 have h2:(BitVec.ofInt IntKind.i64.bits x &&& BitVec.ofInt IntKind.i64.bits 65535).toNat=(BitVec.ofInt IntKind.i64.bits x).toNat%65536:=by
  rw[BitVec.toNat_and,h1,Nat.and_two_pow_sub_one_eq_mod]
 have h3:((BitVec.ofInt IntKind.i64.bits x).toNat:Int)=x%18446744073709551616:=by
  rw[BitVec.toNat_ofInt];have:(0:Int)<=x%((2^IntKind.i64.bits:Nat):Int):=Int.emod_nonneg _ Q4T;rw[Int.toNat_of_nonneg this];rfl
 rw[h2,yt];omega
theorem qvj(s:Int)(w:World):xa 46 #[xc s] w (.bool (decide (q5l s))):=by
 refine qah (G:=tys) w tysOK mixed func46 Q4R Q4S Q4Q ?_;repeat' (refine Ba ?_;first|refine Q2O ?_|refine Q2M ?_|with_reducible refine Bn (λhb=>?_) (λhb=>?_)|fail)
 all_goals
  refine q4w ?_
  simp only[xu,xD,xC,false_iff,true_iff,iff_true,iff_false,reduceCtorEq,yf,xv,yg,yh] at *
  omega
theorem qni(s:Int)(h:Hp):qae prog 46 [xc s] h (.bool (decide (q5l s))) [] []:=qaj rfl rfl (call46 _) (qvj s)
open Go Go.RowKit Sx
abbrev noC:Chunk:=⟨false,0,[]⟩
structure Win where
 any:Bool
 last:Int
 seen:Nat
def Win.zero:Win:=⟨false,0,0⟩
structure Ent where
 node:Int
 boot:Int
 heard:Int
 has:Bool
 x:Int
 y:Int
 a:Int
 b:Int
 d:Int
 when_:Int
abbrev _root_.Go.Proofs.Ez:=List (Int×Ent)
def Ent.zero:Ent:=⟨0,0,0,false,0,0,0,0,0,0⟩
abbrev q4r(e:Ent):Value:=.agg ⟨[xc e.node,xc e.boot,xc e.heard,.bool e.has,xc e.x,xc e.y,xc e.a,xc e.b,xc e.d,xc e.when_]⟩
structure jcj where
 boot:Int
 left:Bool
 q:Nat×Nat
abbrev jaw(l:jcj):Value:=.agg ⟨[xc l.boot,.bool l.left,q3z l.q]⟩
structure jck where
 boot:Int
 left:Bool
 W:Win
structure Tbl where
 most:Int
 E:Ez
 lives:Int->Option jck
def jax(W:Win)(j:Nat):Value:=match j with
 | 0=>.bool W.any
 | 1=>.int .i64 W.last
 | _=>.int .u64 (W.seen:Int)
structure LB where
 D:List (Int×jcj)
 F:List ((Nat×Nat)×Win)
def qgc(lv:Int->Option jck)(β:LB):Prop:=
 (∀n,dGet β.D n=none->lv n=none)/\(∀n r,dGet β.D n=some r->∃W,(r.q,W)∈β.F/\lv n=some ⟨r.boot,r.left,W⟩)/\
 ∀n m r s,dGet β.D n=some r->dGet β.D m=some s->r.q=s.q->n=m
abbrev mainC(F:List ((Nat×Nat)×Win))(most:Int):Chunk:=@Chunk.mk (q95 3 jax F) true 3 [(0,3,.agg ⟨[xc most,.map (some 1),.map (some 2)]⟩)]
abbrev q97(T:Tbl)(β:LB):Hp:=[some (mainC β.F T.most),some (q49 q4r T.E),some (q49 jaw β.D)]
abbrev tblC(T:Tbl):Chunk:=packC (qgc T.lives) (q97 T)
def Tbl.new(most:Int):Tbl:=⟨max 1 (min most 64),[],λ_=>none⟩
theorem qzf{ix:Lz}{F:List ((Nat×Nat)×Win)}{most:Int}{c:Chunk}{i j:Nat}(h0:c.f 0=xc most)(h1:c.f 1=.map (some i))(h2:c.f 2=.map (some j))(hi:ixK ix 1=some i)(hj:ixK ix 2=some j):∀l,l<3->Re1 ix (c.f l) ((mainC F most).f l):=λl hl=>by
 match l,hl with
 | 0,_=>rw[h0];exact .plain rfl
 | 1,_=>rw[h1];exact .map hi
 | 2,_=>rw[h2];exact .map hj
theorem qjw{ss:List q3w}{h:Hp}{v:Value}{K:Value->Hp->Prop}(T:Tbl)(β:LB)(m i j:Nat)(keep:List Nat){c:Chunk}(hpc:∀l,(l=m\/l=i\/l=j)->l<ss.length->∃s,ss[l]?=some s/\s.e.x≠Ext.none/\Selfish s.e.x)(hbs:∀i,i<ss.length->i=m\/i∈keep)(hok:qgc T.lives β)
  (hm:h[m]?=some (some c)) (ho:c.own=true) (hn:c.n=3) (hx:c.x=q95 3 jax β.F) (h0:c.f 0=xc T.most) (h1:c.f 1=.map (some i)) (h2:c.f 2=.map (some j)) (hi:h[i]?=some (some (q49 q4r T.E))) (hj:h[j]?=some (some (q49 jaw β.D))) (hd:m≠i/\m≠j/\i≠j)
  (hkk:∀k∈keep,k≠m/\k≠i/\k≠j) (hkd:∀k∈keep,∀(d:Chunk),h[k]?=some (some d)->∀l,l<d.n->Safe1 (qa5 (tblC T) m keep h 0) (d.f l))
  (hv:∀ρ ρ',AgreeOn (Fil (qa5 (tblC T) m keep h 0)) ρ ρ'->den ρ' v=den ρ v) (kk:K v (qa5 (tblC T) m keep h 0)):N (q51 ss h v K):=by
 refine qgo (ok:=qgc T.lives) (hB:=q97 T) β m [(0,m),(1,i),(2,j)] keep (λk l hk hl=>hpc l ?_ hl) hbs hok rfl ⟨_,rfl⟩ ?_ rfl ?_ (λk hk l i' hm'=>?_) hkd hv (xe.1 hm).1 kk
 .grind
 .have nb:∀a b:Nat,a≠b->Nat.beq a b=false:=λa b hab=>by
   grind[xF]
  grind[q5k]
 .intro k d hk
  match k,hk with
  | 0,hk=>
   obtain rfl:_=d:=by simpa using hk
   exact⟨m,c,rfl,hm,ho,by rw[hn];exact nlr _,qzf h0 h1 h2 rfl rfl,.inr hx.symm,.inl Q4P⟩
  | 1,hk=>
   obtain rfl:_=d:=by simpa using hk
   exact⟨i,_,rfl,hi,rfl,nlr _,nzj,.inr rfl,.inr qgn⟩
  | 2,hk=>
   obtain rfl:_=d:=by simpa using hk
   exact⟨j,_,rfl,hj,rfl,nlr _,nzj,.inr rfl,.inr qgn⟩
  | k+3,hk=>simp at hk
 .grind
theorem qvk:qgc (λ_=>none) ⟨[],[]⟩:=⟨λ_ _=>rfl,λ_ _ h=>by simp[dGet] at h,λ_ _ _ _ h=>by simp[dGet] at h⟩
theorem qfr{v:Value}(h:qar v=true){F:Nat->Prop}:∀ρ ρ',AgreeOn F ρ ρ'->den ρ' v=den ρ v:=by grind[qa7]
theorem qzg(T:Tbl):(tblC T).x≠Ext.none:=λe=>by
 have h1:∀p S w,(tblC T).x.inv p S w->S p.1:=qao;exact Q1t
theorem ql5{i:Nat}{T T':Tbl}:∀l,(l=0\/l=1\/l=2)->l<[(⟨i,tblC T,tblC T,tblC T'⟩:q3w)].length->∃s,[(⟨i,tblC T,tblC T,tblC T'⟩:q3w)][l]?=some s/\s.e.x≠Ext.none/\Selfish s.e.x:=λl _ hl=>by
 obtain rfl:l=0:=by simpa using hl
 exact⟨_,rfl,qzg T,qao⟩
theorem q8w{h:Hp}{T:Tbl}{m:Nat}:∀k∈([]:List Nat),∀(d:Chunk),h[k]?=some (some d)->∀l,l<d.n->Safe1 (qa5 (tblC T) m [] h 0) (d.f l):=by simp
theorem jay(most:Int)(k:Nat)(h:Hp)(hk:h[k]?=some none):
  qae prog 50 [xc most] h (xd k) [(k,tblC (Tbl.new most))] []:=by
 refine qay (G:=tys) (λ_:Unit=>True) (λ_=>[]) [] [⟨k,10,tblC (Tbl.new most)⟩] [xc most] tysOK mixed func50 Q4R (call50) xb xb xb xb ⟨⟨hk,rfl,.inr qao,by simp⟩,xb⟩ ⟨.plain rfl,xb⟩ Opens.same ?_
 rintro⟨⟩ -
 repeat' (refine Ba ?_;first|refine Q2O ?_|refine Q2M ?_|refine Q3y ?_|fail)
 refine Ba ?_
 refine qr5 q4r ?_
 repeat' (refine Ba ?_;first|refine Q2O ?_|refine Q2M ?_|refine Q3y ?_|fail)
 refine Ba ?_
 refine qr5 jaw ?_
 repeat' (refine Ba ?_;first|refine Q2O ?_|refine Q2M ?_|refine Q3y ?_|fail)
 refine Ba ?_
 refine qvh 3 jax (k:=10) Q4R ?_
 refine qjw (Tbl.new most) ⟨[],[]⟩ 10 8 9 [] (λ_ _ hl=>absurd hl Q50) (λi hi=>absurd hi Q50) qvk Q4R Q4R Q4R Q4R Q4R Q4R Q4R Q4R Q4R Q4T (λk hk=>by cases hk) q8w (λρ ρ' ha=>by have:=ha 10 ⟨_,rfl⟩;simp[den,den2,den1,den0,q4a,this]) ?_
 refine Bb (.one (.ptr rfl)) ?_
 refine Bb xb ?_
 refine Bb ⟨⟨xo _,_,rfl,id,nlr _,nzj⟩,xb⟩ ?_
 refine Bb Q4G ?_
 exact Bd
end Go.Proofs.YtggfpcfkbilkmaaGreatDoor


namespace Go.Proofs
open Go.Shelf
def Tryz.keysA_ren:Go.Shelf.Ren:=⟨fun|7=>120|10=>151|n=>n,fun|23=>143|26=>3|3=>131|28=>194|0=>0|27=>193|33=>92|4=>4|n=>n,fun|n=>n⟩
theorem Tryz.keysA:Go.Proofs.SlLaysZI.n7 prog Tryz.keysA_ren:={
 mixed:=by kernel_rfl
 f7:=⟨Tryz.f120.name,by decide,func120.trans (congrArg some Q4U)⟩
 f10:=⟨Tryz.f151.name,by decide,func151.trans (congrArg some Q4U)⟩
 t0:=underlying0
 a0:=Tryz.isAgg0
 z0:=Tryz.sizeOf0
 v0:=Tryz.zeroValue0
 t4:=underlying4
 a4:=Tryz.isAgg4
 z4:=Tryz.sizeOf4
 v4:=Tryz.zeroValue4
 t23:=underlying143
 a23:=Tryz.isAgg143
 z23:=Tryz.sizeOf143
 v23:=Tryz.zeroValue143
 t26:=underlying3
 a26:=Tryz.isAgg3
 z26:=Tryz.sizeOf3
 v26:=Tryz.zeroValue3
 t27:=underlying193
 a27:=Tryz.isAgg193
 z27:=Tryz.sizeOf193
 v27:=Tryz.zeroValue193
 t28:=underlying194
 a28:=Tryz.isAgg194
 z28:=Tryz.sizeOf194
 v28:=Tryz.zeroValue194
 t33:=underlying92
 a33:=Tryz.isAgg92
 z33:=Tryz.sizeOf92
 v33:=Tryz.zeroValue92 }
def Tryz.sortedA_ren:Go.Shelf.Ren:=⟨fun|6=>119|8=>149|9=>150|11=>190|13=>192|12=>191|23=>231|24=>84|14=>222|15=>223|16=>224|17=>225|18=>226|19=>227|20=>228|21=>229|22=>230|25=>258|26=>259|27=>260|28=>261|29=>262|30=>263|31=>290|n=>n,fun|26=>3|28=>194|24=>191|0=>0|3=>3|37=>126|48=>159|50=>31|4=>4|40=>312|39=>311|45=>295|5=>5|9=>9|51=>341|55=>345|57=>371|58=>372|33=>92|n=>n,fun|n=>n⟩
theorem Tryz.sortedA:Go.Proofs.SlLaysZI.n6 prog Tryz.sortedA_ren:={
 mixed:=by kernel_rfl
 f6:=⟨Tryz.f119.name,by decide,func119.trans (congrArg some Q4U)⟩
 f8:=⟨Tryz.f149.name,by decide,func149.trans (congrArg some Q4U)⟩
 f11:=⟨Tryz.f190.name,by decide,func190.trans (congrArg some Q4U)⟩
 t0:=underlying0
 a0:=Tryz.isAgg0
 z0:=Tryz.sizeOf0
 v0:=Tryz.zeroValue0
 t24:=underlying191
 a24:=Tryz.isAgg191
 z24:=Tryz.sizeOf191
 v24:=Tryz.zeroValue191
 t26:=underlying3
 a26:=Tryz.isAgg3
 z26:=Tryz.sizeOf3
 v26:=Tryz.zeroValue3
 t28:=underlying194
 a28:=Tryz.isAgg194
 z28:=Tryz.sizeOf194
 v28:=Tryz.zeroValue194
 i26:=by kernel_rfl }
def Tryz.sortA_ren:Go.Shelf.Ren:=⟨fun|5=>150|8=>192|7=>191|19=>231|20=>84|10=>222|11=>223|12=>224|13=>225|14=>226|15=>227|16=>228|17=>229|18=>230|30=>258|31=>259|32=>260|33=>261|34=>262|35=>263|40=>290|n=>n,fun|23=>191|25=>3|3=>3|32=>126|22=>191|0=>0|44=>159|46=>31|4=>4|36=>312|35=>311|41=>295|5=>5|9=>9|53=>341|57=>345|63=>371|64=>372|n=>n,fun|n=>n⟩
theorem Tryz.sortA:Go.Proofs.SlLaysM.n5 prog Tryz.sortA_ren:={
 mixed:=by kernel_rfl
 f5:=⟨Tryz.f150.name,by decide,func150.trans (congrArg some Q4U)⟩
 f7:=⟨Tryz.f191.name,by decide,func191.trans (congrArg some Q4U)⟩
 f8:=func192.trans (congrArg some Q4U)
 f10:=⟨Tryz.f222.name,by decide,func222.trans (congrArg some Q4U)⟩
 f11:=⟨Tryz.f223.name,by decide,func223.trans (congrArg some Q4U)⟩
 f12:=⟨Tryz.f224.name,by decide,func224.trans (congrArg some Q4U)⟩
 f13:=⟨Tryz.f225.name,by decide,func225.trans (congrArg some Q4U)⟩
 f14:=⟨Tryz.f226.name,by decide,func226.trans (congrArg some Q4U)⟩
 f15:=⟨Tryz.f227.name,by decide,func227.trans (congrArg some Q4U)⟩
 f16:=⟨Tryz.f228.name,by decide,func228.trans (congrArg some Q4U)⟩
 f17:=⟨Tryz.f229.name,by decide,func229.trans (congrArg some Q4U)⟩
 f18:=⟨Tryz.f230.name,by decide,func230.trans (congrArg some Q4U)⟩
 f19:=func231.trans (congrArg some Q4U)
 f20:=func84.trans (congrArg some Q4U)
 f30:=⟨Tryz.f258.name,by decide,func258.trans (congrArg some Q4U)⟩
 f31:=func259.trans (congrArg some Q4U)
 f32:=func260.trans (congrArg some Q4U)
 f33:=⟨Tryz.f261.name,by decide,func261.trans (congrArg some Q4U)⟩
 f34:=⟨Tryz.f262.name,by decide,func262.trans (congrArg some Q4U)⟩
 f35:=⟨Tryz.f263.name,by decide,func263.trans (congrArg some Q4U)⟩
 f40:=⟨Tryz.f290.name,by decide,func290.trans (congrArg some Q4U)⟩
 t0:=underlying0
 a0:=Tryz.isAgg0
 z0:=Tryz.sizeOf0
 v0:=Tryz.zeroValue0
 t3:=underlying3
 a3:=Tryz.isAgg3
 z3:=Tryz.sizeOf3
 v3:=Tryz.zeroValue3
 t4:=underlying4
 a4:=Tryz.isAgg4
 z4:=Tryz.sizeOf4
 v4:=Tryz.zeroValue4
 t5:=underlying5
 a5:=Tryz.isAgg5
 z5:=Tryz.sizeOf5
 v5:=Tryz.zeroValue5
 t9:=underlying9
 a9:=Tryz.isAgg9
 z9:=Tryz.sizeOf9
 v9:=Tryz.zeroValue9
 t22:=underlying191
 a22:=Tryz.isAgg191
 z22:=Tryz.sizeOf191
 v22:=Tryz.zeroValue191
 t23:=underlying191
 a23:=Tryz.isAgg191
 z23:=Tryz.sizeOf191
 v23:=Tryz.zeroValue191
 t25:=underlying3
 a25:=Tryz.isAgg3
 z25:=Tryz.sizeOf3
 v25:=Tryz.zeroValue3
 t32:=underlying126
 a32:=Tryz.isAgg126
 z32:=Tryz.sizeOf126
 v32:=Tryz.zeroValue126
 t35:=underlying311
 a35:=Tryz.isAgg311
 z35:=Tryz.sizeOf311
 v35:=Tryz.zeroValue311
 t36:=underlying312
 a36:=Tryz.isAgg312
 z36:=Tryz.sizeOf312
 v36:=Tryz.zeroValue312
 t41:=underlying295
 a41:=Tryz.isAgg295
 z41:=Tryz.sizeOf295
 v41:=Tryz.zeroValue295
 t44:=underlying159
 a44:=Tryz.isAgg159
 z44:=Tryz.sizeOf159
 v44:=Tryz.zeroValue159
 t46:=underlying31
 a46:=Tryz.isAgg31
 z46:=Tryz.sizeOf31
 v46:=Tryz.zeroValue31
 t53:=underlying341
 a53:=Tryz.isAgg341
 z53:=Tryz.sizeOf341
 v53:=Tryz.zeroValue341
 t57:=underlying345
 a57:=Tryz.isAgg345
 z57:=Tryz.sizeOf345
 v57:=Tryz.zeroValue345
 t63:=underlying371
 a63:=Tryz.isAgg371
 z63:=Tryz.sizeOf371
 v63:=Tryz.zeroValue371
 t64:=underlying372
 a64:=Tryz.isAgg372
 z64:=Tryz.sizeOf372
 v64:=Tryz.zeroValue372 }
end Go.Proofs


namespace Go.Proofs.YtggfpcfkbilkmaaGreatDoor
open Go Go.RowKit Sx
theorem HOK.newB{X:Ctx}{ρ:Rz}{h:Hp}{w w':World}{i g:Nat}{d:Chunk}(H:HOK X ρ h w)(hi:h[i]?=some none)(hB:Below w.heap.size w w')(hg:w.heap.size<=g/\g<w'.heap.size)(hx:d.x=Ext.none)
  (hc:∀j,j<d.n->w'.cell? ⟨g,j,none⟩=some (d.f j)/\qa2 (d.f j)=true/\w'.frozen? ⟨g,j,none⟩=false):∃ρ',AgreeOn (Fil h) ρ ρ'/\ρ' i=(g,0)/\HOK X ρ' (h.set i (some d)) w':=by
 have H2:=H.frame hB
 obtain⟨S,E⟩:=H.ext
 obtain⟨S2,E2⟩:=H2.ext
 have hl:=(xe.1 hi).1
 have nf:¬ Fil h i:=fun⟨d,hd⟩=>by rw[hi] at hd;cases hd
 let ρ':Nat->Nat×Nat:=λk=>if k=i then (g,0) else ρ k
 have hag:AgreeOn (Fil h) ρ ρ':=λk hk=>by
  grind
 have hρi:ρ' i=(g,0):=if_pos rfl
 have hρk:∀k,k≠i->ρ' k=ρ k:=λk hk=>if_neg hk
 have get:∀k e,(h.set i (some d))[k]?=some (some e)->(k=i/\e=d)\/(k≠i/\h[k]?=some (some e)):=λk e hk=>by
  grind
 have fil:∀k,Fil h k->Fil (h.set i (some d)) k:=λk hk=>hk.set
 refine⟨ρ',hag,hρi,H2.evo,λk hk=>⟨fil k (H2.base k hk).1,?_⟩,λk e hk=>?_,λk e hk j hj=>?_,λk e hk hoe j hj=>?_,λk e l f hk hoe hlf hne=>?_,?_⟩
 .rw[hag k (H2.base k hk).1];exact(H2.base k hk).2
 .exact Q29
 .rcases get k e hk with ⟨rfl,rfl⟩|⟨hne,hk⟩
  .grind[Den1.plain]
  exact Q2c
 .rcases get k e hk with ⟨rfl,rfl⟩|⟨hne,hk⟩
  .rw[hρi];exact⟨by simpa using (hc j hj).2.2,.inl (xH H.evo.size hg.1)⟩
  .rw[hρk k hne];exact H2.own _ _ hk hoe j hj
 .exact Q19
 .refine⟨λk b=>k≠i/\S k b,λk e hk=>?_,λk e b hk hS=>?_,λk e b l f hk hS hl' hne=>?_⟩
  .rcases get k e hk with ⟨rfl,rfl⟩|⟨hne,hk⟩
   .rw[hx];exact λb hb=>hb.1 rfl
   .have:(λb=>k≠i/\S k b)=S k:=by funext b;exact propext ⟨λh=>h.2,λh=>⟨hne,h⟩⟩
    exact Q26
  .rcases get k e hk with ⟨rfl,rfl⟩|⟨hne,hk⟩
   .omega
   exact Q28
  .rcases get k e hk with ⟨rfl,rfl⟩|⟨hk1,hk⟩
   .omega
   .have hlt:=(E.mine k e b hk hS.2).2.1;exact Q1L
theorem wfI{a:Int}(h : -9223372036854775808<=a/\a<=9223372036854775807):(Lit.int .i64 a).wf=true:=by
 have h1:IntKind.min .i64 = -9223372036854775808:=by decide
 have h2:IntKind.max .i64=9223372036854775807:=by decide
 simp only[Lit.wf,h1,h2,xi,xu];exact h
theorem Tryz.sortsA(m:Nat):AnyZI.SortsIn prog Tryz.sortedA_ren Fence.wide m:=
 ⟨λblk off cap ss W hH hblk hsz=>callsIn_wide.2 (AnyM.slices_Sort_int Tryz.sortA blk off cap ss W hH hblk hsz),
  λp cap W=>callsIn_wide.2 (AnyM.slices_Sort_int_none Tryz.sortA p cap W)⟩
abbrev qxw:FuncId:=120
abbrev ql6:FuncId:=151
abbrev qox:FuncId:=119
theorem q1p(mb:Option Nat)(W:World):Calls prog qxw #[.map mb] W λe w'=>e=.returned (.func (.func ql6) #[] #[.pointer (some ⟨W.heap.size,0,none⟩)])/\w'=W.alloc (.cells #[.map mb] 143):=
 callsIn_wide.1 (AnyZI.keys_in Tryz.keysA Fence.wide 5 xb rfl mb W)
theorem qgd{H:Type}:∀l:List (Lit×DataW H),(l.foldr DataW.insert []).Perm l
 | []=>.nil
 | x::l=>(WideShapes.insert_perm x _).trans ((qgd l).cons x)
abbrev leZ:Int->Int->Bool:=λx y=>decide (x<=y)
def sortK{α:Type}(D:List (Int×α)):List Int:=(D.map (·.1)).mergeSort leZ
variable{α:Type}
theorem ql7(D:List (Int×α)):(sortK D).length=D.length:=by simp[sortK]
theorem qqc(D:List (Int×α)):(sortK D).Perm (D.map (·.1)):=List.mergeSort_perm _ _
theorem qvl{enc:α->Value}(D:List (Int×α))(B b:Nat)(W:World)(hB:B<W.heap.size)(hc:W.cell? ⟨B,0,none⟩=some (.map (some b))){es:Array MapEntry}{clock:Nat}(hb:W.heap[b]?=some (.map es clock))(M:MapIs enc D es clock)(hl:D.length<=100000):
  Calls prog qox #[.func (.func ql6) #[] #[.pointer (some ⟨B,0,none⟩)]] W λe w'=>∃v,e=.returned v/\w'.ownsRow W.heap.size 3 1 v D.length ((sortK D).map encZ)/\(v=.slice none 0 0↔D=[])/\Below W.heap.size W w':=by
 let R:Value->Option (DataW Unit×List MemPlace):=λ_=>some (.nil,[])
 let D0:DataW Unit:=.map ((es.toList.map (Go.WideElems.rg prog 3 R)).foldr DataW.insert [])
 have hk:=underlying3
 have hrd:∀x∈es.toList,∃k,x.key=.int .i64 k/\Go.WideElems.rd prog 3 R x=some (.int .i64 k,.nil):=λx hx=>by
  have:(x.key,x.val)∈es.toList.map (λe=>(e.key,e.val)):=xx.2 ⟨x,hx,rfl⟩;rw[M.ents] at this;obtain⟨q,hq,e⟩:=xx.1 this;have e1:=(Prod.mk.inj e).1.symm;have hw:=M.wf q hq;refine⟨q.1,e1,?_⟩;unfold Go.WideElems.rd;rw[e1,Maps.keyOf_int_mk hk (wfI hw)];rfl
 have hsz:=M.size
 have hown:W.ownsMap prog 3 R b es.size D0:=⟨es,clock,hb,⟨by rw[hsz];exact xH hl Q4T,M.stamped,λx hx=>by obtain⟨k,_,h2⟩:=hrd x hx;exact⟨_,h2⟩⟩,nlr _,rfl⟩
 have hD0:Maps.size D0=D.length:=by
  show((es.toList.map (Go.WideElems.rg prog 3 R)).foldr DataW.insert []).length=_;rw[(qgd _).length_eq];simp[hsz]
 have hkeys:(intKeys D0).Perm (D.map (·.1)):=by
  show(((es.toList.map (Go.WideElems.rg prog 3 R)).foldr DataW.insert []).map λp=>Go.intOf p.1).Perm _;refine((qgd _).map _).trans ?_;have e1:((es.toList.map (Go.WideElems.rg prog 3 R)).map λp=>Go.intOf p.1)=(es.toList.map λe=>e.key).map λv=>match v with|.int _ a=>a|_=>0:=by
   rw[List.map_map,List.map_map];refine xT λx hx=>?_
   obtain⟨k,h1,h2⟩:=hrd x hx;simp only[Function.comp_def,Go.WideElems.rg,h2,h1,yw,Go.intOf]
  have e2:es.toList.map (λe=>e.key)=D.map λq=>(.int .i64 q.1:Value):=Q2b
  rw[e1,e2,List.map_map];exact .refl _
 have hseq:=AnyZI.keys_gives (ρ:=Tryz.keysA_ren) { Tryz.keysA with } Fence.wide 2 xb rfl Q4P B b es.size D0 W hB hc hown
 have cS:=AnyZI.sorted_in Tryz.sortedA Fence.wide 5 xb xb xb xb rfl Q4P (Tryz.sortsA _) (enters_of func150 Q4U rfl) ql6 #[.pointer (some ⟨B,0,none⟩)] trivial (enters_of func151 Q4U rfl) _ _ (by rw[hD0];exact xH hl Q4T) (by rw[hD0];omega) W hseq
 refine(callsIn_wide.1 cS).mono ?_
 rintro e w' ⟨v,ss,rfl,hS,hrow,hnil,hbel⟩
 have hp:ss.Perm (D.map (·.1)):=hS.trans hkeys
 have hlen:ss.length=D.length:=by rw[hp.length_eq];simp
 have hsort:ss.mergeSort (λx y=>decide (x<=y))=sortK D:=mergeSort_of_perm_i hp
 rw[hsort,hlen] at hrow
 refine⟨v,rfl,hrow,hnil.trans ⟨λh=>?_,λh=>?_⟩,hbel⟩
 .rw[h] at hlen;exact yG.1 hlen.symm
 .rw[h] at hlen;exact yG.1 hlen
abbrev jcl(k:Nat):Value:=.func (.func ql6) ⟨[]⟩ ⟨[xd k]⟩
abbrev q8x(i:Nat):Chunk:=@Chunk.mk atZ true 1 [(0,1,.map (some i))]
theorem qxx(i k:Nat)(c:Chunk)(h:Hp)(hi:h[i]?=some (some c))(hk:h[k]?=some none):qae prog qxw [.map (some i)] h (jcl k) [(k,q8x i)] [i]:=λh₂ hr hm X ρ w xs H hx=>by
 have hi2:h₂[i]?=some (some c):=(hr i Q50).trans hi;have hk2:h₂[k]?=some none:=(hm _ Q3Z).trans hk;obtain⟨x,rfl⟩:∃x,xs=[x]:=by
  match xs,hx with
  | [x],_=>exact⟨x,rfl⟩
 have hx1:x=.map (some (ρ i).1):=hx.1.self.symm;refine .inr ⟨call120 _ w,?_⟩;rw[hx1];refine(q1p (some (ρ i).1) w).mono ?_;rintro e w' ⟨rfl,rfl⟩;obtain⟨ρ',ha,hρ,H'⟩:=H.alloc (c:=⟨true,1,[(0,1,.map (some i))]⟩) (xs:=#[.map (some (ρ i).1)]) (ty:=143) hk2 rfl (λj y hy=>by
  cases j with
  | zero=>
   simp at hy;subst hy;exact λr hr=>by
    have:=hr i ⟨c,hi2⟩;show den1 r (.map (some i))=_;simp[den1,den0,this]
  | succ j=>simp at hy)
 have H3:=H'.setX (k:=k) (xr (xe.1 hk2).1) atZ λS hS=>⟨by rw[hρ],hS⟩
 rw[yk] at H3;refine⟨_,rfl,ρ',ha,H3,λr hr=>?_⟩;have:=hr k ⟨q8x i,by show(h₂.set k _)[k]?=_;rw[xr (xe.1 hk2).1]⟩;simp[den,den2,den1,den0,q4a,this,hρ]
abbrev q5f(l:List Int):Chunk:=⟨true,l.length,[(0,l.length,.agg ⟨l.map (Value.int .i64)⟩)]⟩
theorem qnj{l:List Int}{j:Nat}{x:Int}(h:l[j]?=some x):(q5f l).f j=xc x:=by
 have hl:=(xe.1 h).1;show qa1 [(0,l.length,.agg ⟨l.map (Value.int .i64)⟩)] j=_;rw[qan,if_pos Q4P];simp[cellIn,h]
def jaz{α:Type}(D:List (Int×α))(k:Nat)(v:Value)(ms:Mz):Prop:=
 (D=[]/\v=.slice none 0 0/\ms=[])\/∃cap,0<D.length/\D.length<=cap/\v=.slice (some ⟨k,0,some 0⟩) D.length cap/\ms=[(k,q5f (sortK D))]
theorem qoy{enc:α->Value}(D:List (Int×α))(i l k:Nat)(c:Chunk)(h:Hp)(hi:h[i]?=some (some c))(hc:c.x=q94 enc D)(hl:h[l]?=some (some (q8x i)))(hk:h[k]?=some none)(hlen:D.length<=100000):CallAll prog qox [jcl l] h (jaz D k):=λX ρ w xs H hx=>by
 obtain⟨x,rfl⟩:∃x,xs=[x]:=by
  match xs,hx with
  | [x],_=>exact⟨x,rfl⟩
 obtain⟨S,E⟩:=H.ext;have hz:(ρ l).2=0:=(E.inv l _ hl).1;have hx1:x=.func (.func ql6) #[] #[.pointer (some ⟨(ρ l).1,0,none⟩)]:=by
  rw[<-hx.1.self];simp[den,den2,den1,den0,q4a,hz]
 obtain⟨hS,es,clock,hb,M⟩:(∀b,S i b↔b=(ρ i).1)/\∃es clock,w.heap[(ρ i).1]?=some (.map es clock)/\MapIs enc D es clock:=by have:=E.inv i c hi;rw[hc] at this;exact this
 have hcell:w.cell? ⟨(ρ l).1,0,none⟩=some (.map (some (ρ i).1)):=by
  obtain⟨y,hy,hd⟩:=H.cell l _ hl 0 (by show 0<1;decide);rw[hz] at hy;have:=hd.self;rw[hy,<-this];rfl
 refine .inr ⟨call119 _ w,?_⟩;rw[hx1];refine(qvl D (ρ l).1 (ρ i).1 w (H.lt l _ hl) hcell hb M hlen).mono ?_;rintro e w' ⟨v,rfl,⟨_,hrow⟩,hnil,hbel⟩;rcases hrow with ⟨rfl,h0⟩|⟨g,cap,cur,rfl,hbase,hg,hcap,hmax,hsz,htake⟩
 .exact⟨_,rfl,.slice none 0 0,[],ρ,.inl ⟨yG.1 h0,rfl,rfl⟩,AgreeOn.refl _ _,H.frame hbel,λr _=>rfl⟩
 .have hpos:0<D.length:=by
   rcases y2 D.length with h0|h0
   .have:=hnil.2 (yG.1 h0);cases this
   .exact h0
  have hlt:g<w'.heap.size:=(xI.1 hg).1;rw[xU] at htake hsz;obtain⟨ρ',ha,hρ,H'⟩:=HOK.newB (d:=q5f (sortK D)) H hk hbel ⟨hbase,hlt⟩ rfl (λj hj=>by
   have hj:j<(sortK D).length:=hj;have e1:(sortK D)[j]?=some (sortK D)[j]:=by simp[hj]
   rw[qnj e1];refine⟨?_,rfl,by simp[World.frozen?,hg]⟩;have h1:(cur.toList.take D.length)[j]?=((sortK D).map encZ)[j]?:=by rw[htake]
   rw[List.getElem?_take_of_lt (by rw[<-ql7 D];exact hj)] at h1;simp only[World.cell?,hg];simp only[Option.isSome_none,xC,if_false];rw[<-Array.getElem?_toList,h1];simp[hj])
  refine⟨_,rfl,.slice (some ⟨k,0,some 0⟩) D.length cap,[(k,q5f (sortK D))],ρ',.inr ⟨cap,hpos,hcap,rfl,rfl⟩,ha,H',λr hr=>?_⟩;have:=hr k ⟨q5f (sortK D),by show(h.set k _)[k]?=_;rw[xr (xe.1 hk).1]⟩;simp[den,den2,den1,den0,q4a,this,hρ]
end Go.Proofs.YtggfpcfkbilkmaaGreatDoor


namespace Go.Proofs.YtggfpcfkbilkmaaGreatDoor.Sx
open Go Go.RowKit
def ixI:Lz->Nat->Option Nat
 | [],_=>none
 | (k,i)::r,n=>match Nat.beq i n with
  | true=>some k
  | false=>ixI r n
def qoz:Lz->Nat->Nat->Bool
 | [],_,_=>true
 | (k,i)::r,a,b=>(!Nat.beq k a && !Nat.beq i b)&&qoz r a b
def q70:Lz->Bool
 | []=>true
 | (k,i)::r=>qoz r k i&&q70 r
def ql8(ix:Lz):Nat->Bool
 | 0=>true
 | n+1=>(match ixI ix n with
  | some k=>Nat.beq k n
  | none=>false)&&ql8 ix n
def q6n(h:Hp):Lz->Bool
 | []=>true
 | (_,i)::r=>q7x h i&&q6n h r
theorem qge:∀{ix:Lz}{a b:Nat},qoz ix a b=true->∀k i,(k,i)∈ix->k≠a/\i≠b
 | [],_,_,_,k,i,h=>by simp at h
 | (x,y)::r,a,b,h,k,i,hm=>by
  simp only[qoz,xi,Bool.not_eq_true'] at h;rcases xf.1 hm with e|hm
  .simp only[Prod.mk.injEq] at e;obtain⟨rfl,rfl⟩:=e;exact⟨λe=>by subst e;simp at h,λe=>by subst e;simp at h⟩
  .exact qge h.2 k i hm
theorem qdi:∀{ix:Lz},q70 ix=true->∀k i k' i',(k,i)∈ix->(k',i')∈ix->((k=k'\/i=i')->k=k'/\i=i')
 | [],_,k,i,k',i',h,_,_=>by simp at h
 | (x,y)::r,hn,k,i,k',i',h,h',he=>by
  simp only[q70,xi] at hn;rcases xf.1 h with e|hm<;>rcases xf.1 h' with e'|hm'
  .simp_all
  .grind[qge]
  .grind[qge]
  .exact qdi hn.2 k i k' i' hm hm' he
theorem qnk:∀{ix:Lz}{i k:Nat},ixI ix i=some k->(k,i)∈ix
 | [],_,_,h=>by cases h
 | (a,b)::r,i,k,h=>by
  simp only[ixI] at h;cases e:Nat.beq b i with
  | true=>
   simp_all
  | false=>rw[e] at h;exact ym _ (qnk h)
theorem qxy:∀{ix:Lz}{i k:Nat},q70 ix=true->(k,i)∈ix->ixI ix i=some k
 | [],_,_,_,h=>by simp at h
 | (a,b)::r,i,k,hn,h=>by
  simp only[ixI];cases e:Nat.beq b i with
  | true=>
   grind[xF,qdi]
  | false=>
   simp only[q70,xi] at hn;rcases xf.1 h with e'|hm
   .simp_all
   .exact qxy hn.2 hm
theorem qiz{ix:Lz}:∀{n:Nat},ql8 ix n=true->∀i,i<n->ixI ix i=some i
 | 0,_,i,h=>absurd h Q4P
 | n+1,hb,i,h=>by
  simp only[ql8,xi] at hb;rcases yc i n with h1|h1
  .exact qiz hb.2 i h1
  grind[xF]
theorem qhp{h:Hp}:∀{ix:Lz},q6n h ix=true->∀k i,(k,i)∈ix->Fil h i
 | [],_,k,i,hm=>by simp at hm
 | (a,b)::r,hb,k,i,hm=>by
  simp only[q6n,xi] at hb;rcases xf.1 hm with e|hm
  .grind[filB_iff]
  .exact qhp hb.2 k i hm
class XLe (c' c:Chunk):Prop where
 le:c'.x=Ext.none\/c'.x=c.x
instance XLe.none{o:Bool}{n:Nat}{ps:Pz}{c:Chunk}:XLe (@Chunk.mk Ext.none o n ps) c:=⟨.inl rfl⟩
instance XLe.refl(c:Chunk):XLe c c:=⟨.inr rfl⟩
structure ChunkReLe(ix:Lz)(c' c:Chunk):Prop where
 [x:XLe c' c]
 own:c'.own=true->c.own=true
 le:c'.n<=c.n
 re:∀j,j<c'.n->Re1 ix (c'.f j) (c.f j)
variable{ix:Lz}
theorem ChunkReLe.same{o:Bool}{n:Nat}{ps:Pz}(hp:∀j,j<n->qa2 (qa1 ps j)=true):ChunkReLe ix ⟨o,n,ps⟩ ⟨o,n,ps⟩:=⟨id,nlr _,λj hj=>.plain (hp j hj)⟩
def q8y(ix:Lz):List (Option Value)->List (Option Value)->Prop->Prop
 | [],[],A=>A
 | _::a,none::b,A=>q8y ix a b A
 | some u::a,some v::b,A=>N (Obl (Re ix v u) (q8y ix a b A))
 | _,_,_=>False
def q8z(ix:Lz)(h:Hp):Hp->Nat->Prop->Prop
 | [],_,A=>A
 | none::b,i,A=>q8z ix h b (i+1) A
 | some c'::b,i,A=>match ixI ix i with
  | some k=>q42 h k λc=>N (Obl (ChunkReLe ix c' c) (q8z ix h b (i+1) A))
  | none=>False
def q80(n0:Nat)(ix:Lz)(st s:St)(A:Prop):Prop:=
 match st,s with
 | ⟨t,h⟩,⟨t',h'⟩=>match q70 ix&&ql8 ix n0&&q6n h' ix with
  | true=>q8y ix t t' (q8z ix h h' 0 A)
  | false=>False
theorem qjx{ix:Lz}:∀{t t':List (Option Value)}{A:Prop},q8y ix t t' A->t'.length=t.length/\(∀(i:Nat)(v:Value),t'[i]?=some (some v)->∃u,t[i]?=some (some u)/\Re ix v u)/\A
 | [],[],A,h=>⟨rfl,λi v hi=>by simp at hi,h⟩
 | x::a,none::b,A,h=>by
  have h:q8y ix a b A:=by cases x<;>exact h
  obtain⟨h1,h2,h3⟩:=qjx h;refine⟨by simp[h1],λi v hi=>?_,h3⟩;cases i with
  | zero=>simp at hi
  | succ i=>simpa using h2 i v Q59
 | some u::a,some v::b,A,h=>by
  obtain⟨e,h⟩:=N.out h;obtain⟨h1,h2,h3⟩:=qjx h;refine⟨by simp[h1],λi w hi=>?_,h3⟩;cases i with
  | zero=>simp at hi;subst hi;exact⟨u,rfl,e⟩
  | succ i=>simpa using h2 i w Q59
 | none::a,some v::b,A,h=>h.elim
 | [],_::_,A,h=>h.elim
 | _::_,[],A,h=>by cases ‹Option Value›<;>exact h.elim
theorem qjy{ix:Lz}{h:Hp}:∀{b:Hp}{i0:Nat}{A:Prop},q8z ix h b i0 A->(∀(i:Nat)(c':Chunk),b[i]?=some (some c')->∃k c,ixI ix (i0+i)=some k/\h[k]?=some (some c)/\ChunkReLe ix c' c)/\A
 | [],i0,A,hh=>⟨λi c' hi=>by simp at hi,hh⟩
 | none::b,i0,A,hh=>by
  obtain⟨h1,h2⟩:=qjy (b:=b) hh;refine⟨λi c' hi=>?_,h2⟩;cases i with
  | zero=>simp at hi
  | succ i=>have:=h1 i c' Q59;rwa[show i0+1+i=i0+(i+1) by omega] at this
 | some c0::b,i0,A,hh=>by
  simp only[q8z] at hh;split at hh
  .rename_i k hk;obtain⟨c,hc,hh⟩:=qa9 hh;obtain⟨e,hh⟩:=N.out hh;obtain⟨h1,h2⟩:=qjy (b:=b) hh;refine⟨λi c' hi=>?_,h2⟩;cases i with
   | zero=>simp at hi;subst hi;exact⟨k,c,hk,hc,e⟩
   | succ i=>have:=h1 i c' Q59;rwa[show i0+1+i=i0+(i+1) by omega] at this
  .exact hh.elim
theorem qsi{n0:Nat}{st s:St}{A:Prop}(hh:q80 n0 ix st s A):Wkg n0 st s/\A:=by
 obtain⟨t,h⟩:=st;obtain⟨t',h'⟩:=s;simp only[q80] at hh;cases hb:q70 ix&&ql8 ix n0&&q6n h' ix with
 | false=>rw[hb] at hh;exact hh.elim
 | true=>
  rw[hb] at hh;simp only[xi] at hb;obtain⟨a1,a2,hh⟩:=qjx hh;obtain⟨b1,hA⟩:=qjy hh;refine⟨λX ρ a w hn R=>?_,hA⟩;subst hn;let ρ':Nat->Nat×Nat:=λi=>match ixI ix i with
   | some k=>ρ k
   | none=>ρ i
  have hρ:∀k i,(k,i)∈ix->ρ' i=ρ k:=λk i hm=>by
   show(match ixI ix i with|some k=>ρ k|none=>ρ i)=ρ k;rw[qxy hb.1.1 hm]
  have hr:∀r,AgreeOn (Fil h') ρ' r->∀k i,(k,i)∈ix->r i=ρ k:=λr hrr k i hm=>(hrr i (qhp hb.2 k i hm)).trans (hρ k i hm)
  have hat:∀i c',h'[i]?=some (some c')->∃k c,(k,i)∈ix/\h[k]?=some (some c)/\ChunkReLe ix c' c:=λi c' hi=>by
   grind[qnk]
  refine⟨ρ',R.defers,R.size.trans a1.symm,λi v hi=>?_,R.heap.evo,λi hi=>?_,λi c' hi=>?_,λi c' hi j hj=>?_,λi c' hi ho j hj=>?_,λi c' j d' hi ho hj hne=>?_,?_⟩
  .obtain⟨u,hu,hre⟩:=a2 i v hi;obtain⟨x,hx,hd⟩:=R.slot i u hu;exact⟨x,hx,λr hrr=>(hre.den (hr r hrr)).trans hd.self⟩
  .have hm:=qnk (qiz hb.1.2 i hi);exact⟨qhp hb.2 i i hm,(hρ i i hm).trans (R.heap.base i hi).2⟩
  .obtain⟨k,c,hm,hc,_⟩:=hat i c' hi;rw[hρ k i hm];exact R.heap.lt k c hc
  .obtain⟨k,c,hm,hc,L⟩:=hat i c' hi;obtain⟨x,hx,hd⟩:=R.heap.cell k c hc j (xh hj L.le);rw[hρ k i hm];exact⟨x,hx,λr hrr=>((L.re j hj).den (hr r hrr)).trans hd.self⟩
  .obtain⟨k,c,hm,hc,L⟩:=hat i c' hi;rw[hρ k i hm];exact R.heap.own k c hc (L.own ho) j (xh hj L.le)
  .obtain⟨k,c,hm,hc,L⟩:=hat i c' hi;obtain⟨l,d,hm',hd,_⟩:=hat j d' hj;rw[hρ k i hm,hρ l j hm'];exact R.heap.sep k c l d hc (L.own ho) hd λe=>hne (qdi hb.1.1 k i l j hm hm' (.inl e)).2
  .obtain⟨S,E⟩:=R.heap.ext;refine⟨λi b=>∃k c',(k,i)∈ix/\h'[i]?=some (some c')/\c'.x≠Ext.none/\S k b,λi c' hi=>?_,λi c' b hi hS=>?_,λi c' b j d' hi hS hj hne=>?_⟩
   .obtain⟨k,c,hm,hc,L⟩:=hat i c' hi;by_cases en:c'.x=Ext.none
    .rw[en];rintro b ⟨_,c'',_,hi',h1,_⟩;simp_all
    .have:(λb=>∃k c',(k,i)∈ix/\h'[i]?=some (some c')/\c'.x≠Ext.none/\S k b)=S k:=by
      funext b;refine propext ⟨?_,λhb=>⟨k,c',hm,hi,en,hb⟩⟩
      grind[qdi]
     rw[this,hρ k i hm];rcases L.x.le with e|e
     .simp_all
     .rw[e];exact E.inv k c hc
   .obtain⟨k,c,hm,hc,L⟩:=hat i c' hi;obtain⟨k',_,hm',_,_,hb'⟩:=hS;rw[<-(qdi hb.1.1 k i k' i hm hm' (.inr rfl)).1] at hb';obtain⟨h1,h2,h3⟩:=E.mine k c b hc hb';have:=L.le
    grind
   .obtain⟨k,c,hm,hc,L⟩:=hat i c' hi;obtain⟨k',_,hm',_,_,hb'⟩:=hS;rw[<-(qdi hb.1.1 k i k' i hm hm' (.inr rfl)).1] at hb';obtain⟨l,d,hml,hd,_⟩:=hat j d' hj;obtain⟨a1,a2⟩:=E.apart k c b l d hc hb' hd λe=>hne (qdi hb.1.1 l j k i hml hm (.inl e)).2
    refine⟨by rw[hρ l j hml];exact a1,?_⟩
    grind[qdi]
def q71{α:Type}(p:α->Prop)(K:Lz->α->Prop):Prop:=∃y ix,p y/\K ix y
theorem Bl{α:Type}{p:α->Prop}{K:Lz->α->Prop}(y:α)(ix:Lz)(hp:p y)(k:K ix y):N (q71 p K):=N.mk ⟨y,ix,hp,k⟩
section
variable{P:Program}{G:Tys}
theorem qi0:∀{n:Nat}{K:Hp->Prop},qoi n K↔K (List.replicate n none)
 | 0,K=>Iff.rfl
 | n+1,K=>qi0 (n:=n) (K:=λr=>K (none::r))
theorem appK_iff:∀{h:Hp}{n:Nat}{K:Hp->Prop},q7i h n K↔K (h++List.replicate n none)
 | [],n,K=>qi0
 | x::r,n,K=>appK_iff (h:=r) (n:=n) (K:=λr'=>K (x::r'))
theorem Bo{n0:Nat}{c:Code}{A:(Exit->St->Prop)->St->Prop}{Q:Exit->St->Prop}{t:List (Option Value)}{h:Hp}{α:Type}(inv:α->Prop)(μ:α->Nat)(sets:α->Vz)(hs:α->Mz)(x0:α)(ix0:Lz)(h0:inv x0)
  (hw:updK (maskC c) (sets x0) t 0 λt'=>q7i h 3 λhp=>setM hp (hs x0) λh'=>q80 n0 ix0 ⟨t,h⟩ ⟨t',h'⟩ (N True))
  (hr:∀x,inv x->updK (maskC c) (sets x) t 0 λt'=>q7i h 3 λhp=>setM hp (hs x) λh'=>A (thenQ (λs=>N (q71 (λy=>inv y/\μ y<μ x) λix y=>updK (maskC c) (sets y) t 0 λt''=>q7i h 3 λhp=>setM hp (hs y) λh''=>q80 n0 ix s ⟨t'',h''⟩ (N True))) Q) ⟨t',h'⟩):N (q5z P G n0 c A Q ⟨t,h⟩):=by
 refine N.mk ⟨α,λx=>⟨q8u (maskC c) (sets x) t 0,modH (h++List.replicate 3 none) (hs x)⟩,inv,μ,λx s=>N (q71 (λy=>inv y/\μ y<μ x) λix y=>updK (maskC c) (sets y) t 0 λt''=>q7i h 3 λhp=>setM hp (hs y) λh''=>q80 n0 ix s ⟨t'',h''⟩ (N True)),λx s hq=>?_,⟨x0,h0,(qsi (setM_iff.1 (appK_iff.1 (updK_iff.1 hw)))).1⟩,λx hx=>setM_iff.1 (appK_iff.1 (updK_iff.1 (hr x hx)))⟩
 obtain⟨y,ix,⟨hy,hlt⟩,hk⟩:=N.out hq
 exact⟨y,hy,(qsi (setM_iff.1 (appK_iff.1 (updK_iff.1 hk)))).1,hlt⟩
end
end Go.Proofs.YtggfpcfkbilkmaaGreatDoor.Sx
