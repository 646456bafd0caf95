/-
  The evaluator: states of slots and chunks, one operation, code.
-/
import Derived.WalkKit
import Derived.WalkSpells
import Derived.WalkLawsBesides
import Derived.ProofKit
import Derived.Laws.Append
import Derived.Laws.AppendOwn
import Derived.Laws.MakeOwn
set_option linter.unusedVariables false
set_option linter.unusedSimpArgs false
set_option maxRecDepth 100000
set_option maxHeartbeats 20000000
theorem Go.Proofs.xz:type_of% @Bool.false_eq_true:=@Bool.false_eq_true
theorem Go.Proofs.yi:type_of% @Nat.add_assoc:=@Nat.add_assoc
theorem Go.Proofs.yD:type_of% @Option.map_some:=@Option.map_some
theorem Go.Proofs.xF:type_of% @Array.toList_inj:=@Array.toList_inj
theorem Go.Proofs.xN:type_of% @Nat.eq_of_beq_eq_true:=@Nat.eq_of_beq_eq_true
theorem Go.Proofs.yt:type_of% @List.mem_singleton:=@List.mem_singleton
theorem Go.Proofs.xE:type_of% @List.mem_map:=@List.mem_map
theorem Go.Proofs.xG:type_of% @List.getElem?_set_self:=@List.getElem?_set_self
theorem Go.Proofs.yW:type_of% @List.length_map:=@List.length_map
theorem Go.Proofs.xX:type_of% @Nat.not_lt_zero:=@Nat.not_lt_zero
theorem Go.Proofs.yE:type_of% @Nat.ble_eq:=@Nat.ble_eq
theorem Go.Proofs.xC:type_of% @Nat.le_trans:=@Nat.le_trans
theorem Go.Proofs.xl:type_of% @Nat.lt_of_lt_of_le:=@Nat.lt_of_lt_of_le
theorem Go.Proofs.zn:type_of% @Array.ext_getElem?:=@Array.ext_getElem?
theorem Go.Proofs.zp:type_of% @Array.getElem?_modify:=@Array.getElem?_modify
theorem Go.Proofs.xg:type_of% @List.getElem?_eq_some_iff:=@List.getElem?_eq_some_iff
theorem Go.Proofs.xI:type_of% @List.getElem?_set_ne:=@List.getElem?_set_ne
theorem Go.Proofs.xJ:type_of% @Array.toList_map:=@Array.toList_map
theorem Go.Proofs.yP:type_of% @Array.getD_eq_getD_getElem?:=@Array.getD_eq_getD_getElem?
theorem Go.Proofs.yl:type_of% @List.getElem?_map:=@List.getElem?_map
theorem Go.Proofs.xt:type_of% @List.getElem?_eq_getElem:=@List.getElem?_eq_getElem
theorem Go.Proofs.xT:type_of% @List.getD_eq_getElem?_getD:=@List.getD_eq_getElem?_getD
theorem Go.Proofs.ye:type_of% @List.ext_getElem?:=@List.ext_getElem?
theorem Go.Proofs.xp:type_of% @Bool.and_eq_true:=@Bool.and_eq_true
theorem Go.Proofs.yX:type_of% @List.set_set:=@List.set_set
theorem Go.Proofs.xq:type_of% @List.map_cons:=@List.map_cons
theorem Go.Proofs.ya:type_of% @not_true_eq_false:=@not_true_eq_false
theorem Go.Proofs.xY:type_of% @Array.getElem?_eq_some_iff:=@Array.getElem?_eq_some_iff
theorem Go.Proofs.yp:type_of% @List.map_congr_left:=@List.map_congr_left
theorem Go.Proofs.yF:type_of% @List.getElem_of_mem:=@List.getElem_of_mem
theorem Go.Proofs.yY:type_of% @Int.toNat_natCast:=@Int.toNat_natCast
theorem Go.Proofs.yq:type_of% @List.all_cons:=@List.all_cons
theorem Go.Proofs.yu:type_of% @Bool.not_true:=@Bool.not_true
theorem Go.Proofs.yc:type_of% @Bool.not_false:=@Bool.not_false
theorem Go.Proofs.yZ:type_of% @List.length_cons:=@List.length_cons
theorem Go.Proofs.x7:type_of% @Nat.le_of_ble_eq_true:=@Nat.le_of_ble_eq_true
theorem Go.Proofs.yf:type_of% @List.all_eq_true:=@List.all_eq_true
theorem Go.Proofs.yg:type_of% @List.map_nil:=@List.map_nil
theorem Go.Proofs.yI:type_of% @List.mem_cons_of_mem:=@List.mem_cons_of_mem
theorem Go.Proofs.yv:type_of% @List.map_toArray:=@List.map_toArray
theorem Go.Proofs.yQ:type_of% @List.getElem?_cons_zero:=@List.getElem?_cons_zero
theorem Go.Proofs.xo:type_of% @Nat.mod_lt:=@Nat.mod_lt
theorem Go.Proofs.yh:type_of% @Int.natCast_mul:=@Int.natCast_mul
theorem Go.Proofs.zx:type_of% @Array.getElem?_eq_getElem:=@Array.getElem?_eq_getElem
theorem Go.Proofs.yw:type_of% @Nat.zero_mul:=@Nat.zero_mul
theorem Go.Proofs.xO:type_of% @Nat.add_mul:=@Nat.add_mul
theorem Go.Proofs.zq:type_of% @Nat.add_mul_mod_self_right:=@Nat.add_mul_mod_self_right
theorem Go.Proofs.xr:type_of% @Nat.zero_add:=@Nat.zero_add
theorem Go.Proofs.xZ:type_of% @Nat.add_zero:=@Nat.add_zero
theorem Go.Proofs.xn:type_of% @Nat.zero_le:=@Nat.zero_le
theorem Go.Proofs.yx:type_of% @Nat.le_of_eq:=@Nat.le_of_eq
theorem Go.Proofs.y5:type_of% @Bool.or_eq_true:=@Bool.or_eq_true
theorem Go.Proofs.xb:True:=⟨⟩
abbrev Go.Proofs.xc:=Go.Value.int .i64
abbrev Go.Proofs.xd(i:Nat):Go.Value:=.pointer (some ⟨i,0,some 0⟩)
abbrev Go.Proofs.Vz:=List (Nat×Go.Value)
abbrev Go.Proofs.Rz:=Nat->Nat×Nat
abbrev Go.Proofs.Pz:=List (Nat×Nat×Go.Value)
structure Go.Proofs.Wr(Y:Prop):Prop where o:Y
namespace Go.Proofs
section
variable{Z Y:Prop}
theorem Q1J(h:Z:=by
 have hi2:st₂.h[i]?=some (some c):=(hh _ Q7d).trans hi;have hx':a.eval x=.map (some (ρ i).1):=((hs x Q8L _ hx).den R).self.symm;have hy':a.eval y=q:=by rw[<-((hs y Q8L _ hy).den R).self,qbb hq]
 have hz':a.eval z=u:=by rw[<-((hs z Q8L _ hz).den R).self,qbb hu]
 obtain⟨w',hr,H⟩:=T.go R.heap hi2;refine⟨ρ,w',?_,AgreeOn.refl _ _,H⟩;simp only[execOp,ho,hx',hy',hz',Sem.run_bind,hr,Result.andThen_ok];rfl):Z:=h
theorem Q2g(h:Z:=by
 have hx':c.eval x=.int k a:=((hs x Q8L _ hx).den R).self.symm;have hy':c.eval y=.int k' b:=((hs y Q8L _ hy).den R).self.symm;refine⟨_,?_,Den.plain rfl⟩;have:¬ b<0:=by omega
 simp only[execOp,ho,hx',hy',Sem.run_bind,(qcj (a:=.int k a) (b:=.int k' b) rfl),Result.andThen_ok,binOp,Op.shift,this,if_false,Sem.run_pure,sh]):Z:=h
theorem Q2M(h:Z:=by simp only[execOp,ho,hx',Instr.loadAt,Instr.sureAddr,loadVar,Sem.run_bind,Sem.run_pure,Result.andThen_ok,qdm h2,hd,xz,if_false,run_load,hy]):Z:=h
theorem Q2N(h:Z:=by
 rcases get k e hk with ⟨rfl,rfl⟩|⟨hk1,hk'⟩<;>rcases get l f hlf with ⟨rfl,rfl⟩|⟨hl1,hl'⟩
 .omega
 .rw[hρi,hρk l hl1];have:=H.lt _ _ hl';simp;omega
 .rw[hρi,hρk k hk1];have:=H.lt _ _ hk';simp;omega
 .rw[hρk k hk1,hρk l hl1];exact H2.sep _ _ _ _ hk' hoe hl' hne):Z:=h
theorem Q35(h:Z:=by
 obtain⟨d,hd⟩:∃d,Op.maxDepth=d+1:=⟨9999,rfl⟩;unfold Op.equal;rw[hd];unfold Op.equalIn;cases b<;>simp only[underlying,Sem.run_bind,run_program,Result.andThen_ok,h1,Sem.run_pure,Option.isNone_none,Option.isNone_some]):Z:=h
theorem Q38(h:Z:=by
 have hx':c.eval x=a:=(((hs x Q8L _ hx).den R).self.symm.trans (qbb ha ρ));refine⟨v,?_,Den.plain hv⟩;simp only[execOp,ho,hx',Sem.run_bind,h,Result.andThen_ok,Sem.run_pure]):Z:=h
theorem Q39(k:Y)(h:Wr Y->Z:=by
 intro kQ;show qbf [(l*size,m*size,v),(0,l*size,.agg ⟨segL (l*size) ci.f⟩),(0,cap*size,.agg ⟨segL (cap*size) (jfj size z)⟩)] _=_;exact kQ.o):Z:=h ⟨k⟩
theorem Q3l(h:Z:=by
 obtain⟨d,hd⟩:∃d,Op.maxDepth=d+1:=⟨9999,rfl⟩;unfold Op.equal;rw[hd];unfold Op.equalIn;simp only[underlying,Sem.run_bind,run_program,Result.andThen_ok,h1,Sem.run_pure]):Z:=h
theorem Q3n(h:Z:=by simp only[execOp,ho,hx',hy',Instr.indexAt,asIntOf,underlying,Sem.run_bind,run_program,Result.andThen_ok,h1,Sem.run_pure,h0,hn,and_self,if_true,run_sizeOf h2,qdn,yi]):Z:=h
theorem Q3o(k:Y)(h:Wr Y->Z:=by
 intro kQ;show qbf _ _=_;rw[qar,if_pos Q8E];exact kQ.o):Z:=h ⟨k⟩
theorem Q3q(h:Z:=by
 simp only[execOp,ho,Instr.buildSlice,underlying,Sem.run_bind,run_program,Result.andThen_ok,h2,Sem.run_pure,run_sizeOf h3,g1,g2,if_false,hzv];rw[hcells,hf];rfl):Z:=h
theorem Q3A(k:Y)(h:Wr Y->Z:=by
 intro kQ;simp only[execOp,ho,hx',e1,e2,Instr.sliceAt,Instr.slice,underlying,Sem.run_bind,run_program,Result.andThen_ok,h1,Sem.run_pure,Option.map_none,qg2 hq hp,run_sizeOf h2,yD,qdn,yi];exact kQ.o):Z:=h ⟨k⟩
theorem Q3K(h:Z:=by
 rcases get l f hl' with ⟨hli,hfd⟩|⟨hl1,hl'⟩
 .grind
 exact Q4U):Z:=h
theorem Q3L(h:Z:=by
 simp only[execOp,ho,resolve,e1,Deferred.ofValue,Sem.run_bind,Sem.run_pure,Result.andThen_ok,invoke];congr 2;apply xF.1;simp):Z:=h
theorem Q3V(h:Z:=by
 have:=xN h;subst this;first
  | rfl
  | (rename_i a;cases a<;>rfl)
  | (rename_i a _ _;cases a<;>rfl)):Z:=h
theorem Q47(h:Z:=by
 rw[this,hρk k hne];exact e.x.keep (E.inv k e hk) λb hSb=>hB.block b (E.mine k e b hk hSb).2.1):Z:=h
theorem Q49(h:Z:=by
 .obtain⟨g1,g2,g3⟩:=E.mine k e b hk hS.2
  grind):Z:=h
theorem Q4a(h:Z:=by
 rcases get k e hk with ⟨rfl,rfl⟩|⟨hne,hk⟩
 .simp_all
 .rw[hρk k hne];exact H2.lt _ _ hk):Z:=h
theorem Q4i(h:Z:=by
 .rw[hρk k hne];obtain⟨y,hy,hd⟩:=H2.cell _ _ hk j hj;exact⟨y,hy,hd.more hag fil⟩):Z:=h
theorem Q4r(h:Z:=by
 rcases get k e hk with ⟨rfl,rfl⟩|⟨_,hk⟩
 .exact H.lt _ _ hi
 .exact H.lt _ _ hk):Z:=h
theorem Q4A(k:Y)(h:Wr Y->Z:=by
 intro kQ;simp only[den,den2,Value.agg.injEq];exact kQ.o):Z:=h ⟨k⟩
theorem Q4O(h:Z:=by simp only[execOp,ho,hx',hy',Sem.run_bind,hr,Result.andThen_ok,Sem.run_pure]):Z:=h
theorem Q4U(h:Z:=by
 .obtain⟨a1,a2⟩:=E.apart _ _ b _ _ hk hS.2 hl' hne;simp_all):Z:=h
theorem Q7d(h:Z:=by first|exact yt.2 rfl|fail):Z:=h
theorem Q8p(h:Z:=by first|exact ⟨λh=>by rcases h with h|h;exact absurd h.1 hne;exact h.2,λh=>.inr ⟨hne,h⟩⟩|fail):Z:=h
theorem Q8E(h:Z:=by omega):Z:=h
theorem Q8L(h:Z:=by simp[ho,Op.operands]):Z:=h
theorem Q8P(h:Z:=by simp):Z:=h
theorem Q8T(h:Z:=by simp[ho,Op.operands,Call.operands]):Z:=h
theorem Q8Y(h:Z:=by cases hy;simp[ho,Op.operands]):Z:=h
theorem Q9g(h:Z:=by simp only[ho,Op.operands];exact xE.2 ⟨p,hp,rfl⟩):Z:=h
theorem Q9h(h:Z:=by simp;omega):Z:=h
theorem Q9B(h:Z:=by rw[hx',hy'];exact hrun):Z:=h
theorem Q9G(h:Z:=by rw[xG hil]):Z:=h
theorem Q9U(h:Z:=by simp[hx]):Z:=h
theorem Q9V(h:Z:=by rw[yW,hcl]):Z:=h
end
end Go.Proofs

namespace Go.Proofs.YtfkngpmgcimdbaaGreat
theorem nzj{p : Nat -> Prop}(j : Nat)(hj : j < 0): p j := absurd hj (xX j)
theorem nlr(n : Nat): n <= n := Nat.le_refl n
end Go.Proofs.YtfkngpmgcimdbaaGreat
namespace Go.Proofs.YtfkngpmgcimdbaaGreat.Sx
open Go Go.RowKit
def jfd(ρ:Rz)(a:Addr):Addr:=
 match a.spot with
 | some _=>⟨(ρ a.block).1,(ρ a.block).2+a.off,none⟩
 | none=>a
def den0(ρ:Rz):Value->Value
 | .iface t (.slice a l c)=>match Nat.beq t 99999999 with
  | true=>.slice a l c
  | false=>.iface t (.slice a l c)
 | .pointer (some a)=>.pointer (some (jfd ρ a))
 | .slice (some a) l c=>.slice (some (jfd ρ a)) l c
 | .map (some i)=>.map (some (ρ i).1)
 | v=>v
def den1(ρ:Rz):Value->Value
 | .func f x y=>.func f (x.map (den0 ρ)) (y.map (den0 ρ))
 | v=>den0 ρ v
def den2(ρ:Rz):Value->Value
 | .agg cs=>.agg (cs.map (den1 ρ))
 | v=>den1 ρ v
def den(ρ:Rz):Value->Value
 | .tuple vs=>.tuple (vs.map (den2 ρ))
 | v=>den2 ρ v
class Ext where
 inv:Nat×Nat->(Nat->Prop)->World->Prop
 keep:∀{p:Nat×Nat}{S:Nat->Prop}{w w':World},inv p S w->(∀b,S b->w'.heap[b]?=w.heap[b]?)->inv p S w'
instance Ext.none:Ext:=⟨λ_ S _=>∀b,¬ S b,λh _=>h⟩
structure Chunk where
 [x:Ext]
 own:Bool
 n:Nat
 ps:Pz
abbrev _root_.Go.Proofs.Mz:=List (Nat×Chunk)
abbrev Hp:=List (Option Chunk)
def cellIn(v:Value)(j:Nat):Value:=
 match v with
 | .agg cs=>cs.toList.getD j undef
 | v=>v
def qbf:Pz->Nat->Value
 | [],_=>undef
 | (o,n,v)::r,j=>match Nat.ble o j&&Nat.ble (j+1) (o+n) with
  | true=>cellIn v (j-o)
  | false=>qbf r j
theorem qar(o n:Nat)(v:Value)(r:Pz)(j:Nat):qbf ((o,n,v)::r) j=if o<=j/\j<o+n then cellIn v (j-o) else qbf r j:=by
 grind[yE,qbf]
def Chunk.f(c:Chunk)(j:Nat):Value:=qbf c.ps j
structure St where
 t:List (Option Value)
 h:Hp
def Fil(h:Hp)(i:Nat):Prop:=∃c,h[i]?=some (some c)
def AgreeOn(F:Nat->Prop)(ρ ρ':Rz):Prop:=∀i,F i->ρ' i=ρ i
def Den(F:Nat->Prop)(ρ:Rz)(v x:Value):Prop:=∀ρ',AgreeOn F ρ ρ'->den ρ' v=x
def Den1(F:Nat->Prop)(ρ:Rz)(v x:Value):Prop:=∀ρ',AgreeOn F ρ ρ'->den1 ρ' v=x
theorem AgreeOn.refl(F:Nat->Prop)(ρ:Rz):AgreeOn F ρ ρ:=λ_ _=>rfl
variable{F:Nat->Prop}
theorem AgreeOn.trans{a b c:Rz}(h:AgreeOn F a b)(k:AgreeOn F b c):AgreeOn F a c:=λi hi=>(k i hi).trans (h i hi)
theorem AgreeOn.less{G:Nat->Prop}{a b:Rz}(h:AgreeOn G a b)(hi:∀i,F i->G i):AgreeOn F a b:=λi hf=>h i (hi i hf)
variable{ρ:Rz}
theorem Den.self{v x:Value}(h:Den F ρ v x):den ρ v=x:=h ρ (AgreeOn.refl _ _)
theorem Den1.self{v x:Value}(h:Den1 F ρ v x):den1 ρ v=x:=h ρ (AgreeOn.refl _ _)
theorem Den.more{F':Nat->Prop}{ρ':Rz}{v x:Value}(h:Den F ρ v x)(ha:AgreeOn F ρ ρ')(hF:∀i,F i->F' i):Den F' ρ' v x:=
 λr hr=>h r (ha.trans (hr.less hF))
theorem Den1.more{F':Nat->Prop}{ρ':Rz}{v x:Value}(h:Den1 F ρ v x)(ha:AgreeOn F ρ ρ')(hF:∀i,F i->F' i):Den1 F' ρ' v x:=
 λr hr=>h r (ha.trans (hr.less hF))
def ObjEvo(M:Addr->Prop)(b:Nat)(x y:Option Obj):Prop:=
 x=y\/M ⟨b,0,some 0⟩\/∃cs ty fz cs',x=some (.cells cs ty fz)/\y=some (.cells cs' ty fz)/\cs'.size=cs.size/\∀j,¬ M ⟨b,j,none⟩->cs'[j]?=cs[j]?
variable{M:Addr->Prop}
theorem ObjEvo.trans{b:Nat}{x y z:Option Obj}(h:ObjEvo M b x y)(k:ObjEvo M b y z):ObjEvo M b x z:=by
 rcases h with rfl|h|⟨cs,ty,fz,cs',rfl,rfl,hs,hc⟩
 .exact k
 .exact .inr (.inl h)
 .rcases k with rfl|k|⟨cs1,ty1,fz1,cs2,h1,rfl,hs1,hc1⟩
  .exact .inr (.inr ⟨cs,ty,fz,cs',rfl,rfl,hs,hc⟩)
  .exact .inr (.inl k)
  .simp only[Option.some.injEq,Obj.cells.injEq] at h1;obtain⟨rfl,rfl,rfl⟩:=h1;exact .inr (.inr ⟨cs,ty,fz,cs2,rfl,rfl,hs1.trans hs,λj hj=>(hc1 j hj).trans (hc j hj)⟩)
structure Evo(M:Addr->Prop)(w w':World):Prop where
 os:w'.os=w.os
 tape:w'.tape=w.tape
 output:w'.output=w.output
 size:w.heap.size<=w'.heap.size
 block:∀b,b<w.heap.size->ObjEvo M b w.heap[b]? w'.heap[b]?
theorem Evo.refl(M:Addr->Prop)(w:World):Evo M w w:=⟨rfl,rfl,rfl,nlr _,λ_ _=>.inl rfl⟩
theorem Evo.trans{a b c:World}(h:Evo M a b)(k:Evo M b c):Evo M a c:=
 ⟨k.os.trans h.os,k.tape.trans h.tape,k.output.trans h.output,xC h.size k.size,λi hi=>(h.block i hi).trans (k.block i (xl hi h.size))⟩
variable{w:World}
theorem Evo.of_below{B:Nat}{w':World}(h:Below B w w')(hB:w.heap.size<=B):Evo M w w':=
 ⟨h.os,h.tape,h.output,h.size,λb hb=>.inl (h.block b (xl hb hB)).symm⟩
theorem Evo.below{w':World}(h:Evo (λ_=>False) w w'):Below w.heap.size w w':=
 ⟨h.os,h.tape,h.output,h.size,λb hb=>by
  rcases h.block b hb with e|e|⟨cs,ty,fz,cs',e1,e2,hs,hc⟩
  .exact e.symm
  .exact e.elim
  .rw[e1,e2];have:cs'=cs:=zn λj=>hc j id
   rw[this]⟩
theorem Evo.alloc{w0:World}(h:Evo M w0 w)(o:Obj):Evo M w0 (w.alloc o):=
 h.trans (Evo.of_below ((Below.refl w.heap.size w).alloc (nlr _) o) (nlr _))
theorem Evo.drew{w0:World}(h:Evo M w0 w):Evo M w0 w.drew:=
 h.trans (Evo.of_below ((Below.refl w.heap.size w).drew) (nlr _))
theorem Evo.setCell{w0:World}(h:Evo M w0 w){b o:Nat}(hp:w0.heap.size<=b\/M ⟨b,o,none⟩)(v:Value):Evo M w0 (w.setCell ⟨b,o,none⟩ v):=by
 rcases hp with hp|hp
 .exact⟨h.os,h.tape,h.output,by simpa[World.setCell] using h.size,λk hk=>by
   rw[Below.heap_setCell w ⟨b,o,none⟩ v k Q9h];exact h.block k hk⟩
 .exact h.trans ⟨rfl,rfl,rfl,by simp[World.setCell],λk hk=>by
   by_cases e:k=b
   .subst e;have hg:w.heap[k]?=some w.heap[k]:=by simp[hk]
    cases hw:w.heap[k] with
    | cells cs ty fz=>
     refine .inr (.inr ⟨cs,ty,fz,cs.setIfInBounds o v,by rw[hg,hw],?_,by simp,λj hj=>?_⟩)
     .simp[World.setCell,zp,hg,hw]
     grind
    | _=>exact .inl (by simp[World.setCell,zp,hg,hw])
   .exact .inl (Below.heap_setCell w ⟨b,o,none⟩ v k (by simpa using e)).symm⟩
structure Ctx where
 w0:World
 M:Addr->Prop
 n0:Nat
 ρ0:Nat->Nat×Nat
def May(X:Ctx)(b:Nat):Prop:=X.w0.heap.size<=b\/(X.M ⟨b,0,some 0⟩/\∀j,X.M ⟨b,j,none⟩)
structure ExtOK(X:Ctx)(ρ:Rz)(h:Hp)(w:World)(S:Nat->Nat->Prop):Prop where
 inv:∀(i:Nat)(c:Chunk),h[i]?=some (some c)->c.x.inv (ρ i) (S i) w
 mine:∀(i:Nat)(c:Chunk)(b:Nat),h[i]?=some (some c)->S i b->(c.n=0\/b≠(ρ i).1)/\b<w.heap.size/\May X b
 apart:∀(i:Nat)(c:Chunk)(b j:Nat)(d:Chunk),h[i]?=some (some c)->S i b->h[j]?=some (some d)->j≠i->(ρ j).1≠b/\¬ S j b
structure HOK(X:Ctx)(ρ:Rz)(h:Hp)(w:World):Prop where
 evo:Evo X.M X.w0 w
 base:∀i,i<X.n0->Fil h i/\ρ i=X.ρ0 i
 lt:∀i c,h[i]?=some (some c)->(ρ i).1<w.heap.size
 cell:∀i c,h[i]?=some (some c)->∀j,j<c.n->∃x,w.cell? ⟨(ρ i).1,(ρ i).2+j,none⟩=some x/\Den1 (Fil h) ρ (c.f j) x
 own:∀i c,h[i]?=some (some c)->c.own=true->∀j,j<c.n->w.frozen? ⟨(ρ i).1,(ρ i).2+j,none⟩=false/\(X.w0.heap.size<=(ρ i).1\/X.M ⟨(ρ i).1,(ρ i).2+j,none⟩)
 sep:∀i c j d,h[i]?=some (some c)->c.own=true->h[j]?=some (some d)->i≠j->(ρ i).1≠(ρ j).1
 ext:∃S,ExtOK X ρ h w S
variable{X:Ctx}{S:Nat->Nat->Prop}
theorem ExtOK.turn{h:Hp}{w':World}(E:ExtOK X ρ h w S)(hs:w.heap.size<=w'.heap.size)(hb:∀i c b,h[i]?=some (some c)->S i b->w'.heap[b]?=w.heap[b]?):ExtOK X ρ h w' S:=
 ⟨λi c hi=>c.x.keep (E.inv i c hi) λb hS=>hb i c b hi hS,λi c b hi hS=>⟨(E.mine i c b hi hS).1,xl (E.mine i c b hi hS).2.1 hs,(E.mine i c b hi hS).2.2⟩,E.apart⟩
theorem ExtOK.less{ρ':Rz}{h h':Hp}(E:ExtOK X ρ h w S)
  (hh:∀i c',h'[i]?=some (some c')->ρ' i=ρ i/\∃c,h[i]?=some (some c)/\c'.n<=c.n/\(c'.x=Ext.none\/c'.x=c.x)):∃S',ExtOK X ρ' h' w S':=by
 refine⟨λi b=>S i b/\∀c',h'[i]?=some (some c')->c'.x≠Ext.none,λi c' hi=>?_,λi c' b hi hS=>?_,λi c' b j d' hi hS hj hne=>?_⟩
 .obtain⟨hρ,c,hc,_,hx⟩:=hh i c' hi;by_cases e:c'.x=Ext.none
  .rw[e];exact λb ⟨_,hb⟩=>hb c' hi e
  .rcases hx with hx|hx
   .simp_all
   .have:(λb=>S i b/\∀c',h'[i]?=some (some c')->c'.x≠Ext.none)=S i:=by
     simp_all
    rw[this,hx,hρ];exact E.inv i c hc
 .obtain⟨hρ,c,hc,hn,_⟩:=hh i c' hi;obtain⟨h1,h2,h3⟩:=E.mine i c b hc hS.1
  grind
 .obtain⟨_,c,hc,_⟩:=hh i c' hi;obtain⟨hρ,d,hd,_⟩:=hh j d' hj;obtain⟨h1,h2⟩:=E.apart i c b j d hc hS.1 hd hne;simp_all
theorem ExtOK.nil{h:Hp}(hx:∀(i:Nat)(c:Chunk),h[i]?=some (some c)->c.x=Ext.none):∃S,ExtOK X ρ h w S:=
 ⟨λ_ _=>False,λi c hi=>by rw[hx i c hi];exact λ_ h=>h,λ_ _ _ _ h=>h.elim,λ_ _ _ _ _ _ h=>h.elim⟩
structure Rel(X:Ctx)(ρ:Rz)(st:St)(a:Act)(w:World):Prop where
 defers:a.defers=[]
 size:a.tmps.size=st.t.length
 slot:∀(i:Nat)(v:Value),st.t[i]?=some (some v)->∃x,a.tmps[i]?=some x/\Den (Fil st.h) ρ v x
 heap:HOK X ρ st.h w
def modH(h:Hp):Mz->Hp
 | []=>h
 | (i,c)::ms=>modH (h.set i (some c)) ms
variable{j:Nat}
theorem Fil.set{h:Hp}{i:Nat}{c:Chunk}(hf:Fil h j):Fil (h.set i (some c)) j:=by
 obtain⟨d,hd⟩:=hf;by_cases e:i=j
 .subst e;exact⟨c,by rw[xG (xg.1 hd).1]⟩
 .exact⟨d,by rw[xI e];exact hd⟩
theorem Fil.mod:∀{ms:Mz}{h:Hp},Fil h j->Fil (modH h ms) j
 | [],_,hf=>hf
 | (i,c)::ms,h,hf=>Fil.mod (ms:=ms) hf.set
theorem qwx{v:Value}(h:v.oneCell'=true)(ρ:Rz):den ρ v=den1 ρ v:=by
 cases v<;>first|rfl|simp[Value.oneCell'] at h
theorem Den.of_one{v x:Value}(h:Den1 F ρ v x)(hv:v.oneCell'=true):Den F ρ v x:=λr hr=>(qwx hv r).trans (h r hr)
theorem Den1.of_one{v x:Value}(h:Den F ρ v x)(hv:v.oneCell'=true):Den1 F ρ v x:=λr hr=>(qwx hv r).symm.trans (h r hr)
section
variable{X:Ctx}{ρ:Rz}{h:Hp}{w w':World}
theorem HOK.frame(H:HOK X ρ h w)(hb:Below w.heap.size w w'):HOK X ρ h w':=by
 refine⟨H.evo.trans (Evo.of_below hb (nlr _)),H.base,λi c hi=>xl (H.lt i c hi) hb.size,λi c hi j hj=>?_,λi c hi ho j hj=>?_,H.sep,?_⟩
 .obtain⟨x,hx,hd⟩:=H.cell i c hi j hj;exact⟨x,(hb.cell (p:=⟨(ρ i).1,(ρ i).2+j,none⟩) (H.lt i c hi)).trans hx,hd⟩
 .obtain⟨hx,hd⟩:=H.own i c hi ho j hj;exact⟨(hb.frozen (p:=⟨(ρ i).1,(ρ i).2+j,none⟩) (H.lt i c hi)).trans hx,hd⟩
 .obtain⟨S,E⟩:=H.ext;exact⟨S,E.turn hb.size λi c b hi hS=>hb.block b (E.mine i c b hi hS).2.1⟩
theorem HOK.drew(H:HOK X ρ h w):HOK X ρ h w.drew:=H.frame ((Below.refl _ _).drew)
theorem HOK.say{i:Nat}{c d:Chunk}(H:HOK X ρ h w)(hi:h[i]?=some (some c))(ho:d.own=true->c.own=true)(hn:d.n<=c.n)(hf:∀j,j<d.n->d.f j=c.f j)(hx:d.x=Ext.none\/d.x=c.x:=by exact Or.inl rfl):HOK X ρ (h.set i (some d)) w:=by
 have hl:=(xg.1 hi).1;have get:∀k e,(h.set i (some d))[k]?=some (some e)->(k=i/\e=d)\/(k≠i/\h[k]?=some (some e)):=λk e hk=>by
  grind
 have fil:∀k,Fil h k->Fil (h.set i (some d)) k:=λk hk=>hk.set
 refine⟨H.evo,λk hk=>⟨fil k (H.base k hk).1,(H.base k hk).2⟩,λk e hk=>?_,λk e hk j hj=>?_,λk e hk hoe j hj=>?_,λk e l f hk hoe hlf hne=>?_,?_⟩
 .exact Q4r
 .rcases get k e hk with ⟨rfl,rfl⟩|⟨_,hk⟩
  .obtain⟨x,hx,hd⟩:=H.cell _ _ hi j (xl hj hn);exact⟨x,hx,by rw[hf j hj];exact hd.more (AgreeOn.refl _ _) fil⟩
  .obtain⟨x,hx,hd⟩:=H.cell _ _ hk j hj;exact⟨x,hx,hd.more (AgreeOn.refl _ _) fil⟩
 .rcases get k e hk with ⟨rfl,rfl⟩|⟨_,hk⟩
  .exact H.own _ _ hi (ho hoe) j (xl hj hn)
  .exact H.own _ _ hk hoe j hj
 .rcases get k e hk with ⟨rfl,rfl⟩|⟨hk1,hk'⟩<;>rcases get l f hlf with ⟨rfl,rfl⟩|⟨hl1,hl'⟩
  .omega
  .exact H.sep _ _ _ _ hi (ho hoe) hl' hne
  .exact H.sep _ _ _ _ hk' hoe hi hne
  .exact H.sep _ _ _ _ hk' hoe hl' hne
 .obtain⟨S,E⟩:=H.ext;exact E.less λk e hk=>⟨rfl,by
   grind⟩
theorem HOK.store{i o:Nat}{c d:Chunk}{v x:Value}(H:HOK X ρ h w)(hi:h[i]?=some (some c))(ho:c.own=true)(hod:d.own=true)(hn:d.n=c.n)(hlt:o<c.n)(hv:Den1 (Fil h) ρ v x)
  (hf:∀j,j<c.n->d.f j=if j=o then v else c.f j) (hx:d.x=Ext.none\/d.x=c.x:=by exact Or.inl rfl):HOK X ρ (h.set i (some d)) (w.setCell ⟨(ρ i).1,(ρ i).2+o,none⟩ x):=by
 have hl:=(xg.1 hi).1
 have get:∀k e,(h.set i (some d))[k]?=some (some e)->(k=i/\e=d)\/(k≠i/\h[k]?=some (some e)):=λk e hk=>by
  grind
 have fil:∀k,Fil h k->Fil (h.set i (some d)) k:=λk hk=>hk.set
 have hsz:(w.setCell ⟨(ρ i).1,(ρ i).2+o,none⟩ x).heap.size=w.heap.size:=by simp[World.setCell]
 obtain⟨y0,hy0,_⟩:=H.cell _ _ hi o hlt
 have fr:∀q,(w.setCell ⟨(ρ i).1,(ρ i).2+o,none⟩ x).frozen? q=w.frozen? q:=λq=>World.frozen?_setCell _ _ _ _
 refine⟨H.evo.setCell (H.own _ _ hi ho o hlt).2 x,λk hk=>⟨fil k (H.base k hk).1,(H.base k hk).2⟩,λk e hk=>?_,λk e hk j hj=>?_,λk e hk hoe j hj=>?_,λk e l f hk hoe hlf hne=>?_,?_⟩
 .rw[hsz];exact Q4r
 .rcases get k e hk with ⟨rfl,rfl⟩|⟨hne,hk⟩
  .rw[hn] at hj;by_cases e:j=o
   .subst e;exact⟨x,World.cell?_setCell_same w _ x hy0,by rw[hf j hj,if_pos rfl];exact hv.more (AgreeOn.refl _ _) fil⟩
   .obtain⟨y,hy,hd⟩:=H.cell _ _ hi j hj;refine⟨y,?_,by rw[hf j hj,if_neg e];exact hd.more (AgreeOn.refl _ _) fil⟩;rw[World.cell?_setCell_other w _ _ x (by intro e';simp only[Addr.mk.injEq] at e';omega)];exact hy
  .obtain⟨y,hy,hd⟩:=H.cell _ _ hk j hj;refine⟨y,?_,hd.more (AgreeOn.refl _ _) fil⟩;have:=H.sep _ _ _ _ hi ho hk (λe=>hne e.symm);rw[World.cell?_setCell_other w _ _ x (by intro e';simp only[Addr.mk.injEq] at e';exact absurd e'.1 this)];exact hy
 .rw[fr];rcases get k e hk with ⟨rfl,rfl⟩|⟨_,hk⟩
  .exact H.own _ _ hi ho j Q8E
  .exact H.own _ _ hk hoe j hj
 .rcases get k e hk with ⟨rfl,rfl⟩|⟨hk1,hk'⟩<;>rcases get l f hlf with ⟨rfl,rfl⟩|⟨hl1,hl'⟩
  .omega
  .exact H.sep _ _ _ _ hi ho hl' hne
  .exact H.sep _ _ _ _ hk' hoe hi hne
  .exact H.sep _ _ _ _ hk' hoe hl' hne
 .obtain⟨S,E⟩:=H.ext;have E':=E.turn (w':=w.setCell ⟨(ρ i).1,(ρ i).2+o,none⟩ x) (by rw[hsz];exact nlr _) λk e b hk hS=>by
   refine Below.heap_setCell w _ x b λeb=>?_
   have eb:(ρ i).1=b:=eb.symm;by_cases ek:i=k
   .subst ek;rw[hi] at hk;obtain rfl:c=e:=by simpa using hk
    have:=(E.mine _ _ _ hi hS).1;omega
   .exact(E.apart k e b i c hk hS hi ek).1 eb
  exact E'.less λk e hk=>⟨rfl,by
   grind⟩
theorem HOK.alloc{i:Nat}{c:Chunk}{xs:Array Value}{ty:TypeId}(H:HOK X ρ h w)(hi:h[i]?=some none)(hn:c.n=xs.size)(hf:∀j x,xs[j]?=some x->Den1 (Fil h) ρ (c.f j) x)(hx:c.x=Ext.none:=by rfl):
  ∃ρ',AgreeOn (Fil h) ρ ρ'/\ρ' i=(w.heap.size,0)/\HOK X ρ' (h.set i (some c)) (w.alloc (.cells xs ty)):=by
 have hl:=(xg.1 hi).1
 have nf:¬ Fil h i:=fun⟨d,hd⟩=>by rw[hi] at hd;cases hd
 let ρ':Nat->Nat×Nat:=λk=>if k=i then (w.heap.size,0) else ρ k
 have hag:AgreeOn (Fil h) ρ ρ':=λk hk=>by
  grind
 have hρi:ρ' i=(w.heap.size,0):=if_pos rfl
 have hρk:∀k,k≠i->ρ' k=ρ k:=λk hk=>if_neg hk
 have get:∀k e,(h.set i (some c))[k]?=some (some e)->(k=i/\e=c)\/(k≠i/\h[k]?=some (some e)):=λk e hk=>by
  grind
 have fil:∀k,Fil h k->Fil (h.set i (some c)) k:=λk hk=>hk.set
 have hsz:(w.alloc (.cells xs ty)).heap.size=w.heap.size+1:=by show(w.heap.push _).size=_;simp
 refine⟨ρ',hag,hρi,H.evo.alloc _,λk hk=>⟨fil k (H.base k hk).1,?_⟩,λk e hk=>?_,λk e hk j hj=>?_,λk e hk hoe j hj=>?_,λk e l f hk hoe hlf hne=>?_,?_⟩
 .rw[hag k (H.base k hk).1];exact(H.base k hk).2
 .rw[hsz];rcases get k e hk with ⟨rfl,rfl⟩|⟨hne,hk⟩
  .simp_all
  .rw[hρk k hne];have:=H.lt _ _ hk;omega
 .rcases get k e hk with ⟨rfl,rfl⟩|⟨hne,hk⟩
  .rw[hρi];have hj':j<xs.size:=by omega
   refine⟨xs[j],?_,(hf j _ (by simp[hj'])).more hag fil⟩;simp
  .rw[hρk k hne];obtain⟨y,hy,hd⟩:=H.cell _ _ hk j hj;refine⟨y,?_,hd.more hag fil⟩;exact((Below.refl w.heap.size w).alloc (nlr _) _).cell (p:=⟨(ρ k).1,(ρ k).2+j,none⟩) (H.lt _ _ hk) |>.trans hy
 .rcases get k e hk with ⟨rfl,rfl⟩|⟨hne,hk⟩
  .rw[hρi];refine⟨?_,.inl H.evo.size⟩;simp
  .rw[hρk k hne];obtain⟨h1,h2⟩:=H.own _ _ hk hoe j hj;exact⟨(Below.frozen ((Below.refl w.heap.size w).alloc (nlr _) _) (p:=⟨(ρ k).1,(ρ k).2+j,none⟩) (H.lt _ _ hk)).trans h1,h2⟩
 .rcases get k e hk with ⟨rfl,rfl⟩|⟨hk1,hk'⟩<;>rcases get l f hlf with ⟨rfl,rfl⟩|⟨hl1,hl'⟩
  .omega
  .rw[hρi,hρk l hl1];have:=H.lt _ _ hl';simp;omega
  .rw[hρi,hρk k hk1];have:=H.lt _ _ hk';simp;omega
  .rw[hρk k hk1,hρk l hl1];exact H.sep _ _ _ _ hk' hoe hl' hne
 .obtain⟨S,E⟩:=H.ext;have E':=E.turn (w':=w.alloc (.cells xs ty)) Q8E λk e b hk hS=>Below.heap_alloc _ _ b (E.mine k e b hk hS).2.1
  refine⟨λk b=>k≠i/\S k b,λk e hk=>?_,λk e b hk hS=>?_,λk e b l f hk hS hl' hne=>?_⟩
  .rcases get k e hk with ⟨rfl,rfl⟩|⟨hne,hk⟩
   .rw[hx];exact λb hb=>hb.1 rfl
   .rw[hρk k hne];have:(λb=>k≠i/\S k b)=S k:=by funext b;exact propext ⟨λh=>h.2,λh=>⟨hne,h⟩⟩
    rw[this];exact E'.inv k e hk
  .rcases get k e hk with ⟨rfl,rfl⟩|⟨hne,hk⟩
   .omega
   .rw[hρk k hne];exact E'.mine k e b hk hS.2
  .rcases get k e hk with ⟨rfl,rfl⟩|⟨hne1,hk⟩
   .omega
   .have hlt:=(E.mine k e b hk hS.2).2.1;rcases get l f hl' with ⟨rfl,rfl⟩|⟨hne2,hl'⟩
    .grind
    .rw[hρk l hne2];obtain⟨h1,h2⟩:=E.apart k e b l f hk hS.2 hl' hne;simp_all
end
variable{S':Nat->Prop}
theorem HOK.turnX{h:Hp}{w':World}{i:Nat}{c d:Chunk}(H:HOK X ρ h w)(E:ExtOK X ρ h w S)(hi:h[i]?=some (some c))(hdo:d.own=true->c.own=true)(hdn:d.n<=c.n)(hf:∀j,j<d.n->d.f j=c.f j)
  (h1:w'.os=w.os) (h2:w'.tape=w.tape) (h3:w'.output=w.output) (h4:w.heap.size<=w'.heap.size) (hb:∀b,b<w.heap.size->¬ S i b->w'.heap[b]?=w.heap[b]?)
  (hS':∀b,S' b->b<w'.heap.size/\(d.n=0\/b≠(ρ i).1)/\(S i b\/w.heap.size<=b)) (hinv:d.x.inv (ρ i) S' w'):HOK X ρ (h.set i (some d)) w':=by
 have hl:=(xg.1 hi).1
 have get:∀k e,(h.set i (some d))[k]?=some (some e)->(k=i/\e=d)\/(k≠i/\h[k]?=some (some e)):=λk e hk=>by
  grind
 have fil:∀k,Fil h k->Fil (h.set i (some d)) k:=λk hk=>hk.set
 have same:∀(k:Nat)(c':Chunk),h[k]?=some (some c')->0<c'.n->w'.heap[(ρ k).1]?=w.heap[(ρ k).1]?:=λk c' hk hn=>by
  refine hb _ (H.lt _ _ hk) λhS=>?_
  by_cases ek:k=i
  .subst ek;rw[hi] at hk;obtain rfl:c=c':=by simpa using hk
   rcases(E.mine _ _ _ hi hS).1 with e|e
   .omega
   omega
  .exact(E.apart _ _ _ _ _ hi hS hk ek).1 rfl
 have up:∀b,S i b->May X b:=λb hb=>(E.mine _ _ _ hi hb).2.2
 have old:∀(k:Nat)(e:Chunk),(h.set i (some d))[k]?=some (some e)->∃e':Chunk,h[k]?=some (some e')/\(e.own=true->e'.own=true)/\e.n<=e'.n/\∀j,j<e.n->e.f j=e'.f j:=λk e hk=>by
  grind
 refine⟨⟨h1.trans H.evo.os,h2.trans H.evo.tape,h3.trans H.evo.output,xC H.evo.size h4,λb hlt=>(H.evo.block b hlt).trans ?_⟩,λk hk=>⟨fil k (H.base k hk).1,(H.base k hk).2⟩,λk e hk=>?_,λk e hk j hj=>?_,λk e hk hoe j hj=>?_,λk e l f hk hoe hlf hne=>?_,?_⟩
 .by_cases hS:S i b
  .rcases up b hS with hm|hm
   .omega
   .exact .inr (.inl hm.1)
  .exact .inl (hb b (xl hlt H.evo.size) hS).symm
 .obtain⟨e',hk',_⟩:=old k e hk;exact xl (H.lt _ _ hk') h4
 .obtain⟨e',hk',_,hn,hfe⟩:=old k e hk;obtain⟨y,hy,hd⟩:=H.cell _ _ hk' j (xl hj hn);refine⟨y,?_,by rw[hfe j hj];exact hd.more (AgreeOn.refl _ _) fil⟩;have:=same k e' hk' Q8E;rw[<-hy];unfold World.cell?;simp_all
 .obtain⟨e',hk',ho,hn,hfe⟩:=old k e hk;obtain⟨hx,hd⟩:=H.own _ _ hk' (ho hoe) j (xl hj hn);refine⟨?_,hd⟩;have:=same k e' hk' Q8E;rw[<-hx];unfold World.frozen?;simp_all
 .obtain⟨e',hk',ho,_⟩:=old k e hk;obtain⟨f',hl',_⟩:=old l f hlf;exact H.sep _ _ _ _ hk' (ho hoe) hl' hne
 .refine⟨λk b=>(k=i/\S' b)\/(k≠i/\S k b),λk e hk=>?_,λk e b hk hS=>?_,λk e b l f hk hS hl' hne=>?_⟩
  .rcases get k e hk with ⟨rfl,rfl⟩|⟨hne,hk⟩
   .simp_all
   .have:(λb=>(k=i/\S' b)\/(k≠i/\S k b))=S k:=by funext b;exact propext Q8p
    rw[this];exact e.x.keep (E.inv k e hk) λb hSb=>hb b (E.mine k e b hk hSb).2.1 (E.apart k e b i c hk hSb hi λe=>hne e.symm).2
  .rcases get k e hk with ⟨rfl,rfl⟩|⟨hne,hk⟩
   .rcases hS with hS|hS
    .obtain⟨g1,g2,g3⟩:=hS' b hS.2;refine⟨g2,g1,?_⟩;rcases g3 with g|g
     .exact up b g
     .exact .inl (xC H.evo.size g)
    omega
   .rcases hS with hS|hS
    .omega
    exact Q49
  .rcases get k e hk with ⟨rfl,rfl⟩|⟨hk1,hk⟩
   .rcases hS with hS|hS
    .rcases get l f hl' with ⟨h,_⟩|⟨_,hl'⟩
     .omega
     .obtain⟨_,_,g⟩:=hS' b hS.2;rcases g with g|g
      .obtain⟨a1,a2⟩:=E.apart _ _ b _ _ hi g hl' hne;simp_all
      .refine⟨λe=>?_,λh=>?_⟩
       .have:=H.lt _ _ hl';omega
       .rcases h with h|h
        .exact hne h.1
        .have:=(E.mine _ _ b hl' h.2).2.1;omega
    omega
   .rcases hS with hS|hS
    .omega
    .obtain⟨_,hlt,_⟩:=E.mine k e b hk hS.2;rcases get l f hl' with ⟨hli,hfd⟩|⟨hl1,hl'⟩
     .obtain⟨a1,a2⟩:=E.apart _ _ b _ _ hk hS.2 hi (by rw[<-hli];exact hne)
      grind
     exact Q4U
theorem HOK.newX{h:Hp}{w':World}{i b0:Nat}{d:Chunk}(H:HOK X ρ h w)(hi:h[i]?=some none)(hn:d.n=0)(hB:Below w.heap.size w w')(hb0:w.heap.size<=b0/\b0<w'.heap.size)
  (hS':∀b,S' b->w.heap.size<=b/\b<w'.heap.size) (hinv:d.x.inv (b0,0) S' w'):∃ρ',AgreeOn (Fil h) ρ ρ'/\ρ' i=(b0,0)/\HOK X ρ' (h.set i (some d)) w':=by
 have H2:=H.frame hB
 obtain⟨S,E⟩:=H.ext
 have hl:=(xg.1 hi).1
 have nf:¬ Fil h i:=fun⟨d,hd⟩=>by rw[hi] at hd;cases hd
 let ρ':Nat->Nat×Nat:=λk=>if k=i then (b0,0) else ρ k
 have hag:AgreeOn (Fil h) ρ ρ':=λk hk=>by
  grind
 have hρi:ρ' i=(b0,0):=if_pos rfl
 have hρk:∀k,k≠i->ρ' k=ρ k:=λk hk=>if_neg hk
 have get:∀k e,(h.set i (some d))[k]?=some (some e)->(k=i/\e=d)\/(k≠i/\h[k]?=some (some e)):=λk e hk=>by
  grind
 have fil:∀k,Fil h k->Fil (h.set i (some d)) k:=λk hk=>hk.set
 refine⟨ρ',hag,hρi,H2.evo,λk hk=>⟨fil k (H2.base k hk).1,?_⟩,λk e hk=>?_,λk e hk j hj=>?_,λk e hk hoe j hj=>?_,λk e l f hk hoe hlf hne=>?_,?_⟩
 .rw[hag k (H2.base k hk).1];exact(H2.base k hk).2
 .exact Q4a
 .rcases get k e hk with ⟨rfl,rfl⟩|⟨hne,hk⟩
  .omega
  exact Q4i
 .rcases get k e hk with ⟨rfl,rfl⟩|⟨hne,hk⟩
  .omega
  .rw[hρk k hne];exact H2.own _ _ hk hoe j hj
 .exact Q2N
 .refine⟨λk b=>(k=i/\S' b)\/(k≠i/\S k b),λk e hk=>?_,λk e b hk hS=>?_,λk e b l f hk hS hl' hne=>?_⟩
  .rcases get k e hk with ⟨rfl,rfl⟩|⟨hne,hk⟩
   .simp_all
   .have:(λb=>(k=i/\S' b)\/(k≠i/\S k b))=S k:=by funext b;exact propext Q8p
    exact Q47
  .rcases get k e hk with ⟨rfl,rfl⟩|⟨hne,hk⟩
   .rcases hS with hS|hS
    .exact⟨.inl hn,(hS' b hS.2).2,.inl (xC H.evo.size (hS' b hS.2).1)⟩
    omega
   .rcases hS with hS|hS
    .omega
    exact Q49
  .rcases get k e hk with ⟨hki,hed⟩|⟨hk1,hk⟩
   .rcases hS with hS|hS
    .rcases get l f hl' with ⟨h,_⟩|⟨hl1,hl'⟩
     .omega
     .have hbb:=hS' b hS.2;refine⟨λe=>?_,λh=>?_⟩
      .rw[hρk l hl1] at e;have:=H.lt _ _ hl';omega
      .rcases h with h|h
       .exact hl1 h.1
       .have:=(E.mine _ _ b hl' h.2).2.1;omega
    omega
   .rcases hS with hS|hS
    .omega
    .obtain⟨_,hlt,_⟩:=E.mine k e b hk hS.2;exact Q3K
@[irreducible] def N(A:Prop):Prop:=A
theorem Ba{A:Prop}(h:N A):N A:=h
theorem N.out{A:Prop}(h:N A):A:=by unfold N at h;exact h
theorem N.mk{A:Prop}(h:A):N A:=by unfold N;exact h
def Obl(p A:Prop):Prop:=p/\A
def jis(b:Bool)(A B:Prop):Prop:=(b=true->A)/\(b=false->B)
def Sub{α:Type}(p:α->Prop)(K:α->Prop):Prop:=∃x,p x/\K x
abbrev Tys:=List (TypeId×TypeInfo×TypeDesc)
def jeq:Tys->TypeId->(TypeInfo->TypeDesc->Prop)->Prop
 | [],_,_=>False
 | (u,i,d)::r,t,K=>match Nat.beq u t with
  | true=>K i d
  | false=>jeq r t K
def jey(P:Program)(G:Tys):Prop:=∀r∈G,P.info? r.1=some r.2.1/\P.underlying r.1=some r.2.2
def jit:List (Option Value)->Nat->(Value->Prop)->Prop
 | [],_,_=>False
 | none::_,0,_=>False
 | some v::_,0,K=>K v
 | _::r,n+1,K=>jit r n K
def jgo:Hp->Nat->(Chunk->Prop)->Prop
 | [],_,_=>False
 | none::_,0,_=>False
 | some v::_,0,K=>K v
 | _::r,n+1,K=>jgo r n K
def jh2{α:Type}:List (Option α)->Nat->α->(List (Option α)->Prop)->Prop
 | [],_,_,K=>K []
 | _::r,0,v,K=>K (some v::r)
 | x::r,n+1,v,K=>jh2 r n v λr'=>K (x::r')
def jgp:Hp->Mz->(Hp->Prop)->Prop
 | h,[],K=>K h
 | h,(i,c)::ms,K=>jh2 h i c λh'=>jgp h' ms K
def qbi:Value->Bool
 | .iface t _=>!(Nat.beq t 99999999)
 | .pointer (some a)|.slice (some a) _ _=>a.spot.isNone
 | .func _ x y=>x.toList.isEmpty&&y.toList.isEmpty
 | .agg _ | .tuple _=>false
 | .map (some _)=>false
 | _=>true
def qap:Value->Bool
 | .agg cs=>cs.toList.all qbi
 | v=>qbi v
def jet(x:Operand)(st:St)(K:Value->Prop):Prop:=
 match x with
 | .tmp t=>jit st.t t K
 | .const v=>match qap v with
  | true=>K v
  | false=>False
 | .global g=>K (.pointer (some ⟨g,0,none⟩))
 | .func f=>K (.func (.func f) #[] #[])
def jgr:List Operand->St->(List Value->Prop)->Prop
 | [],_,K=>K []
 | x::r,st,K=>jet x st λv=>jgr r st λvs=>K (v::vs)
def All2{α β:Type}(p:α->β->Prop):List α->List β->Prop
 | [],[]=>True
 | a::r,b::s=>p a b/\All2 p r s
 | _,_=>False
def EvTo(x:Operand)(st:St)(v:Value):Prop:=
 match x with
 | .tmp t=>st.t[t]?=some (some v)
 | .const c=>v=c/\qap c=true
 | .global g=>v=.pointer (some ⟨g,0,none⟩)
 | .func f=>v=.func (.func f) #[] #[]
theorem qao{P:Program}{t:TypeId}{K:TypeInfo->TypeDesc->Prop}:∀{G:Tys},jey P G->jeq G t K->∃i d,P.info? t=some i/\P.underlying t=some d/\K i d
 | [],_,h=>h.elim
 | (u,i,d)::r,hG,h=>by
  unfold jeq at h;split at h
  .rename_i e;have e:u=t:=xN e;subst e;have:=hG (u,i,d) Q8P;simp_all
  .exact qao (λr' hr=>hG r' (by simp[hr])) h
theorem qef{K:Value->Prop}:∀{l:List (Option Value)}{n:Nat},jit l n K->∃v,l[n]?=some (some v)/\K v
 | [],_,h=>h.elim
 | none::_,0,h=>h.elim
 | some v::_,0,h=>⟨v,rfl,h⟩
 | none::r,n+1,h=>by simpa using qef (l:=r) (n:=n) h
 | some _::r,n+1,h=>by simpa using qef (l:=r) (n:=n) h
theorem qb5{K:Chunk->Prop}:∀{l:Hp}{n:Nat},jgo l n K->∃v,l[n]?=some (some v)/\K v
 | [],_,h=>h.elim
 | none::_,0,h=>h.elim
 | some v::_,0,h=>⟨v,rfl,h⟩
 | none::r,n+1,h=>by simpa using qb5 (l:=r) (n:=n) h
 | some _::r,n+1,h=>by simpa using qb5 (l:=r) (n:=n) h
theorem qeg{α:Type}:∀{l:List (Option α)}{n:Nat}{v:α}{K:List (Option α)->Prop},jh2 l n v K->K (l.set n (some v))
 | [],_,_,_,h=>h
 | _::_,0,_,_,h=>h
 | x::r,n+1,v,K,h=>qeg (l:=r) (n:=n) (K:=λr'=>K (x::r')) h
theorem qnb{K:Hp->Prop}:∀{ms:Mz}{h:Hp},jgp h ms K->K (modH h ms)
 | [],_,hk=>hk
 | (i,c)::ms,h,hk=>qnb (ms:=ms) (qeg hk)
variable{st:St}
theorem qas{x:Operand}{K:Value->Prop}(h:jet x st K):∃v,EvTo x st v/\K v:=by
 cases x with
 | tmp t=>exact qef h
 | const c=>
  simp only[jet] at h;cases e:qap c with
  | true=>rw[e] at h;exact⟨c,⟨rfl,e⟩,h⟩
  | false=>rw[e] at h;exact h.elim
 | global g=>exact⟨_,rfl,h⟩
 | func f=>exact⟨_,rfl,h⟩
theorem qep{st:St}:∀{xs:List Operand}{K:List Value->Prop},jgr xs st K->∃vs,All2 (λx v=>EvTo x st v) xs vs/\K vs
 | [],K,h=>⟨[],xb,h⟩
 | x::r,K,h=>by
  obtain⟨v,hv,h⟩:=qas h;obtain⟨vs,hvs,h⟩:=qep (xs:=r) h;exact⟨v::vs,⟨hv,hvs⟩,h⟩
theorem qg0(ρ:Rz)(t:TypeId)(v:Value):den0 ρ (.iface t v)=.iface t v\/(Nat.beq t 99999999=true/\∃a l c,den0 ρ (.iface t v)=.slice a l c):=by
 cases v with
 | slice a l c=>
  grind[den0]
 | _=>exact .inl rfl
theorem qnc(ρ ρ':Rz)(t:TypeId)(v:Value):den0 ρ (.iface t v)=den0 ρ' (.iface t v):=by
 cases v with
 | slice a l c=>rfl
 | _=>rfl
theorem qvl{v:Value}(h:qbi v=true)(ρ:Rz):den0 ρ v=v:=by
 cases v with
 | iface t v=>
  grind[qg0,qbi]
 | pointer a=>cases a with
  | none=>rfl
  | some a=>obtain⟨b,o,s⟩:=a;cases s<;>simp[qbi] at h;rfl
 | slice a l c=>cases a with
  | none=>rfl
  | some a=>obtain⟨b,o,s⟩:=a;cases s<;>simp[qbi] at h;rfl
 | map r=>cases r with
  | none=>rfl
  | some r=>simp[qbi] at h
 | _=>rfl
theorem qbl{v:Value}(h:qbi v=true)(ρ:Rz):den1 ρ v=v:=by
 cases v with
 | func f x y=>
  grind[qbi,den1]
 | _=>exact qvl h ρ
theorem qg1{v:Value}(h:qap v=true)(ρ:Rz):den2 ρ v=v:=by
 cases v with
 | agg cs=>
  grind[qap,den2,xF,xJ,qbl]
 | tuple vs=>simp[qap,qbi] at h
 | _=>exact qbl (by simpa[qap] using h) ρ
theorem qbb{v:Value}(h:qap v=true)(ρ:Rz):den ρ v=v:=by
 cases v with
 | tuple vs=>simp[qap,qbi] at h
 | _=>exact qg1 h ρ
theorem Den.plain{v:Value}(h:qap v=true):Den F ρ v v:=λr _=>qbb h r
theorem EvTo.den{a:Act}{x:Operand}{v:Value}(h:EvTo x st v)(R:Rel X ρ st a w):Den (Fil st.h) ρ v (a.eval x):=by
 cases x with
 | tmp t=>
  obtain⟨y,hy,hd⟩:=R.slot t v h;have:a.eval (.tmp t)=y:=by simp[Act.eval,yP,hy]
  simp_all
 | const c=>obtain⟨rfl,hp⟩:=h;exact Den.plain hp
 | global g=>subst h;exact Den.plain rfl
 | func f=>subst h;exact Den.plain rfl
def After(X:Ctx)(ρ:Rz)(st:St)(v:Value)(ms:Mz)(ρ':Rz)(x:Value)(w':World):Prop:=
 AgreeOn (Fil st.h) ρ ρ'/\HOK X ρ' (modH st.h ms) w'/\Den (Fil (modH st.h ms)) ρ' v x
def jh3(P:Program)(o:Oper)(st:St)(v:Value)(ms:Mz):Prop:=
 ∀X ρ a w,Rel X ρ st a w->∀(next:Act->World->Prop)(Q:Exit->Act->World->Prop),
  (∀ρ' x w',After X ρ st v ms ρ' x w'->next (a.put o.dst x) w')->o.wp P a w next Q
def OKs(P:Program)(o:Oper)(st:St)(v:Value)(ms:Mz)(rh:List Nat):Prop:=
 ∀st₂:St,(∀x∈o.op.operands.toList,∀u,EvTo x st u->EvTo x st₂ u)->(∀i∈rh,st₂.h[i]?=st.h[i]?)->(∀m∈ms,st₂.h[m.1]?=st.h[m.1]?)->jh3 P o st₂ v ms
variable{P:Program}{ms:Mz}
theorem qcv{o:Oper}{v:Value}
  (h:∀X ρ a w,Rel X ρ st a w->∃ρ' x w',(execOp a.eval o).run P w=.ok (.value x) w'/\After X ρ st v ms ρ' x w'):jh3 P o st v ms:=by
 intro X ρ a w R next Q hn
 obtain⟨ρ',x,w',hr,ha⟩:=h X ρ a w R
 unfold Oper.wp
 rw[hr]
 exact hn ρ' x w' ha
theorem qay{o:Oper}{v:Value}
  (h:∀X ρ a w,Rel X ρ st a w->∃x,(execOp a.eval o).run P w=.ok (.value x) w/\Den (Fil st.h) ρ v x):jh3 P o st v []:=
 qcv λX ρ a w R=>by
  obtain⟨x,hr,hd⟩:=h X ρ a w R;exact⟨ρ,x,w,hr,AgreeOn.refl _ _,R.heap,hd⟩
theorem qnd{o:Oper}
  (h:∀X ρ a w,Rel X ρ st a w->∃ρ' w',(execOp a.eval o).run P w=.ok .skip w'/\AgreeOn (Fil st.h) ρ ρ'/\HOK X ρ' (modH st.h ms) w'):jh3 P o st undef ms:=by
 intro X ρ a w R next Q hn
 obtain⟨ρ',w',hr,ha,hh⟩:=h X ρ a w R
 unfold Oper.wp
 rw[hr]
 exact hn ρ' undef w' ⟨ha,hh,λr _=>by simp[undef,den]⟩
def mkp(i:Nat):Value:=xd i
def qd2:TypeDesc->Bool
 | .struct _ | .array _ _=>true
 | _=>false
section
variable{P:Program}{G:Tys}{o:Oper}{st:St}
variable{t:TypeId}
theorem qdm{d:TypeDesc}(h:P.underlying t=some d)(w:World):(isAgg t).run P w=.ok (qd2 d) w:=by
 simp only[isAgg,underlying,Sem.run_bind,run_program,Result.andThen_ok,h,Sem.run_pure];cases d<;>rfl
theorem run_sizeOf{i:TypeInfo}(h:P.info? t=some i)(w:World):(sizeOf t).run P w=.ok i.size w:=by
 simp[sizeOf,typeInfo,Sem.run_bind,run_program,Result.andThen_ok,h]
theorem q6m{x:Operand}{v:Value}(ho:o.op=.move x)(hx:EvTo x st v):OKs P o st v [] []:=λst₂ hs _ _=>
 qay λX ρ a w R=>⟨a.eval x,by simp only[execOp,ho];rfl,(hs x Q8L v hx).den R⟩
theorem qwy{x:Operand}{v:Value}(ho:o.op=.assign x)(hx:EvTo x st v):OKs P o st v [] []:=λst₂ hs _ _=>
 qay λX ρ a w R=>⟨a.eval x,by simp only[execOp,ho];rfl,(hs x Q8L v hx).den R⟩
theorem qwz{c x y:Operand}{t:Bool}{v:Value}(ho:o.op=.pick c x y)(hc:EvTo c st (.bool t))(hx:EvTo (if t then x else y) st v):OKs P o st v [] []:=λst₂ hs _ _=>
 qay λX ρ a w R=>by
  have hc':a.eval c=.bool t:=((hs c Q8L _ hc).den R).self.symm;refine⟨a.eval (if t then x else y),?_,(hs _ (by cases t<;>simp[ho,Op.operands]) v hx).den R⟩;simp only[execOp,ho,hc',asBool,Sem.run_bind,Sem.run_pure,Result.andThen_ok];cases t<;>rfl
def Reads(c:Chunk)(o:Nat)(agg:Bool)(n:Nat)(v:Value):Prop:=
 match agg with
 | true=>o+n<=c.n/\∃cs,v=.agg cs/\cs.toList.length=n/\∀j,j<n->c.f (o+j)=cs.toList.getD j undef
 | false=>o<c.n/\v.oneCell'=true/\c.f o=v
theorem qdn(b o n:Nat):(⟨b,o,none⟩:Addr).add n=⟨b,o+n,none⟩:=by
 unfold Addr.add;simp
variable{i:Nat}{c:Chunk}{ti:TypeInfo}
theorem q6n{x:Operand}{f s:Nat}{d:TypeDesc}{v:Value}(ho:o.op=.load t x)(hx:EvTo x st (.pointer (some ⟨i,f,some s⟩)))(hi:st.h[i]?=some (some c))
  (h1:P.info? t=some ti) (h2:P.underlying t=some d) (hr:Reads c f (qd2 d) ti.size v):OKs P o st v [] [i]:=λst₂ hs hh _=>
 qay λX ρ a w R=>by
  have hi2:st₂.h[i]?=some (some c):=(hh i Q8P).trans hi;have hx':a.eval x=.pointer (some ⟨(ρ i).1,(ρ i).2+f,none⟩):=((hs x Q8L _ hx).den R).self.symm;cases hd:qd2 d with
  | false=>
   rw[hd] at hr;obtain⟨hl,hv,hf⟩:=hr;obtain⟨y,hy,hyd⟩:=R.heap.cell i c hi2 f hl;refine⟨y,?_,by rw[hf] at hyd;exact Den.of_one hyd hv⟩;exact Q2M
  | true=>
   rw[hd] at hr;obtain⟨hl,cs,rfl,hn,hf⟩:=hr;have hcells:∀j v,(cs.toList.map (den1 ρ))[j]?=some v->w.cell? ((⟨(ρ i).1,(ρ i).2+f,none⟩:Addr).add j)=some v:=λj v hv=>by
    have hj:j<cs.toList.length:=by have:=(xg.1 hv).1;simpa using this
    rw[yl,xt hj] at hv;obtain⟨y,hy,hyd⟩:=R.heap.cell i c hi2 (f+j) Q8E;have e:=hf j Q8E;rw[xT,xt hj] at e;simp only[Option.getD_some] at e;rw[e] at hyd;rw[qdn,yi,hy,<-hyd.self];exact hv
   have hlen:ti.size=(cs.toList.map (den1 ρ)).length:=by rw[yW,hn]
   refine⟨.agg (cs.map (den1 ρ)),?_,λr hr=>?_⟩
   .simp only[execOp,ho,hx',Instr.loadAt,Instr.sureAddr,loadVar,Sem.run_bind,Sem.run_pure,Result.andThen_ok,qdm h2,hd,if_true,run_sizeOf h1];rw[hlen,run_loadCells_list _ _ _ hcells];simp only[Result.andThen_ok,Result.ok.injEq,Next.value.injEq,Value.agg.injEq,and_true];apply xF.1;simp
   .refine Q4A ?_;apply xF.1;rw[xJ,xJ];apply ye;intro j;simp only[yl];by_cases hj:j<cs.toList.length
    .rw[xt hj];obtain⟨y,hy,hyd⟩:=R.heap.cell i c hi2 (f+j) Q8E;have e:=hf j Q8E;rw[xT,xt hj] at e;simp only[Option.getD_some] at e;rw[e] at hyd;simp only[yD,Option.some.injEq];rw[hyd r hr,hyd.self]
    .rw[List.getElem?_eq_none Q8E];rfl
def flatB(v:Value)(n:Nat):Bool:=
 match v with
 | .agg cs=>Nat.beq cs.toList.length n&&cs.toList.all Value.oneCell'
 | .tuple _=>false
 | _=>Nat.beq 1 n
variable{n:Nat}
theorem qkp{v:Value}(h:flatB v n=true)(ρ:Rz):(den ρ v).cells.size=n:=by
 cases v with
 | agg cs=>
  simp only[flatB,xp] at h;have:=xN h.1;simpa[den,den2,Value.cells] using this
 | tuple vs=>simp[flatB] at h
 | iface t v=>
  have:=xN h;subst this;show(den0 ρ (.iface t v)).cells.size=1;rcases qg0 ρ t v with e|⟨_,a,l,c,e⟩<;>rw[e]<;>rfl
 | _=>
  exact Q3V
theorem qdw{v:Value}(h:flatB v n=true)(ρ:Rz):(den ρ v).cells.toList=(List.range n).map (λj=>den1 ρ (cellIn v j)):=by
 cases v with
 | agg cs=>
  simp only[flatB,xp] at h;have hn:=xN h.1;subst hn;simp only[den,den2,Value.cells,xJ,cellIn];apply ye
  grind
 | tuple vs=>simp[flatB] at h
 | iface t v=>
  have:=xN h;subst this;show(den0 ρ (.iface t v)).cells.toList=[den0 ρ (.iface t v)];rcases qg0 ρ t v with e|⟨_,a,l,c,e⟩<;>rw[e]<;>rfl
 | _=>
  exact Q3V
theorem q1k{v:Value}(h:v.oneCell'=true)(ρ:Rz):(den0 ρ v).oneCell'=true:=by
 cases v with
 | pointer a=>cases a<;>rfl
 | slice a _ _=>cases a<;>rfl
 | map a=>cases a<;>rfl
 | iface t v=>rcases qg0 ρ t v with e | ⟨_,a,l,c,e⟩<;>rw[e]<;>rfl
 | _=>first | rfl | exact h
theorem q1l{v:Value}(h:v.oneCell'=true)(ρ:Rz):(den1 ρ v).oneCell'=true:=by
 cases v with
 | func f x y=>rfl
 | _=>exact q1k h ρ
variable{j:Nat}
theorem q1m{v:Value}(h:flatB v n=true)(hj:j<n):(cellIn v j).oneCell'=true:=by
 cases v with
 | agg cs=>
  grind[flatB,xN,cellIn]
 | tuple vs=>simp[flatB] at h
 | _=>rfl
theorem Den.cellIn{F:Nat->Prop}{ρ:Rz}{v x:Value}{n:Nat}(h:Den F ρ v x)(hf:flatB v n=true){j:Nat}(hj:j<n):Den1 F ρ (cellIn v j) (den1 ρ (cellIn v j)):=λr hr=>by
 have e:(den r v).cells.toList=(den ρ v).cells.toList:=by rw[h r hr,h.self]
 rw[qdw hf,qdw hf] at e;simp_all
def qfa(x:Ext)(n:Nat)(f:Nat->Value):Chunk:=@Chunk.mk x true n [(0,n,.agg ⟨(List.range n).map f⟩)]
theorem qeq{x:Ext}{f:Nat->Value}(h:j<n):(qfa x n f).f j=f j:=by
 simp[qfa,Chunk.f,qar,cellIn,h]
variable{X:Ctx}{ρ:Rz}{w:World}
theorem qo3{h:Hp}{x:Value}(H:HOK X ρ h w)(hi:h[i]?=some (some c))(ho:c.own=true)(hj:j<c.n)(hx:x.oneCell'=true):
  (store ⟨(ρ i).1,(ρ i).2+j,none⟩ x).run P w=.ok () (w.setCell ⟨(ρ i).1,(ρ i).2+j,none⟩ x):=by
 obtain⟨y,hy,_⟩:=H.cell i c hi j hj
 have hf:=(H.own i c hi ho j hj).1
 rw[run_store P w _ x _ hx]
 simp[hy,hf]
theorem qhx{h:Hp}{f:Nat}{v x:Value}(hi:h[i]?=some (some c))(ho:c.own=true)(hl:f+n<=c.n)(hd:Den (Fil h) ρ v x)(hf:flatB v n=true):
  ∀(m k:Nat),k+m=n->∀w,HOK X ρ (h.set i (some (qfa c.x c.n λj=>if f<=j/\j<f+k then cellIn v (j-f) else c.f j))) w->
   ∃w',(storeCells ⟨(ρ i).1,(ρ i).2+f,none⟩ ((List.range' k m).map λj=>den1 ρ (cellIn v j)) k).run P w=.ok () w'/\
    HOK X ρ (h.set i (some (qfa c.x c.n λj=>if f<=j/\j<f+n then cellIn v (j-f) else c.f j))) w':=by
 have hil:=(xg.1 hi).1
 intro m
 induction m with
 | zero=>
      intro k hk w H;obtain rfl:k=n:=by omega
      exact⟨w,rfl,H⟩
 | succ m ih=>
  intro k hk w H;have hg:(h.set i (some (qfa c.x c.n λj=>if f<=j/\j<f+k then cellIn v (j-f) else c.f j)))[i]?=some (some (qfa c.x c.n λj=>if f<=j/\j<f+k then cellIn v (j-f) else c.f j)):=by
   simp_all
  have hk1:k<n:=by omega
  have hone:=q1m hf hk1;have hst:=qo3 (P:=P) (j:=f+k) (x:=den1 ρ (cellIn v k)) H hg rfl (by show f+k<c.n;omega) (q1l hone ρ);have H2:=H.store (hx:=.inr rfl) (d:=qfa c.x c.n λj=>if f<=j/\j<f+(k+1) then cellIn v (j-f) else c.f j) (o:=f+k) hg rfl rfl rfl (by show f+k<c.n;omega)
   ((
    hd.cellIn hf hk1).more (AgreeOn.refl _ _) λ_ hF=>hF.set) (λj hj=>by
    have hj':j<c.n:=hj
    grind[qeq])
  rw[yX] at H2;obtain⟨w',hr,H3⟩:=ih (k+1) Q8E _ H2;refine⟨w',?_,H3⟩;rw[List.range'_succ,xq];simp only[storeCells,Sem.run_bind];rw[qdn,yi,hst];exact hr
def Writes(c:Chunk)(o n:Nat)(v:Value)(d:Chunk):Prop:=
 c.own=true/\o+n<=c.n/\(d.n,d.x)=(c.n,c.x)/\∀j,j<c.n->d.f j=if o<=j/\j<o+n then cellIn v (j-o) else c.f j
theorem q1n{x y:Operand}{f s:Nat}{d:Chunk}{v:Value}(ho:o.op=.store t x y)(hx:EvTo x st (.pointer (some ⟨i,f,some s⟩)))(hy:EvTo y st v)(hi:st.h[i]?=some (some c))
  (h1:P.info? t=some ti) (hf:flatB v ti.size=true) (hw:Writes c f ti.size v d):OKs P o st undef [(i,d)] []:=λst₂ hs _ hh=>
 qnd λX ρ a w R=>by
  have hi2:st₂.h[i]?=some (some c):=(hh _ Q7d).trans hi;have hx':a.eval x=.pointer (some ⟨(ρ i).1,(ρ i).2+f,none⟩):=((hs x Q8L _ hx).den R).self.symm;have hv:=(hs y Q8L _ hy).den R;obtain⟨hown,hle,hdnx,hdf⟩:=hw;obtain⟨hdn,hdx⟩:=Prod.mk.inj hdnx;have H0:HOK X ρ (st₂.h.set i (some (qfa c.x c.n λj=>if f<=j/\j<f+0 then cellIn v (j-f) else c.f j))) w:=by
   refine R.heap.say (hx:=.inr rfl) hi2 (λ_=>hown) (nlr _) λj hj=>?_
   have hj':j<c.n:=hj;rw[qeq hj',if_neg Q8E]
  obtain⟨w',hr,H1⟩:=qhx (P:=P) hi2 hown hle hv hf ti.size 0 Q8E w H0;refine⟨ρ,w',?_,AgreeOn.refl _ _,?_⟩
  .simp only[execOp,ho,hx',Instr.storeAt,Instr.sureAddr,storeVar,Sem.run_bind,Sem.run_pure,Result.andThen_ok,run_sizeOf h1,<-hv.self,qkp hf,ne_eq,ya,if_false];rw[qdw hf,List.range_eq_range',hr];rfl
  .have hil:=(xg.1 hi2).1;have:=H1.say (hx:=Or.inr (by exact hdx)) (i:=i) (d:=d) Q9G (λ_=>rfl) (by rw[hdn];exact nlr _) λj hj=>by
    rw[hdn] at hj;rw[qeq hj,hdf j hj]
   rw[yX] at this;exact this
theorem qme{h:Hp}{v x:Value}(t:TypeId)(H:HOK X ρ h w)(hi:h[i]?=some none)(hd:Den (Fil h) ρ v x)(hf:flatB v n=true):
  ∃ρ' w',(newVar t x).run P w=.ok ⟨(ρ' i).1,(ρ' i).2,none⟩ w'/\AgreeOn (Fil h) ρ ρ'/\HOK X ρ' (h.set i (some ⟨true,n,[(0,n,v)]⟩)) w':=by
 have hsz:x.cells.size=n:=by rw[<-hd.self];exact qkp hf ρ
 obtain⟨ρ',ha,hρ,H'⟩:=H.alloc (c:=⟨true,n,[(0,n,v)]⟩) (xs:=x.cells) (ty:=t) hi hsz.symm (λj y hy=>by
  have hj:j<n:=by have:=(xY.1 hy).1;omega
  have e:x.cells.toList=(List.range n).map (λj=>den1 ρ (cellIn v j)):=by rw[<-hd.self];exact qdw hf ρ
  have e2:x.cells.toList[j]?=some y:=by simpa using hy
  rw[e] at e2;simp[hj] at e2;have:(⟨true,n,[(0,n,v)]⟩:Chunk).f j=cellIn v j:=by simp[Chunk.f,qar,hj]
  rw[this,<-e2];exact hd.cellIn hf hj)
 refine⟨ρ',_,?_,ha,H'⟩
 rw[hρ]
 rfl
theorem Den.newp{h:Hp}(hl:i<h.length):Den (Fil (h.set i (some c))) ρ (mkp i) (.pointer (some ⟨(ρ i).1,(ρ i).2,none⟩)):=λr hr=>by
 have:=hr i ⟨c,by rw[xG hl]⟩;simp[mkp,den,den2,den1,den0,jfd,this]
theorem jav{x:Operand}{v:Value}(ho:o.op=.box t x)(hx:EvTo x st v)(hi:st.h[i]?=some none)(hf:flatB v n=true):OKs P o st (mkp i) [(i,⟨true,n,[(0,n,v)]⟩)] []:=λst₂ hs _ hh=>
 qcv λX ρ a w R=>by
  have hi2:st₂.h[i]?=some none:=(hh _ Q7d).trans hi;have hv:=(hs x Q8L _ hx).den R;obtain⟨ρ',w',hr,ha,H'⟩:=qme (P:=P) t R.heap hi2 hv hf;refine⟨ρ',.pointer (some ⟨(ρ' i).1,(ρ' i).2,none⟩),w',?_,ha,H',Den.newp (xg.1 hi2).1⟩;simp only[execOp,ho,Instr.box,Sem.run_bind,hr,Result.andThen_ok,Sem.run_pure]
variable{z:Value}
theorem q1o(ho:o.op=.alloc t)(h1:P.info? t=some ti)(hz:ti.zero=some z)(hp:qap z=true)(hi:st.h[i]?=some none)(hf:flatB z n=true):OKs P o st (mkp i) [(i,⟨true,n,[(0,n,z)]⟩)] []:=λst₂ hs _ hh=>
 qcv λX ρ a w R=>by
  have hi2:st₂.h[i]?=some none:=(hh _ Q7d).trans hi;obtain⟨ρ',w',hr,ha,H'⟩:=qme (P:=P) t R.heap hi2 (Den.plain hp) hf;refine⟨ρ',.pointer (some ⟨(ρ' i).1,(ρ' i).2,none⟩),w',?_,ha,H',Den.newp (xg.1 hi2).1⟩;have hzv:(zeroValue t).run P w=.ok z w:=by simp[zeroValue,typeInfo,Sem.run_bind,run_program,Result.andThen_ok,h1,hz]
  simp only[execOp,ho,Instr.alloc,Sem.run_bind,hzv,hr,Result.andThen_ok,Sem.run_pure]
theorem Den.shift{X:Ctx}{st:St}{f g s:Nat}{x:Value}(h:Den (Fil st.h) ρ (.pointer (some ⟨i,f,some s⟩)) x)(s':Nat):
  x=.pointer (some ⟨(ρ i).1,(ρ i).2+f,none⟩)/\Den (Fil st.h) ρ (.pointer (some ⟨i,f+g,some s'⟩)) (.pointer (some ⟨(ρ i).1,(ρ i).2+(f+g),none⟩)):=by
 refine⟨h.self.symm,λr hr=>?_⟩
 have h1:(.pointer (some ⟨(r i).1,(r i).2+f,none⟩):Value)=x:=h r hr
 rw[<-h.self] at h1
 have h2:((r i).1=(ρ i).1/\(r i).2+f=(ρ i).2+f):=by simpa[den,den2,den1,den0,jfd] using h1
 have e1:=h2.1
 have e2:(r i).2=(ρ i).2:=by omega
 simp[den,den2,den1,den0,jfd,e1,e2]
theorem qrq{x:Operand}{f s:Nat}(ho:o.op=.nilCheck x)(hx:EvTo x st (.pointer (some ⟨i,f,some s⟩))):OKs P o st (.pointer (some ⟨i,f,some s⟩)) [] []:=λst₂ hs _ _=>
 qay λX ρ a w R=>by
  have hd:=(hs x Q8L _ hx).den R;have hx':a.eval x=.pointer (some ⟨(ρ i).1,(ρ i).2+f,none⟩):=hd.self.symm;exact⟨a.eval x,by simp only[execOp,ho,hx'];rfl,hd⟩
theorem qo4{x:Operand}{g:FuncId}{u v:Array Value}(ho:o.op=.nilCheck x)(hx:EvTo x st (.func (.func g) u v)):OKs P o st (.func (.func g) u v) [] []:=λst₂ hs _ _=>
 qay λX ρ a w R=>by
  have hd:=(hs x Q8L _ hx).den R;have hx':a.eval x=.func (.func g) (u.map (den0 ρ)) (v.map (den0 ρ)):=hd.self.symm;exact⟨a.eval x,by simp only[execOp,ho,hx'];rfl,hd⟩
variable{fs:Array Field}
theorem qo5{x:Operand}{k f s:Nat}{fl:Field}{fi:TypeInfo}(ho:o.op=.fieldAddr t x k)(hx:EvTo x st (.pointer (some ⟨i,f,some s⟩)))(h1:P.underlying t=some (.struct fs))(h2:fs.toList[k]?=some fl)
  (h3:P.info? fl.type=some fi) (h4:Nat.beq fi.size 0=false):OKs P o st (.pointer (some ⟨i,f+fl.offset,some s⟩)) [] []:=λst₂ hs _ _=>
 qay λX ρ a w R=>by
  obtain⟨hx',hd⟩:=Den.shift (X:=X) (g:=fl.offset) ((hs x Q8L _ hx).den R) s;refine⟨_,?_,hd⟩;have h2':fs[k]?=some fl:=by simpa using h2
  have h4':fi.size≠0:=λe=>by rw[e] at h4;cases h4
  simp only[execOp,ho,hx',Instr.fieldAt,Instr.sureAddr,underlying,fieldPlace,Sem.run_bind,run_program,Result.andThen_ok,h1,h2',Sem.run_pure,run_sizeOf h3,h4',if_false,qdn,yi]
def qs6(cs:Array Value)(f:Nat)(agg:Bool)(n:Nat)(v:Value):Prop:=
 match agg with
 | true=>∃ds,v=.agg ds/\ds.toList=(cs.toList.drop f).take n
 | false=>v.oneCell'=true/\cs.toList[f]?=some v
variable{F:Nat->Prop}
theorem Den.cell{cs:Array Value}{x:Value}(h:Den F ρ (.agg cs) x){v:Value}(hv:cs.toList[j]?=some v):Den1 F ρ v (den1 ρ v):=λr hr=>by
 have e:den r (.agg cs)=den ρ (.agg cs):=by rw[h r hr,h.self]
 simp only[den,den2,Value.agg.injEq] at e;have:=congrArg (λl=>l.toList[j]?) e;simp_all
theorem qs7{d:TypeDesc}{cs:Array Value}{f:Nat}{v x:Value}(h1:P.info? t=some ti)(h2:P.underlying t=some d)(hd:Den F ρ (.agg cs) x)(hp:qs6 cs f (qd2 d) ti.size v)(w:World):
  ∃y,(part t (cs.map (den1 ρ)) f).run P w=.ok y w/\Den F ρ v y:=by
 cases hb:qd2 d with
 | false=>
  rw[hb] at hp;obtain⟨hv,hc⟩:=hp;refine⟨den1 ρ v,?_,Den.of_one (hd.cell hc) hv⟩;have hc':cs[f]?=some v:=by simpa using hc
  simp only[part,Sem.run_bind,qdm h2,hb,Result.andThen_ok,xz,if_false,Array.getElem?_map,hc',yD,Sem.run_pure]
 | true=>
  rw[hb] at hp;obtain⟨ds,rfl,hc⟩:=hp;refine⟨.agg (ds.map (den1 ρ)),?_,λr hr=>?_⟩
  .simp only[part,Sem.run_bind,qdm h2,hb,Result.andThen_ok,if_true,run_sizeOf h1,Sem.run_pure,Result.ok.injEq,Value.agg.injEq,and_true];apply xF.1;simp_all
  .refine Q4A ?_;apply xF.1;rw[xJ,xJ];apply yp;intro u hu;rw[hc] at hu;have hu':=List.mem_of_mem_drop (List.mem_of_mem_take hu);obtain⟨j,hj,he⟩:=yF hu';exact hd.cell (j:=j) (by rw[xt hj,he]) r hr
theorem Den.agg{cs:Array Value}{x:Value}(h:Den F ρ (.agg cs) x):x=.agg (cs.map (den1 ρ)):=h.self.symm
theorem q1p{x:Operand}{k:Nat}{fl:Field}{fi:TypeInfo}{d:TypeDesc}{cs:Array Value}{v:Value}(ho:o.op=.field t x k)(hx:EvTo x st (.agg cs))(h1:P.underlying t=some (.struct fs))(h2:fs.toList[k]?=some fl)
  (h3:P.info? fl.type=some fi) (h4:P.underlying fl.type=some d) (hp:qs6 cs fl.offset (qd2 d) fi.size v):OKs P o st v [] []:=λst₂ hs _ _=>
 qay λX ρ a w R=>by
  have hd:=(hs x Q8L _ hx).den R;obtain⟨y,hr,hy⟩:=qs7 (P:=P) h3 h4 hd hp w;refine⟨y,?_,hy⟩;have h2':fs[k]?=some fl:=by simpa using h2
  simp only[execOp,ho,hd.agg,Instr.field,underlying,asAgg,Sem.run_bind,run_program,Result.andThen_ok,h1,h2',Sem.run_pure,hr]
variable{e:TypeId}{k:IntKind}
theorem qw0{x y:Operand}{fi:TypeInfo}{d:TypeDesc}{cs:Array Value}{v:Value}(ho:o.op=.index t x y)(hx:EvTo x st (.agg cs))(hy:EvTo y st (.int k j))(h1:P.underlying t=some (.array n e))
  (h3:P.info? e=some fi) (h4:P.underlying e=some d) (hj:j<n) (hp:qs6 cs (j*fi.size) (qd2 d) fi.size v):OKs P o st v [] []:=λst₂ hs _ _=>
 qay λX ρ a w R=>by
  have hd:=(hs x Q8L _ hx).den R;have hy':a.eval y=.int k j:=((hs y Q8L _ hy).den R).self.symm;obtain⟨z,hr,hz⟩:=qs7 (P:=P) h3 h4 hd hp w;refine⟨z,?_,hz⟩;have hb:(0:Int)<=(j:Int)/\(j:Int)<(n:Int):=by omega
  simp only[execOp,ho,hd.agg,hy',Instr.index,asIntOf,underlying,Sem.run_bind,run_program,Result.andThen_ok,h1,Sem.run_pure,hb,and_self,if_true,run_sizeOf h3,yY,hr]
theorem qw1{x y:Operand}{s:ByteArray}{b:UInt8}(ho:o.op=.index t x y)(hx:EvTo x st (.string s))(hy:EvTo y st (.int k j))(h1:P.underlying t=some .string)(hb:s[j]?=some b):OKs P o st (.int .u8 b.toNat) [] []:=λst₂ hs _ _=>
 qay λX ρ a w R=>by
  have hx':a.eval x=.string s:=((hs x Q8L _ hx).den R).self.symm;have hy':a.eval y=.int k j:=((hs y Q8L _ hy).den R).self.symm;refine⟨.int .u8 b.toNat,?_,Den.plain rfl⟩;have h0:(0:Int)<=(j:Int):=by omega
  simp only[execOp,ho,hx',hy',Instr.index,asIntOf,underlying,Sem.run_bind,run_program,Result.andThen_ok,h1,Sem.run_pure,h0,if_true,yY,hb]
theorem qmf{x:Operand}{k:Nat}{vs:Array Value}{v:Value}(ho:o.op=.extract x k)(hx:EvTo x st (.tuple vs))(hv:vs.toList[k]?=some v)(hn:(match v with|.tuple _=>false|_=>true)=true):OKs P o st v [] []:=λst₂ hs _ _=>
 qay λX ρ a w R=>by
  have hd:=(hs x Q8L _ hx).den R;have hx':a.eval x=.tuple (vs.map (den2 ρ)):=hd.self.symm;have hv':vs[k]?=some v:=by simpa using hv
  refine⟨den2 ρ v,?_,λr hr=>?_⟩
  .simp only[execOp,ho,hx',Instr.extract,Array.getElem?_map,hv',yD,Sem.run_bind,Sem.run_pure,Result.andThen_ok]
  .have e:den r (.tuple vs)=den ρ (.tuple vs):=by rw[hd r hr,hd.self]
   simp only[den,Value.tuple.injEq] at e;have:=congrArg (λl=>l[k]?) e;simp only[Array.getElem?_map,hv',yD,Option.some.injEq] at this;have e2:den r v=den2 r v:=by cases v<;>first|rfl|cases hn
   rw[e2,this]
theorem qrr{fn:Fn}{xs ys:Array Operand}{us vs:List Value}(ho:o.op=.makeFunc fn xs ys)(hx:All2 (λx v=>EvTo x st v) xs.toList us)(hy:All2 (λx v=>EvTo x st v) ys.toList vs)
  (hpu:us.all (λv=>match v with|.func _ _ _|.agg _|.tuple _=>false|_=>true)=true) (hpv:vs.all (λv=>match v with|.func _ _ _|.agg _|.tuple _=>false|_=>true)=true):OKs P o st (.func fn ⟨us⟩ ⟨vs⟩) [] []:=λst₂ hs _ _=>
 qay λX ρ a w R=>by
  have key:∀(zs:List Operand)(qs:List Value),All2 (λx v=>EvTo x st v) zs qs->(∀x∈zs,x∈o.op.operands.toList)->qs.all (λv=>match v with|.func _ _ _|.agg _|.tuple _=>false|_=>true)=true->
    ∀r,AgreeOn (Fil st₂.h) ρ r->qs.map (den0 r)=zs.map a.eval:=by
   intro zs
   induction zs with
   | nil=>intro qs h _ _ r _;cases qs with
    | nil=>rfl
    | cons _ _=>exact h.elim
   | cons z zs ih=>
    intro qs h hm hp r hr;cases qs with
    | nil=>exact h.elim
    | cons q qs=>
     simp only[yq,xp] at hp;rw[xq,xq,ih qs h.2 (λx hx=>hm x Q9U) hp.2 r hr];congr 1;have:=(hs z (hm z Q8P) _ h.1).den R r hr;rw[<-this];cases q<;>first|rfl|(simp at hp)
  refine⟨.func fn (xs.map a.eval) (ys.map a.eval),by simp only[execOp,ho,Instr.makeFunc,Sem.run_bind,Sem.run_pure,Result.andThen_ok],λr hr=>?_⟩;simp only[den,den2,den1,Value.func.injEq,true_and];constructor
  .apply xF.1;rw[xJ,xJ];exact key _ _ hx (λx hx=>by simp[ho,Op.operands];left;simpa using hx) hpu r hr
  .apply xF.1;rw[xJ,xJ];exact key _ _ hy (λx hx=>by simp[ho,Op.operands];right;simpa using hx) hpv r hr
theorem qcj{op:BinOp}{x y:Operand}{a b:Value}(h:(match a,b with|.nilIface,.nilIface=>false|.agg _,.agg _=>false|_,_=>true)=true)(w:World):(eqGuard op t x y a b).run P w=.ok () w:=by
 unfold eqGuard;cases op<;>(simp only[yu,yc,xz,if_false,if_true];first|rfl|(cases a<;>cases b<;>first|rfl|(simp at h)))
def sh(y:Int)(k:IntKind):Nat:=min y.toNat k.bits
def jjl(op:BinOp)(k:IntKind)(a b:Int):Option (Prop×Value):=
 match op with
 | .add=>some (True,.int k (k.wrap (a+b)))
 | .sub=>some (True,.int k (k.wrap (a-b)))
 | .mul=>some (True,.int k (k.wrap (a*b)))
 | .quo=>some (b≠0,.int k (k.wrap (a.tdiv b)))
 | .rem=>some (b≠0,.int k (a.tmod b))
 | .and=>some (True,.int k (k.wrap (BitVec.ofInt k.bits a &&& BitVec.ofInt k.bits b).toNat))
 | .or=>some (True,.int k (k.wrap (BitVec.ofInt k.bits a ||| BitVec.ofInt k.bits b).toNat))
 | .xor=>some (True,.int k (k.wrap (BitVec.ofInt k.bits a ^^^ BitVec.ofInt k.bits b).toNat))
 | .andNot=>some (True,.int k (k.wrap (BitVec.ofInt k.bits a &&& ~~~ BitVec.ofInt k.bits b).toNat))
 | .eql=>some (True,.bool (a==b))
 | .neq=>some (True,.bool (a != b))
 | .lss=>some (True,.bool (decide (a<b)))
 | .leq=>some (True,.bool (decide (a<=b)))
 | .gtr=>some (True,.bool (decide (a > b)))
 | .geq=>some (True,.bool (decide (a>=b)))
 | _=>none
variable{a:Int}{p:Prop}
theorem q1q{op:BinOp}{b:Int}{v:Value}(h:jjl op k a b=some (p,v))(hp:p)(w:World):(binOp op t (.int k a) (.int k b)).run P w=.ok v w:=by
 cases op<;>simp only[jjl,Option.some.injEq,Prod.mk.injEq,reduceCtorEq] at h<;>obtain⟨rfl,rfl⟩:=h<;>
  simp[binOp,Op.intArith,Op.intDiv,Op.intBits,Op.intCmp,hp]
theorem qvm{op:BinOp}{b:Int}{v:Value}(h:jjl op k a b=some (p,v)):qap v=true:=by
 cases op<;>simp only[jjl,Option.some.injEq,Prod.mk.injEq,reduceCtorEq] at h<;>obtain⟨rfl,rfl⟩:=h<;>rfl
theorem qw2{op:BinOp}{u:TypeId}{x y:Operand}{b:Int}{v:Value}(ho:o.op=.binOp op t x y u)(hx:EvTo x st (.int k a))(hy:EvTo y st (.int k b))(h:jjl op k a b=some (p,v))(hp:p):OKs P o st v [] []:=λst₂ hs _ _=>
 qay λX ρ c w R=>by
  have hx':c.eval x=.int k a:=((hs x Q8L _ hx).den R).self.symm;have hy':c.eval y=.int k b:=((hs y Q8L _ hy).den R).self.symm;refine⟨v,?_,Den.plain (qvm h)⟩;simp only[execOp,ho,hx',hy',Sem.run_bind,(qcj (a:=.int k a) (b:=.int k b) rfl),Result.andThen_ok,q1q h hp,Sem.run_pure]
theorem jaw{u:TypeId}{x y:Operand}{k':IntKind}{b:Int}(ho:o.op=.binOp .shl t x y u)(hx:EvTo x st (.int k a))(hy:EvTo y st (.int k' b))(hb:0<=b):OKs P o st (.int k (k.wrap (a*2^sh b k))) [] []:=λst₂ hs _ _=>
 qay λX ρ c w R=>Q2g
theorem jax{u:TypeId}{x y:Operand}{k':IntKind}{b:Int}(ho:o.op=.binOp .shr t x y u)(hx:EvTo x st (.int k a))(hy:EvTo y st (.int k' b))(hb:0<=b):OKs P o st (.int k (a.fdiv (2^sh b k))) [] []:=λst₂ hs _ _=>
 qay λX ρ c w R=>Q2g
theorem qh8{op:BinOp}{u:TypeId}{x y:Operand}{a b v:Value}(ho:o.op=.binOp op t x y u)(hx:EvTo x st a)(hy:EvTo y st b)(ha:qap a=true)(hb:qap b=true)
  (h:∀w,(do eqGuard op t x y a b;binOp op t a b:Sem Value).run P w=.ok v w) (hv:qap v=true):OKs P o st v [] []:=λst₂ hs _ _=>
 qay λX ρ c w R=>by
  have hx':c.eval x=a:=(((hs x Q8L _ hx).den R).self.symm.trans (qbb ha ρ));have hy':c.eval y=b:=(((hs y Q8L _ hy).den R).self.symm.trans (qbb hb ρ));refine⟨v,?_,Den.plain hv⟩;have:=h w;simp only[Sem.run_bind] at this;simp only[execOp,ho,hx',hy',Sem.run_bind,this,Result.andThen_ok,Sem.run_pure]
theorem ql9{a b:Bool}(h1:P.underlying t=some .bool)(w:World):(Op.equal t (.bool a) (.bool b)).run P w=.ok (a==b) w:=Q3l
variable{b:Option Addr}
theorem qh9(h1:P.underlying t=some (.pointer e))(w:World):(Op.equal t (.pointer b) (.pointer none)).run P w=.ok b.isNone w:=Q35
theorem qo6{eq:Bool}{u:TypeId}{x y:Operand}{a b:Bool}(ho:o.op=.binOp (if eq then .eql else .neq) t x y u)(hx:EvTo x st (.bool a))(hy:EvTo y st (.bool b))(h1:P.underlying t=some .bool):OKs P o st (.bool (if eq then a==b else a != b)) [] []:=
 qh8 ho hx hy rfl rfl (λw=>by
  have hg:=λop=>qcj (P:=P) (op:=op) (t:=t) (x:=x) (y:=y) (a:=.bool a) (b:=.bool b) rfl w
  cases eq<;>simp only[Sem.run_bind,hg,Result.andThen_ok,binOp,ql9 h1,Sem.run_pure,if_true,if_false,xz,bne]) rfl
theorem qo7{eq:Bool}{u:TypeId}{x y:Operand}{f s:Nat}(ho:o.op=.binOp (if eq then .eql else .neq) t x y u)(hx:EvTo x st (.pointer (some ⟨i,f,some s⟩)))(hy:EvTo y st (.pointer none))(h1:P.underlying t=some (.pointer e)):OKs P o st (.bool (!eq)) [] []:=λst₂ hs _ _=>
 qay λX ρ c w R=>by
  have hx':c.eval x=.pointer (some ⟨(ρ i).1,(ρ i).2+f,none⟩):=((hs x Q8L _ hx).den R).self.symm;have hy':c.eval y=.pointer none:=((hs y Q8L _ hy).den R).self.symm;refine⟨.bool (!eq),?_,Den.plain rfl⟩;cases eq<;>simp only[execOp,ho,hx',hy',Sem.run_bind,qcj (a:=.pointer (some ⟨(ρ i).1,(ρ i).2+f,none⟩)) (b:=.pointer none) rfl,Result.andThen_ok,binOp,qh9 h1,Sem.run_pure,if_true,if_false,xz,yu,yc,Option.isNone_some]
theorem qo8{eq:Bool}{u:TypeId}{x y:Operand}(ho:o.op=.binOp (if eq then .eql else .neq) t x y u)(hx:EvTo x st (.pointer none))(hy:EvTo y st (.pointer none))(h1:P.underlying t=some (.pointer e)):OKs P o st (.bool eq) [] []:=
 qh8 ho hx hy rfl rfl (λw=>by
  have hg:=λop=>qcj (P:=P) (op:=op) (t:=t) (x:=x) (y:=y) (a:=.pointer none) (b:=.pointer none) rfl w
  cases eq<;>simp only[Sem.run_bind,hg,Result.andThen_ok,binOp,qh9 h1,Sem.run_pure,if_true,if_false,xz,yu,yc,Option.isNone_none]) rfl
variable{l:Nat}
theorem qhq{c l' c':Nat}(h1:P.underlying t=some (.slice e))(w:World):(Op.equal t (.slice b l c) (.slice none l' c')).run P w=.ok b.isNone w:=Q35
theorem qkq{eq:Bool}{u:TypeId}{x y:Operand}{f s c l' c':Nat}(ho:o.op=.binOp (if eq then .eql else .neq) t x y u)(hx:EvTo x st (.slice (some ⟨i,f,some s⟩) l c))(hy:EvTo y st (.slice none l' c'))(h1:P.underlying t=some (.slice e)):OKs P o st (.bool (!eq)) [] []:=λst₂ hs _ _=>
 qay λX ρ a w R=>by
  have hx':a.eval x=.slice (some ⟨(ρ i).1,(ρ i).2+f,none⟩) l c:=((hs x Q8L _ hx).den R).self.symm;have hy':a.eval y=.slice none l' c':=((hs y Q8L _ hy).den R).self.symm;refine⟨.bool (!eq),?_,Den.plain rfl⟩;cases eq<;>simp only[execOp,ho,hx',hy',Sem.run_bind,qcj (a:=.slice (some ⟨(ρ i).1,(ρ i).2+f,none⟩) l c) (b:=.slice none l' c') rfl,Result.andThen_ok,binOp,qhq h1,Sem.run_pure,if_true,if_false,xz,yu,yc,Option.isNone_some]
theorem qma{u:TypeId}{ps rs:Array TypeId}{vr:Bool}{g:Fn}{us cs:Array Value}(h1:P.underlying t=some (.func ps rs vr))(w:World):(Op.equal t (.func g us cs) .nilFunc).run P w=.ok false w:=Q3l
theorem qmg{eq:Bool}{u:TypeId}{ps rs:Array TypeId}{vr:Bool}{x y:Operand}{g:Fn}{us cs:Array Value}(ho:o.op=.binOp (if eq then .eql else .neq) t x y u)(hx:EvTo x st (.func g us cs))(hy:EvTo y st .nilFunc)(h1:P.underlying t=some (.func ps rs vr)):OKs P o st (.bool (!eq)) [] []:=λst₂ hs _ _=>
 qay λX ρ a w R=>by
  have hx':a.eval x=.func g (us.map (den0 ρ)) (cs.map (den0 ρ)):=((hs x Q8L _ hx).den R).self.symm;have hy':a.eval y=.nilFunc:=((hs y Q8L _ hy).den R).self.symm;refine⟨.bool (!eq),?_,Den.plain rfl⟩;cases eq<;>simp only[execOp,ho,hx',hy',Sem.run_bind,qcj (a:=.func g (us.map (den0 ρ)) (cs.map (den0 ρ))) (b:=.nilFunc) rfl,Result.andThen_ok,binOp,qma (u:=t) h1,Sem.run_pure,if_true,if_false,xz,yu,yc]
theorem qmh{eq:Bool}{u:TypeId}{x y:Operand}{c l' c':Nat}(ho:o.op=.binOp (if eq then .eql else .neq) t x y u)(hx:EvTo x st (.slice none l c))(hy:EvTo y st (.slice none l' c'))(h1:P.underlying t=some (.slice e)):OKs P o st (.bool eq) [] []:=
 qh8 ho hx hy rfl rfl (λw=>by
  have hg:=λop=>qcj (P:=P) (op:=op) (t:=t) (x:=x) (y:=y) (a:=.slice none l c) (b:=.slice none l' c') rfl w
  cases eq<;>simp only[Sem.run_bind,hg,Result.andThen_ok,binOp,qhq h1,Sem.run_pure,if_true,if_false,xz,yu,yc,Option.isNone_none]) rfl
theorem jjt{op:UnOp}{x:Operand}{a v:Value}(ho:o.op=.unOp op t x)(hx:EvTo x st a)(ha:qap a=true)(h:∀w,(Op.unary op a).run P w=.ok v w)(hv:qap v=true):OKs P o st v [] []:=λst₂ hs _ _=>
 qay λX ρ c w R=>Q38
theorem qrs{src dst:TypeId}{x:Operand}{a v:Value}(ho:o.op=.convert src dst x)(hx:EvTo x st a)(ha:qap a=true)(h:∀w,(convert src dst a).run P w=.ok v w)(hv:qap v=true):OKs P o st v [] []:=λst₂ hs _ _=>
 qay λX ρ c w R=>Q38
theorem qrt{src dst:TypeId}{k':IntKind}{n:Int}{d:TypeDesc}(h1:P.underlying src=some d)(h2:P.underlying dst=some (.int k'))(w:World):(convert src dst (.int k n)).run P w=.ok (.int k' (k'.wrap n)) w:=by
 simp only[convert,underlying,Sem.run_bind,run_program,Result.andThen_ok,h1,h2,Sem.run_pure,Conv.intToInt]
theorem qvn{b:Builtin}{xs:Array Operand}{ts:Array TypeId}{vs:List Value}{v:Value}(ho:o.op=.call ⟨.builtin b,xs,ts⟩)(hx:All2 (λx v=>EvTo x st v) xs.toList vs)(hp:vs.all qap=true)
  (h:∀cs w,(builtin b ts o.type cs ⟨vs⟩).run P w=.ok (.value v) w) (hv:qap v=true):OKs P o st v [] []:=λst₂ hs _ _=>
 qay λX ρ a w R=>by
  have key:∀(zs:List Operand)(qs:List Value),All2 (λx v=>EvTo x st v) zs qs->(∀x∈zs,x∈o.op.operands.toList)->qs.all qap=true->zs.map a.eval=qs:=by
   intro zs
   induction zs with
   | nil=>intro qs h _ _;cases qs with
    | nil=>rfl
    | cons _ _=>exact h.elim
   | cons z zs ih=>
    intro qs h hm hq;cases qs with
    | nil=>exact h.elim
    | cons q qs=>
     simp only[yq,xp] at hq;rw[xq,ih qs h.2 (λx hx=>hm x Q9U) hq.2];congr 1;exact((hs z (hm z Q8P) _ h.1).den R).self.symm.trans (qbb hq.1 ρ)
  have e:xs.map a.eval=⟨vs⟩:=by
   apply xF.1;rw[xJ];exact key _ _ hx (λx hx=>by simp[ho,Op.operands,Call.operands];simpa using hx) hp
  refine⟨v,?_,Den.plain hv⟩;simp only[execOp,ho,resolve,Sem.run_bind,Sem.run_pure,Result.andThen_ok,invoke,e,h]
def jhh:Nat->List Value->List Value->List Value
 | 0,cs,[]=>cs
 | 0,_::cs,v::vs=>v::jhh 0 cs vs
 | k+1,c::cs,vs=>c::jhh k cs vs
 | _,[],_=>[]
def qdi(v:Value):List Value:=
 match v with
 | .agg cs=>cs.toList
 | v=>[v]
def jf0(place:Nat->Option (Nat×Nat)):List Value->Vz->Option (List Value)
 | cells,[]=>some cells
 | cells,(i,v)::r=>
  match place i with
  | some (off,size)=>match flatB v size&&Nat.ble (off+size) cells.length with
   | true=>jf0 place (jhh off cells (qdi v)) r
   | false=>none
  | none=>none
theorem qia:∀(k:Nat)(cs vs:List Value)(j:Nat),(jhh k cs vs)[j]?=if k<=j/\j<k+vs.length/\j<cs.length then vs[j-k]? else cs[j]?
 | 0,cs,[],j=>by simp[jhh]
 | 0,[],v::vs,j=>by simp[jhh]
 | 0,c::cs,v::vs,0=>by simp[jhh]
 | 0,c::cs,v::vs,j+1=>by simp[jhh,qia 0 cs vs j]
 | k+1,[],vs,j=>by simp[jhh]
 | k+1,c::cs,vs,0=>by simp[jhh]
 | k+1,c::cs,vs,j+1=>by
  simp only[jhh,List.getElem?_cons_succ,qia k cs vs j,yZ]
  grind
theorem qo9(off:Nat):∀(vs:List Value)(k:Nat)(cells:Array Value),
  ((vs.zipIdx k).foldl (λcs (c:Value×Nat)=>cs.setIfInBounds (off+c.2) c.1) cells).toList=jhh (off+k) cells.toList vs
 | [],k,cells=>by
  apply ye;intro j;rw[qia];simp;omega
 | v::vs,k,cells=>by
  rw[List.zipIdx_cons,List.foldl_cons,qo9 off vs (k+1)];apply ye;intro j
  grind[qia]
theorem qeh{ρ:Rz}{place:Nat->Option (Nat×Nat)}:∀(ps:Vz)(cells:List Value)(out:List Value),jf0 place cells ps=some out->
  Instr.fill place ⟨cells.map (den1 ρ)⟩ (ps.map λp=>(p.1,den ρ p.2))=some ⟨out.map (den1 ρ)⟩
 | [],cells,out,h=>by simp only[jf0,Option.some.injEq] at h;subst h;rfl
 | (i,v)::r,cells,out,h=>by
  simp only[jf0] at h;cases hp:place i with
  | none=>rw[hp] at h;cases h
  | some os=>
   obtain⟨off,size⟩:=os;rw[hp] at h;simp only at h;cases hb:flatB v size&&Nat.ble (off+size) cells.length with
   | false=>rw[hb] at h;cases h
   | true=>
    rw[hb] at h;simp only[xp] at hb;obtain⟨hf,hle⟩:=hb;have hle:=x7 hle;have hsz:=qkp hf ρ;have hcl:(den ρ v).cells.toList=(qdi v).map (den1 ρ):=by
     rw[qdw hf];apply ye;intro j;cases v with
     | agg cs=>
      grind[flatB,xN,qdi,cellIn]
     | tuple vs=>simp[flatB] at hf
     | _=>
      have:=xN hf;subst this;rfl
    rw[xq];simp only[Instr.fill,hp,hsz];rw[if_neg Q9h];have e:(((den ρ v).cells.zipIdx.foldl (λcs (x:Value×Nat)=>cs.setIfInBounds (off+x.2) x.1) (⟨cells.map (den1 ρ)⟩:Array Value)))=⟨(jhh off cells (qdi v)).map (den1 ρ)⟩:=by
     apply xF.1;rw[<-Array.foldl_toList,Array.toList_zipIdx,hcl];rw[qo9 off _ 0];apply ye;intro j
     grind[qia]
    have:=qeh (ρ:=ρ) r _ _ h;simp_all
def qru(G:Tys):List Field->(List (Nat×Nat)->Prop)->Prop
 | [],K=>K []
 | f::r,K=>jeq G f.type λi _=>qru G r λl=>K ((f.offset,i.size)::l)
def Places(P:Program):List Field->List (Nat×Nat)->Prop
 | [],l=>l=[]
 | f::r,l=>∃i l',P.info? f.type=some i/\l=(f.offset,i.size)::l'/\Places P r l'
theorem qkr(hG:jey P G):∀{fs:List Field}{K:List (Nat×Nat)->Prop},qru G fs K->∃l,Places P fs l/\K l
 | [],K,h=>⟨[],rfl,h⟩
 | f::r,K,h=>by
  obtain⟨i,d,h1,h2,h⟩:=qao hG h;obtain⟨l,hl,hk⟩:=qkr hG h;exact⟨_,⟨i,l,h1,rfl,hl⟩,hk⟩
theorem qmi(w:World):∀{fs:List Field}{l:List (Nat×Nat)},Places P fs l->(fs.mapM λf=>do pure (f.offset,<-sizeOf f.type):Sem (List (Nat×Nat))).run P w=.ok l w
 | [],l,h=>by subst h;rfl
 | f::r,l,h=>by
  obtain⟨i,l',h1,rfl,h2⟩:=h;rw[List.mapM_cons];simp only[Sem.run_bind,run_sizeOf h1,Result.andThen_ok,Sem.run_pure,qmi w h2]
theorem qel(hp:qap z=true)(ρ:Rz):(qdi z).map (den1 ρ)=z.cells.toList:=by
 cases z with
 | agg cs=>
  simp only[qap,yf] at hp;exact(yp λx hx=>qbl (hp x hx) ρ).trans (List.map_id _)
 | tuple vs=>simp[qap,qbi] at hp
 | _=>simp only[qdi,Value.cells,xq,yg];rw[qbl (by simpa[qap] using hp) ρ]
def qfb(st:St):List (Nat×Operand)->Vz->Prop
 | [],vs=>vs=[]
 | p::r,vs=>∃v s,vs=(p.1,v)::s/\EvTo p.2 st v/\qfb st r s
theorem q1r(a:Act)(ρ:Rz)(r:List (Nat×Operand))(s:Vz)(p:Nat×Operand)(v:Value)(h1:r.map (λp=>(p.1,a.eval p.2))=s.map λp=>(p.1,den ρ p.2))(hds:den ρ v=a.eval p.2):
  (p::r).map (λp=>(p.1,a.eval p.2))=((p.1,v)::s).map (λp=>(p.1,den ρ p.2)):=by
 simp only[xq,h1,hds]
theorem q1s{st st₂:St}(p:Nat×Operand)(r:List (Nat×Operand))(vs:Vz)(h:qfb st (p::r) vs)(hm:∀q∈p::r,∀u,EvTo q.2 st u->EvTo q.2 st₂ u):∃v s,vs=(p.1,v)::s/\EvTo p.2 st₂ v/\qfb st r s:=by
 obtain⟨v,s,e,hx,h⟩:=h
 grind
theorem q1t{q:Rz}{s:Vz}{v:Value}(h3:s.map (λp=>(p.1,den q p.2))=s.map λp=>(p.1,den ρ p.2))(h4:den q v=den ρ v):
  ((i,v)::s).map (λp=>(p.1,den q p.2))=((i,v)::s).map (λp=>(p.1,den ρ p.2)):=by
 rw[xq,xq,h3]
 show(i,den q v)::_=_
 rw[h4]
theorem qgb{X:Ctx}{ρ:Rz}{st st₂:St}{a:Act}{w:World}(R:Rel X ρ st₂ a w):∀(ps:List (Nat×Operand))(vs:Vz),qfb st ps vs->(∀p∈ps,∀u,EvTo p.2 st u->EvTo p.2 st₂ u)->
  ps.map (λp=>(p.1,a.eval p.2))=vs.map (λp=>(p.1,den ρ p.2))/\∀r,AgreeOn (Fil st₂.h) ρ r->vs.map (λp=>(p.1,den r p.2))=vs.map (λp=>(p.1,den ρ p.2))
 | [],vs,h,_=>by
  have e:vs=[]:=h;simp_all
 | p::r,vs,h,hm=>by
  obtain⟨v,s,e,hx,hr⟩:=q1s p r vs h hm;subst e;have ih:=qgb R r s hr (λp hp=>hm p (yI _ hp));have hd:=EvTo.den hx R;exact⟨q1r a ρ r s p v ih.1 hd.self,λq hq=>q1t (ih.2 q hq) ((hd q hq).trans hd.self.symm)⟩
variable{vs:Vz}
theorem qpa{r:Rz}{place:Nat->Option (Nat×Nat)}{out:List Value}(hp:qap z=true)(hout:jf0 place (qdi z) vs=some out)
  (he:vs.map (λp=>(p.1,den r p.2))=vs.map λp=>(p.1,den ρ p.2)):den r (.agg ⟨out⟩)=den ρ (.agg ⟨out⟩):=by
 have h1:=qeh (ρ:=r) vs _ _ hout
 have h2:=qeh (ρ:=ρ) vs _ _ hout
 rw[he,qel hp] at h1
 rw[qel hp,h1] at h2
 simp only[Option.some.injEq,Array.mk.injEq] at h2
 simp only[den,den2,Value.agg.injEq]
 apply xF.1
 simpa using h2
variable{ps:Array (Nat×Operand)}
theorem q1u{pl:List (Nat×Nat)}{out:List Value}(ho:o.op=.build t ps)(hx:qfb st ps.toList vs)(h1:P.info? t=some ti)(hz:ti.zero=some z)(hp:qap z=true)
  (h2:P.underlying t=some (.struct fs)) (h3:Places P fs.toList pl) (hout:jf0 (fun(i:Nat)=>pl[i]?) (qdi z) vs=some out):OKs P o st (.agg ⟨out⟩) [] []:=λst₂ hs _ _=>
 qay λX ρ a w R=>by
  obtain⟨e1,e2⟩:=qgb R _ _ hx (λp hp=>hs p.2 Q9g);have hzv:(zeroValue t).run P w=.ok z w:=by simp[zeroValue,typeInfo,Sem.run_bind,run_program,Result.andThen_ok,h1,hz]
  refine⟨den ρ (.agg ⟨out⟩),?_,λr hr=>qpa hp hout (e2 r hr)⟩;have hr:=qeh (ρ:=ρ) vs _ _ hout;rw[qel hp,<-e1] at hr;have hpl:=qmi (P:=P) w h3;have hmm:(fs.mapM λf=>do pure (f.offset,<-sizeOf f.type):Sem (Array (Nat×Nat))).run P w=.ok ⟨pl⟩ w:=by
   rw[Array.mapM_eq_mapM_toList];simp only[Sem.run_map,hpl,Result.andThen_ok,List.toArray]
  have hpe:(fun(x:Nat)=>(⟨pl⟩:Array (Nat×Nat))[x]?)=(fun(i:Nat)=>pl[i]?):=by funext x;simp
  have hf:Instr.fill (fun(x:Nat)=>(⟨pl⟩:Array (Nat×Nat))[x]?) z.cells ((ps.map fun(p:Nat×Operand)=>(p.1,a.eval p.2)).toList)=some ⟨out.map (den1 ρ)⟩:=by
   rw[xJ,hpe];exact hr
  simp only[execOp,ho,Instr.build,underlying,Sem.run_bind,hzv,run_program,Result.andThen_ok,h2,Sem.run_pure,hmm,hf];simp[den,den2]
theorem qw3{ei:TypeInfo}{out:List Value}(ho:o.op=.build t ps)(hx:qfb st ps.toList vs)(h1:P.info? t=some ti)(hz:ti.zero=some z)(hp:qap z=true)
  (h2:P.underlying t=some (.array n e)) (h3:P.info? e=some ei) (hout:jf0 (λi=>some (i*ei.size,ei.size)) (qdi z) vs=some out):OKs P o st (.agg ⟨out⟩) [] []:=λst₂ hs _ _=>
 qay λX ρ a w R=>by
  obtain⟨e1,e2⟩:=qgb R _ _ hx (λp hp=>hs p.2 Q9g);have hzv:(zeroValue t).run P w=.ok z w:=by simp[zeroValue,typeInfo,Sem.run_bind,run_program,Result.andThen_ok,h1,hz]
  refine⟨den ρ (.agg ⟨out⟩),?_,λr hr=>qpa hp hout (e2 r hr)⟩;have hr:=qeh (ρ:=ρ) vs _ _ hout;rw[qel hp,<-e1] at hr;have hf:Instr.fill (λi=>some (i*ei.size,ei.size)) z.cells ((ps.map fun(p:Nat×Operand)=>(p.1,a.eval p.2)).toList)=some ⟨out.map (den1 ρ)⟩:=by
   rw[xJ];exact hr
  simp only[execOp,ho,Instr.build,underlying,Sem.run_bind,hzv,run_program,Result.andThen_ok,h2,Sem.run_pure,run_sizeOf h3,hf];simp[den,den2]
theorem q1v{x y:Operand}{f s s':Nat}{ei:TypeInfo}(ho:o.op=.indexAddr t x y)(hx:EvTo x st (.pointer (some ⟨i,f,some s⟩)))(hy:EvTo y st (.int k a))(h1:P.underlying t=some (.array n e))(h2:P.info? e=some ei)(h0:0<=a)(hn:a<n):
  OKs P o st (.pointer (some ⟨i,f+a.toNat*ei.size,some s'⟩)) [] []:=λst₂ hs _ _=>
 qay λX ρ c w R=>by
  obtain⟨hx',hd⟩:=Den.shift (X:=X) (g:=a.toNat*ei.size) ((hs x Q8L _ hx).den R) s';have hy':c.eval y=.int k a:=((hs y Q8L _ hy).den R).self.symm;refine⟨_,?_,hd⟩;simp only[execOp,ho,hx',hy',Instr.indexAt,asIntOf,Instr.sureAddr,underlying,Sem.run_bind,run_program,Result.andThen_ok,h1,Sem.run_pure,h0,hn,and_self,if_true,run_sizeOf h2,qdn,yi]
theorem Den.shiftS{h:Hp}{f g s c:Nat}{x:Value}(hd:Den (Fil h) ρ (.slice (some ⟨i,f,some s⟩) l c) x)(s':Nat):
  x=.slice (some ⟨(ρ i).1,(ρ i).2+f,none⟩) l c/\Den (Fil h) ρ (.pointer (some ⟨i,f+g,some s'⟩)) (.pointer (some ⟨(ρ i).1,(ρ i).2+(f+g),none⟩))/\
   ∀l' c',Den (Fil h) ρ (.slice (some ⟨i,f+g,some s'⟩) l' c') (.slice (some ⟨(ρ i).1,(ρ i).2+(f+g),none⟩) l' c'):=by
 have key:∀r,AgreeOn (Fil h) ρ r->(r i).1=(ρ i).1/\(r i).2=(ρ i).2:=λr hr=>by
  have h1:(.slice (some ⟨(r i).1,(r i).2+f,none⟩) l c:Value)=x:=hd r hr;rw[<-hd.self] at h1
  grind[den,den2,den1,den0,jfd]
 refine⟨hd.self.symm,λr hr=>?_,λl' c' r hr=>?_⟩<;>obtain⟨e1,e2⟩:=key r hr<;>simp[den,den2,den1,den0,jfd,e1,e2]
theorem q1w{x y:Operand}{f s s' c:Nat}{ei:TypeInfo}(ho:o.op=.indexAddr t x y)(hx:EvTo x st (.slice (some ⟨i,f,some s⟩) l c))(hy:EvTo y st (.int k a))(h1:P.underlying t=some (.slice e))(h2:P.info? e=some ei)(h0:0<=a)(hn:a<l):
  OKs P o st (.pointer (some ⟨i,f+a.toNat*ei.size,some s'⟩)) [] []:=λst₂ hs _ _=>
 qay λX ρ c w R=>by
  obtain⟨hx',hd,_⟩:=Den.shiftS (g:=a.toNat*ei.size) ((hs x Q8L _ hx).den R) s';have hy':c.eval y=.int k a:=((hs y Q8L _ hy).den R).self.symm;refine⟨_,?_,hd⟩;exact Q3n
def Bnd(v:Option Value)(dflt most r:Nat):Prop:=
 match v with
 | none=>r=dflt
 | some (.int _ i)=>i=r/\r<=most
 | _=>False
theorem qib{v:Value}{d r:Nat}{code:BoundsCode}(h:Bnd (some v) d n r)(w:World):(Instr.sliceBound v n code).run P w=.ok r w:=by
 cases v with
 | int k i=>
  obtain⟨rfl,hr⟩:=h;have:(0:Int)<=(r:Int)/\(r:Int)<=(n:Int):=by omega
  simp only[Instr.sliceBound,asIntOf,Sem.run_bind,Sem.run_pure,Result.andThen_ok,this,and_self,if_true,yY]
 | _=>exact h.elim
theorem qg2{b:Bool}{len cap h:Nat}{lo hi:Option Value}(h1:Bnd hi len cap h)(h2:Bnd lo 0 h l)(w:World):(Instr.sliceBounds b len cap lo hi none).run P w=.ok (l,h,cap) w:=by
 cases hi with
 | none=>
  obtain rfl:h=len:=h1;cases lo with
  | none=>obtain rfl:l=0:=h2;simp[Instr.sliceBounds,Sem.run_bind]
  | some v=>simp[Instr.sliceBounds,Sem.run_bind,qib h2]
 | some u=>
  cases lo with
  | none=>obtain rfl:l=0:=h2;simp[Instr.sliceBounds,Sem.run_bind,qib h1]
  | some v=>simp[Instr.sliceBounds,Sem.run_bind,qib h1,qib h2]
def OptTo(st:St):Option Operand->Option Value->Prop
 | none,v=>v=none
 | some x,v=>∃k i,v=some (.int k i)/\EvTo x st (.int k i)
theorem qgc{st st₂:St}{a:Act}{x:Option Operand}{v:Option Value}(R:Rel X ρ st₂ a w)(h:OptTo st x v)(hm:∀y∈x,∀u,EvTo y st u->EvTo y st₂ u):x.map a.eval=v:=by
 cases x with
 | none=>obtain rfl:v=none:=h;rfl
 | some y=>
  obtain⟨k,i,rfl,hy⟩:=h;have:=((hm y rfl _ hy).den R).self;rw[yD,<-this];rfl
theorem qw4{x:Operand}{lo hi:Option Operand}{vl vh:Option Value}{f s s' c p q:Nat}{ei:TypeInfo}(ho:o.op=.slice t x lo hi none)(hx:EvTo x st (.slice (some ⟨i,f,some s⟩) l c))(hl:OptTo st lo vl)(hh:OptTo st hi vh)(h1:P.underlying t=some (.slice e))(h2:P.info? e=some ei)
  (hq:Bnd vh l c q) (hp:Bnd vl 0 q p):OKs P o st (.slice (some ⟨i,f+(if c=p then 0 else p*ei.size),some s'⟩) (q-p) (c-p)) [] []:=λst₂ hs _ _=>
 qay λX ρ a w R=>by
  obtain⟨hx',_,hd⟩:=Den.shiftS (g:=if c=p then 0 else p*ei.size) ((hs x Q8L _ hx).den R) s';have e1:=qgc R hl (λy hy=>hs y Q8Y);have e2:=qgc R hh (λy hy=>hs y Q8Y);refine⟨_,?_,hd _ _⟩;refine Q3A ?_;by_cases hc:c=p<;>simp[hc]
theorem qw5{x:Operand}{lo hi:Option Operand}{vl vh:Option Value}{f s s' p q:Nat}{ei:TypeInfo}(ho:o.op=.slice t x lo hi none)(hx:EvTo x st (.pointer (some ⟨i,f,some s⟩)))(hl:OptTo st lo vl)(hh:OptTo st hi vh)(h1:P.underlying t=some (.array n e))(h2:P.info? e=some ei)
  (hq:Bnd vh n n q) (hp:Bnd vl 0 q p):OKs P o st (.slice (some ⟨i,f+(if n=p then 0 else p*ei.size),some s'⟩) (q-p) (n-p)) [] []:=λst₂ hs _ _=>
 qay λX ρ a w R=>by
  have hd0:=(hs x Q8L _ hx).den R;have hx':a.eval x=.pointer (some ⟨(ρ i).1,(ρ i).2+f,none⟩):=hd0.self.symm;have key:∀r,AgreeOn (Fil st₂.h) ρ r->(r i).1=(ρ i).1/\(r i).2=(ρ i).2:=λr hr=>by
   have h1:(.pointer (some ⟨(r i).1,(r i).2+f,none⟩):Value)=a.eval x:=hd0 r hr;rw[hx'] at h1;have h2:((r i).1=(ρ i).1/\(r i).2+f=(ρ i).2+f):=by simpa using h1
   exact⟨h2.1,by omega⟩
  have e1:=qgc R hl (λy hy=>hs y Q8Y);have e2:=qgc R hh (λy hy=>hs y Q8Y);refine⟨.slice (some ⟨(ρ i).1,(ρ i).2+(f+(if n=p then 0 else p*ei.size)),none⟩) (q-p) (n-p),?_,λr hr=>by obtain⟨e1,e2⟩:=key r hr;simp[den,den2,den1,den0,jfd,e1,e2]⟩;simp only[execOp,ho,hx',e1,e2,Instr.sliceAt,Instr.sureAddr,underlying,Sem.run_bind,run_program,Result.andThen_ok,h1,Sem.run_pure,Option.map_none,qg2 hq hp,run_sizeOf h2,qdn,yi];by_cases hc:n=p<;>simp[hc]
theorem qrv{x:Operand}{lo hi:Option Operand}{vl vh:Option Value}{s:ByteArray}{p q:Nat}(ho:o.op=.slice t x lo hi none)(hx:EvTo x st (.string s))(hl:OptTo st lo vl)(hh:OptTo st hi vh)(h1:P.underlying t=some .string)
  (hq:Bnd vh s.size s.size q) (hp:Bnd vl 0 q p):OKs P o st (.string (s.extract p q)) [] []:=λst₂ hs _ _=>
 qay λX ρ a w R=>by
  have hx':a.eval x=.string s:=((hs x Q8L _ hx).den R).self.symm;have e1:=qgc R hl (λy hy=>hs y Q8Y);have e2:=qgc R hh (λy hy=>hs y Q8Y);refine⟨_,?_,Den.plain rfl⟩;simp[execOp,ho,hx',e1,e2,Instr.sliceAt,Instr.slice,underlying,Sem.run_bind,run_program,h1,qg2 hq hp]
theorem q6o{x:Operand}{a:Option Addr}{c:Nat}(ho:o.op=.call ⟨.builtin .len,#[x],#[t]⟩)(hx:EvTo x st (.slice a l c))(h1:P.underlying t=some (.slice e)):OKs P o st (xc l) [] []:=λst₂ hs _ _=>
 qay λX ρ c w R=>by
  have hd:=((hs x Q8T _ hx).den R).self;refine⟨xc l,?_,Den.plain rfl⟩;cases a<;>(simp only[den,den2,den1,den0] at hd;simp[execOp,ho,resolve,invoke,builtin,Builtin.len_,underlying,Sem.run_bind,run_program,h1,<-hd,goInt])
theorem q6p{x y:Operand}{tx ty:TypeId}{ei:TypeInfo}{f s c g u m q:Nat}{ci cj d:Chunk}{v:Value}(ho:o.op=.call ⟨.builtin .copy,#[x,y],#[tx,ty]⟩)(hx:EvTo x st (.slice (some ⟨i,f,some s⟩) l c))(hy:EvTo y st (.slice (some ⟨j,g,some u⟩) m q))
  (h1:P.underlying tx=some (.slice e)) (h2:P.info? e=some ei) (hi:st.h[i]?=some (some ci)) (hj:st.h[j]?=some (some cj)) (hn:n=Nat.min m l) (hr:Reads cj g true (n*ei.size) v) (hf:flatB v (n*ei.size)=true) (hw:Writes ci f (n*ei.size) v d) :
  OKs P o st (xc n) [(i,d)] [j]:=λst₂ hs hh hm=>
 qcv λX ρ a w R=>by
  have hi2:st₂.h[i]?=some (some ci):=(hm _ Q7d).trans hi;have hj2:st₂.h[j]?=some (some cj):=(hh j Q8P).trans hj;have hx':a.eval x=.slice (some ⟨(ρ i).1,(ρ i).2+f,none⟩) l c:=((hs x Q8T _ hx).den R).self.symm;have hy':a.eval y=.slice (some ⟨(ρ j).1,(ρ j).2+g,none⟩) m q:=((hs y Q8T _ hy).den R).self.symm;obtain⟨hl,cs,rfl,hcn,hcf⟩:=hr;have hcell:∀k,(hk:k<cs.toList.length)->∃z,w.cell? ⟨(ρ j).1,(ρ j).2+(g+k),none⟩=some z/\Den1 (Fil st₂.h) ρ cs.toList[k] z:=λk hk=>by
   obtain⟨z,hz,hzd⟩:=R.heap.cell j cj hj2 (g+k) Q8E;have e:=hcf k Q8E;rw[xT,xt hk] at e;simp only[Option.getD_some] at e;rw[e] at hzd;exact⟨z,hz,hzd⟩
  have hcells:∀k z,(cs.toList.map (den1 ρ))[k]?=some z->w.cell? ((⟨(ρ j).1,(ρ j).2+g,none⟩:Addr).add k)=some z:=λk z hz=>by
   have hk:k<cs.toList.length:=by have:=(xg.1 hz).1;simpa using this
   rw[yl,xt hk] at hz;obtain⟨y,hy,hyd⟩:=hcell k hk;rw[qdn,yi,hy,<-hyd.self];exact hz
  have hden:Den (Fil st₂.h) ρ (.agg cs) (.agg (cs.map (den1 ρ))):=λr hr=>by
   refine Q4A ?_;apply xF.1;rw[xJ,xJ];apply yp;intro z hz;obtain⟨k,hk,he⟩:=yF hz;obtain⟨y,hy,hyd⟩:=hcell k hk;rw[he] at hyd;rw[hyd r hr,hyd.self]
  obtain⟨hown,hle,hdnx,hdf⟩:=hw;obtain⟨hdn,hdx⟩:=Prod.mk.inj hdnx;have H0:HOK X ρ (st₂.h.set i (some (qfa ci.x ci.n λk=>if f<=k/\k<f+0 then cellIn (.agg cs) (k-f) else ci.f k))) w:=by
   refine R.heap.say (hx:=.inr rfl) hi2 (λ_=>hown) (nlr _) λk hk=>?_
   have hk':k<ci.n:=hk;rw[qeq hk',if_neg Q8E]
  obtain⟨w',hr,H1⟩:=qhx (P:=P) hi2 hown hle hden hf (n*ei.size) 0 Q8E w H0;have hil:=(xg.1 hi2).1;have H2:=H1.say (hx:=Or.inr (by exact hdx)) (i:=i) (d:=d) Q9G (λ_=>rfl) (by rw[hdn];exact nlr _) λk hk=>by
   rw[hdn] at hk;rw[qeq hk,hdf k hk]
  rw[yX] at H2;refine⟨ρ,xc n,w',?_,AgreeOn.refl _ _,H2,Den.plain rfl⟩;have hlc:(loadCells ⟨(ρ j).1,(ρ j).2+g,none⟩ (n*ei.size)).run P w=.ok (cs.map (den1 ρ)) w:=by
   have:n*ei.size=(cs.toList.map (den1 ρ)).length:=by rw[yW,hcn]
   rw[this,run_loadCells_list _ _ _ hcells];congr 1;apply xF.1;simp
  have hcs:(cs.map (den1 ρ)).toList=(List.range' 0 (n*ei.size)).map (λk=>den1 ρ (cellIn (.agg cs) k)):=by
   have:=qdw hf ρ;rw[List.range_eq_range'] at this;simpa[den,den2,Value.cells] using this
  have hm2:Nat.min m l=n:=hn.symm;simp only[execOp,ho,resolve,Sem.run_bind,Sem.run_pure,Result.andThen_ok,invoke,builtin,Builtin.copy_,yv,xq,yg,hx',hy',underlying,run_program,h1,run_sizeOf h2,Builtin.lenOf,Builtin.firstCells,List.getElem?_toArray,yQ,List.getElem?_cons_succ,hm2,hlc,hcs,hr,goInt]
end
open Go Go.RowKit
def segL(n:Nat)(f:Nat->Value):List Value:=(List.range n).map f
theorem q1x(n:Nat)(f:Nat->Value):(segL n f).length=n:=by simp[segL]
variable{n:Nat}
theorem qic{f:Nat->Value}(h:j<n):(segL n f).getD j undef=f j:=by grind[segL]
def jfj(size:Nat)(z:Value)(j:Nat):Value:=(qdi z).getD (j%size) undef
theorem qs8{c:Nat}{l:List Value}{o:Bool}(hl:l.length=n)(hj:j<n):(⟨o,n,[(0,n,.agg ⟨l⟩)]⟩:Chunk).f j=l.getD j undef:=by
 refine Q3o ?_;rfl
theorem jay{o:Bool}{f:Nat->Value}(h:j<n):(⟨o,n,[(0,n,.agg ⟨segL n f⟩)]⟩:Chunk).f j=f j:=by
 rw[qs8 (c:=0) (q1x n f) h];exact qic h
variable{z:Value}
theorem qmj(hf:flatB z n=true):(qdi z).length=n:=by
 cases z<;>simp_all [flatB,qdi]
theorem qem(hp:qap z=true)(hf:flatB z n=true)(hn:0<n)(ρ:Rz)(j:Nat):z.cells[j%z.cells.size]! = den1 ρ (jfj n z j)/\qbi (jfj n z j)=true:=by
 have h1:=qel hp ρ;have h2:=qmj hf;have h3:z.cells.size=n:=by have:=congrArg List.length h1;simp at this;omega
 have hj:j%n<(qdi z).length:=by rw[h2];exact xo _ hn
 have h4:jfj n z j=(qdi z)[j%n]:=by unfold jfj;rw[xT,xt hj];rfl
 have hpl:qbi (jfj n z j)=true:=by
  rw[h4];cases z with
  | agg cs=>simp only[qap,yf] at hp;exact hp _ (List.getElem_mem _)
  | tuple vs=>simp[qap,qbi] at hp
  | _=>(simp only[qdi,List.length_singleton] at hj;simp only[qdi];simpa[qap] using hp)
 refine⟨?_,hpl⟩;rw[h3,h4];have h5:z.cells.toList[j%n]?=some (den1 ρ (qdi z)[j%n]):=by rw[<-h1,yl,xt hj];rfl
 grind
theorem qks{f:Nat->Value}:(segL n f).map (den1 ρ)=(List.range n).map (λj=>den1 ρ (f j)):=by simp[segL]
theorem Den.news{h:Hp}{i l c:Nat}{d:Chunk}(hl:i<h.length)(h2:(ρ i).2=0):Den (Fil (h.set i (some d))) ρ (.slice (some ⟨i,0,some 0⟩) l c) (.slice (some ⟨(ρ i).1,0,none⟩) l c):=λr hr=>by
 have:=hr i ⟨d,by rw[xG hl]⟩
 grind[den,den2,den1,den0,jfd]
section
variable{P:Program}{o:Oper}{st:St}
variable{z:Value}
theorem qnf{t e:TypeId}{n i:Nat}{ps:Array (Nat×Operand)}{vs:Vz}{ei:TypeInfo}{out:List Value}(ho:o.op=.buildSlice t n ps)(hx:qfb st ps.toList vs)(h2:P.underlying t=some (.slice e))(h3:P.info? e=some ei)
  (hz:ei.zero=some z) (hp:qap z=true) (hfz:flatB z ei.size=true) (hs0:0<ei.size) (hn:n*ei.size<=16777216) (hout:jf0 (λi=>some (i*ei.size,ei.size)) (segL (n*ei.size) (jfj ei.size z)) vs=some out) (hlen:out.length=n*ei.size) (hi:st.h[i]?=some none) :
  OKs P o st (.slice (some ⟨i,0,some 0⟩) n n) [(i,⟨true,n*ei.size,[(0,n*ei.size,.agg ⟨out⟩)]⟩)] []:=λst₂ hs _ hh=>
 qcv λX ρ a w R=>by
  have hi2:st₂.h[i]?=some none:=(hh _ Q7d).trans hi;obtain⟨e1,e2⟩:=qgb R _ _ hx (λp hp=>hs p.2 Q9g);have hzv:(zeroValue e).run P w=.ok z w:=by simp[zeroValue,typeInfo,Sem.run_bind,run_program,Result.andThen_ok,h3,hz]
  have hcells:((Array.range (n*ei.size)).map (z.cells[· % z.cells.size]!))=⟨(segL (n*ei.size) (jfj ei.size z)).map (den1 ρ)⟩:=by
   apply xF.1;rw[qks,xJ,Array.toList_range];exact yp λj _=>(qem hp hfz hs0 ρ j).1
  have hr:=qeh (ρ:=ρ) vs _ _ hout;rw[<-e1] at hr;have hf:Instr.fill (λi=>some (i*ei.size,ei.size)) ⟨(segL (n*ei.size) (jfj ei.size z)).map (den1 ρ)⟩ ((ps.map fun(p:Nat×Operand)=>(p.1,a.eval p.2)).toList)=some ⟨out.map (den1 ρ)⟩:=by
   rw[xJ];exact hr
  have hsame:∀r,AgreeOn (Fil st₂.h) ρ r->out.map (den1 r)=out.map (den1 ρ):=λr hr'=>by
   have k1:=qeh (ρ:=r) vs _ _ hout;have k2:=qeh (ρ:=ρ) vs _ _ hout;have k3:∀r:Rz,(segL (n*ei.size) (jfj ei.size z)).map (den1 r)=segL (n*ei.size) (jfj ei.size z):=λr=>by
    refine(yp λv hv=>?_).trans (List.map_id _);simp only[segL,xE,List.mem_range] at hv;obtain⟨j,_,rfl⟩:=hv;exact qbl (qem hp hfz hs0 r j).2 r
   rw[e2 r hr',k3] at k1;rw[k3,k1] at k2;simpa using k2
  obtain⟨ρ',ha,hρ,H'⟩:=R.heap.alloc (c:=⟨true,n*ei.size,[(0,n*ei.size,.agg ⟨out⟩)]⟩) (xs:=⟨out.map (den1 ρ)⟩) (ty:=e) hi2 (by simp[hlen]) (λj y hy=>by
   have hj:j<out.length:=by have:=(xY.1 hy).1;simpa using this
   rw[qs8 (c:=0) hlen Q8E,xT,xt hj];intro r hr';have:=congrArg (λl=>l[j]?) (hsame r hr');simp only[yl,xt hj,yD] at this;simp only[Option.getD_some];have hy':y=den1 ρ out[j]:=by simpa[hj] using hy.symm
   rw[hy'];simpa using this)
  refine⟨ρ',.slice (some ⟨w.heap.size,0,none⟩) n n,_,?_,ha,H',?_⟩
  .have g1:¬ n*ei.size > 2^24:=by omega
   by_cases g2:n*ei.size=0
   .have hc0:((Array.range (n*ei.size)).map ((#[]:Array Value)[· % (#[]:Array Value).size]!))=⟨(segL (n*ei.size) (jfj ei.size z)).map (den1 ρ)⟩:=by rw[g2];apply xF.1;simp[segL]
    simp only[execOp,ho,Instr.buildSlice,underlying,Sem.run_bind,run_program,Result.andThen_ok,h2,Sem.run_pure,run_sizeOf h3,g1,if_pos g2,if_false];rw[hc0,hf];rfl
   .exact Q3q
  .have:=Den.news (h:=st₂.h) (d:=⟨true,n*ei.size,[(0,n*ei.size,.agg ⟨out⟩)]⟩) (l:=n) (c:=n) (ρ:=ρ') (xg.1 hi2).1 (by rw[hρ]);rw[hρ] at this;exact this
theorem qpb{t e:TypeId}{x y:Operand}{k k':IntKind}{n i:Nat}{ei:TypeInfo}(ho:o.op=.makeSlice t x y)(hx:EvTo x st (.int k n))(hy:EvTo y st (.int k' n))(h2:P.underlying t=some (.slice e))(h3:P.info? e=some ei)
  (hz:ei.zero=some z) (hp:qap z=true) (hfz:flatB z ei.size=true) (hs0:0<ei.size) (hb:ei.bytes*n<=281474976710656) (hn:n<=9223372036854775807) (hi:st.h[i]?=some none) :
  OKs P o st (.slice (some ⟨i,0,some 0⟩) n n) [(i,⟨true,n*ei.size,[(0,n*ei.size,.agg ⟨segL (n*ei.size) (jfj ei.size z)⟩)]⟩)] []:=λst₂ hs _ hh=>
 qcv λX ρ a w R=>by
  have hi2:st₂.h[i]?=some none:=(hh _ Q7d).trans hi;have hx':a.eval x=.int k n:=((hs x Q8L _ hx).den R).self.symm;have hy':a.eval y=.int k' n:=((hs y Q8L _ hy).den R).self.symm;have hcells:madeCells z.cells (n*ei.size)=⟨(segL (n*ei.size) (jfj ei.size z)).map (den1 ρ)⟩:=by
   apply xF.1;rw[qks,madeCells,xJ,Array.toList_range];exact yp λj _=>(qem hp hfz hs0 ρ j).1
  obtain⟨ρ',ha,hρ,H'⟩:=R.heap.alloc (c:=⟨true,n*ei.size,[(0,n*ei.size,.agg ⟨segL (n*ei.size) (jfj ei.size z)⟩)]⟩) (xs:=madeCells z.cells (n*ei.size)) (ty:=e) hi2 (by simp[madeCells]) (λj y hy=>by
   have hj:j<n*ei.size:=by have:=(xY.1 hy).1;simpa[madeCells] using this
   rw[hcells] at hy;rw[jay hj];have hy2:y=den1 ρ (jfj ei.size z j):=by simpa[segL,hj] using hy.symm
   have hpl:=(qem hp hfz hs0 ρ j).2;rw[hy2,qbl hpl];exact λr _=>qbl hpl r)
  have hr:=run_make (P:=P) w t e ei z h2 h3 hz k k' n n Q8E (Int.le_refl _) (by rw[<-yh];omega) Q8E;simp only[yY] at hr;refine⟨ρ',.slice (some ⟨w.heap.size,0,none⟩) n n,_,?_,ha,H',?_⟩
  .exact Q4O
  .have:=Den.news (h:=st₂.h) (d:=⟨true,n*ei.size,[(0,n*ei.size,.agg ⟨segL (n*ei.size) (jfj ei.size z)⟩)]⟩) (l:=n) (c:=n) (ρ:=ρ') (xg.1 hi2).1 (by rw[hρ]);rw[hρ] at this;exact this
abbrev zX:Ext where
 inv:=λp S w=>(∀b,S b↔b=p.1)/\p.1<w.heap.size
 keep:=λ{p S w w'} h hb=>⟨h.1,by
  have h1:=hb p.1 ((h.1 _).2 rfl);have h2:w.heap[p.1]?=some (w.heap[p.1]'h.2):=zx h.2;rw[h2] at h1;exact(xY.1 h1).1⟩
abbrev zC:Chunk:=@Chunk.mk zX true 0 []
theorem qng{t e:TypeId}{x y:Operand}{k k':IntKind}{i:Nat}{ei:TypeInfo}(ho:o.op=.makeSlice t x y)(hx:EvTo x st (.int k 0))(hy:EvTo y st (.int k' 0))(h2:P.underlying t=some (.slice e))(h3:P.info? e=some ei)
  (hz:ei.zero=some z) (hp:qap z=true) (hfz:flatB z ei.size=true) (hs0:0<ei.size) (hi:st.h[i]?=some none) :
  OKs P o st (.slice (some ⟨i,0,some 0⟩) 0 0) [(i,zC)] []:=λst₂ hs _ hh=>
 qcv λX ρ a w R=>by
  have hi2:st₂.h[i]?=some none:=(hh _ Q7d).trans hi;have hx':a.eval x=.int k 0:=((hs x Q8L _ hx).den R).self.symm;have hy':a.eval y=.int k' 0:=((hs y Q8L _ hy).den R).self.symm;have hr:=run_make (P:=P) w t e ei z h2 h3 hz k k' 0 0 Q8E (Int.le_refl _) Q8E Q8E;simp only[Int.toNat_zero,yw] at hr;have hsz:(w.alloc (.cells (madeCells z.cells 0) e)).heap.size=w.heap.size+1:=by show(w.heap.push _).size=_;simp
  obtain⟨ρ',ha,hρ,H'⟩:=R.heap.newX hi2 (d:=zC) rfl ((Below.refl w.heap.size w).alloc (nlr _) (.cells (madeCells z.cells 0) e)) (b0:=w.heap.size) (S':=λb=>b=w.heap.size) Q8E (by intro b hb;omega) ⟨λb=>Iff.rfl,by omega⟩;refine⟨ρ',.slice (some ⟨w.heap.size,0,none⟩) 0 0,_,?_,ha,H',?_⟩
  .exact Q4O
  .have:=Den.news (h:=st₂.h) (d:=zC) (l:=0) (c:=0) (ρ:=ρ') (xg.1 hi2).1 (by rw[hρ]);rw[hρ] at this;exact this
end
def EffAll(P:Program)(o:Oper)(st:St)(K:Value->Mz->Prop):Prop:=
 ∀X ρ a w,Rel X ρ st a w->∀(next:Act->World->Prop)(Q:Exit->Act->World->Prop),
  (∀v ms ρ' x w',K v ms->After X ρ st v ms ρ' x w'->next (a.put o.dst x) w')->o.wp P a w next Q
def grown(ci:Chunk)(l m size:Nat)(v z:Value)(cap:Nat):Chunk:=
 ⟨true,cap*size,[(l*size,m*size,v),(0,l*size,.agg ⟨segL (l*size) ci.f⟩),(0,cap*size,.agg ⟨segL (cap*size) (jfj size z)⟩)]⟩
variable{ci:Chunk}
theorem qid{l m size cap:Nat}{v:Value}(h:j<l*size):(grown ci l m size v z cap).f j=ci.f j:=by
 refine Q39 ?_;rw[qar,if_neg Q8E,qar,if_pos Q8E];exact qic h
theorem qie{l m size cap:Nat}{v:Value}(h:j<m*size):(grown ci l m size v z cap).f (l*size+j)=cellIn v j:=by
 refine Q39 ?_
 grind[qar]
theorem qg3{l m size cap:Nat}{v:Value}(h1:(l+m)*size<=j)(h2:j<cap*size):(grown ci l m size v z cap).f j=jfj size z j:=by
 rw[xO] at h1;refine Q39 ?_;rw[qar,if_neg Q8E,qar,if_neg Q8E,qar,if_pos Q8E];exact qic h2
section
variable{P:Program}{o:Oper}{st:St}
variable{w:World}
theorem qc3{x y:Operand}{t:TypeId}{a:Act}{w':World}{v:Value}(ho:o.op=.call ⟨.builtin .append,#[x,y],#[t,t]⟩)(h:(Builtin.append_ #[t,t] o.type #[a.eval x,a.eval y]).run P w=.ok v w'):(execOp a.eval o).run P w=.ok (.value v) w':=by
 simp only[execOp,ho,resolve,invoke,builtin,Sem.run_bind,Sem.run_pure,Result.andThen_ok,yv,xq,yg,h]
variable{ρ:Rz}{cj:Chunk}
theorem qhy{X:Ctx}{h:Hp}{j g n:Nat}{v:Value}(H:HOK X ρ h w)(hj:h[j]?=some (some cj))(hr:Reads cj g true n v):
  ∃cs:List Value,v=.agg ⟨cs⟩/\cs.length=n/\(∀k u,(cs.map (den1 ρ))[k]?=some u->w.cell? ((⟨(ρ j).1,(ρ j).2+g,none⟩:Addr).add k)=some u)/\∀k,(hk:k<cs.length)->Den1 (Fil h) ρ cs[k] (den1 ρ cs[k]):=by
 obtain⟨hl,⟨cs⟩,rfl,hcn,hcf⟩:=hr
 have hcn:cs.length=n:=hcn
 have hcell:∀k,(hk:k<cs.length)->∃z,w.cell? ⟨(ρ j).1,(ρ j).2+(g+k),none⟩=some z/\Den1 (Fil h) ρ cs[k] z:=λk hk=>by
  obtain⟨z,hz,hzd⟩:=H.cell j cj hj (g+k) Q8E
  grind
 refine⟨cs,rfl,hcn,λk u hu=>?_,λk hk=>?_⟩
 .have hk:k<cs.length:=by have:=(xg.1 hu).1;simpa using this
  rw[yl,xt hk] at hu;obtain⟨y,hy,hyd⟩:=hcell k hk;rw[qdn,yi,hy,<-hyd.self];exact hu
 .obtain⟨y,hy,hyd⟩:=hcell k hk;rw[hyd.self];exact hyd
variable{z:Value}
theorem qpc{X:Ctx}{h:Hp}{e:TypeId}{i l m size cap:Nat}{ci:Chunk}{cs:List Value}{olds:List Value}(H:HOK X ρ h w)(hi:h[i]?=some none)(hs0:0<size)(hp:qap z=true)(hfz:flatB z size=true)(hcs:cs.length=m*size)(hd:∀k,(hk:k<cs.length)->Den1 (Fil h) ρ cs[k] (den1 ρ cs[k]))
  (ho:olds.length=l*size) (hod:∀k,(hk:k<olds.length)->Den1 (Fil h) ρ (ci.f k) olds[k]) (hcap:l+m<=cap) :
  ∃ρ',AgreeOn (Fil h) ρ ρ'/\ρ' i=(w.heap.size,0)/\HOK X ρ' (h.set i (some (grown ci l m size (.agg ⟨cs⟩) z cap))) (w.drew.alloc (.cells (olds.toArray++(cs.map (den1 ρ)).toArray++Builtin.zeroCells z.cells (cap-(l+m))) e)):=by
 have h3:z.cells.size=size:=by have:=congrArg List.length (qel hp ρ);have h2:=qmj hfz;simp at this;omega
 have hm1:(l+m)*size+(cap-(l+m))*size=cap*size:=by rw[<-xO];congr 1;omega
 have hm2:(l+m)*size=l*size+m*size:=xO _ _ _
 have Hd:=H.drew
 have hsz:w.drew.heap.size=w.heap.size:=rfl
 obtain⟨ρ',ha,hρ,H'⟩:=Hd.alloc (c:=grown ci l m size (.agg ⟨cs⟩) z cap) (xs:=olds.toArray++(cs.map (den1 ρ)).toArray++Builtin.zeroCells z.cells (cap-(l+m))) (ty:=e) hi (by
   show cap*size=_;simp only[Array.size_append,List.size_toArray,yW,size_zeroCells,ho,hcs,h3];omega) (λj y hy=>by
  rw[Array.getElem?_append,Array.getElem?_append] at hy
  simp only[Array.size_append,List.size_toArray,yW,ho,hcs,List.getElem?_toArray] at hy
  by_cases h1:j<l*size
  .grind[qid]
  .by_cases h2:j<l*size+m*size
   .rw[if_pos h2,if_neg h1] at hy;have hk:j-l*size<cs.length:=by omega
    have e1:=qie (ci:=ci) (l:=l) (m:=m) (size:=size) (cap:=cap) (v:=.agg ⟨cs⟩) (z:=z) (j:=j-l*size) Q8E
    grind[cellIn]
   .rw[if_neg h2] at hy;have hlt:j-(l*size+m*size)<(cap-(l+m))*size:=by
     have:=(xY.1 hy).1;rw[size_zeroCells,h3] at this;exact this
    rw[qg3 Q8E Q8E];have hq:=(qem hp hfz hs0 ρ j);have hmod:(j-(l*size+m*size))%size=j%size:=by
     have e2:j=(j-(l*size+m*size))+(l+m)*size:=by omega
     rw[e2,zq];congr 1;omega
    simp only[Builtin.zeroCells,h3] at hy;have:y=z.cells[(j-(l*size+m*size))%size]!:=by simpa[hlt] using hy.symm
    rw[this,hmod];have e3:=hq.1;rw[h3] at e3;rw[e3,qbl hq.2];exact λr _=>qbl hq.2 r)
 rw[hsz] at hρ
 exact⟨ρ',ha,hρ,H'⟩
variable{K:Value->Mz->Prop}
theorem qhr{x y:Operand}{t e:TypeId}{ei:TypeInfo}{i j g u m q:Nat}{v:Value}(ho:o.op=.call ⟨.builtin .append,#[x,y],#[t,t]⟩)(hx:EvTo x st (.slice none 0 0))(hy:EvTo y st (.slice (some ⟨j,g,some u⟩) m q))
  (h1:P.underlying t=some (.slice e)) (h2:P.info? e=some ei) (hz:ei.zero=some z) (hp:qap z=true) (hfz:flatB z ei.size=true) (hs0:0<ei.size) (hj:st.h[j]?=some (some cj)) (hr:Reads cj g true (m*ei.size) v) (hm:0<m) (h63:m<=9223372036854775807) (hb:m*ei.bytes<=140737488355328) (hi:st.h[i]?=some none)
  (hK:∀cap,m<=cap->K (.slice (some ⟨i,0,some 0⟩) m cap) [(i,grown ⟨true,0,[]⟩ 0 m ei.size v z cap)]):EffAll P o st K:=λX ρ a w R next Q hn=>by
 have hx':a.eval x=.slice none 0 0:=(hx.den R).self.symm
 have hy':a.eval y=.slice (some ⟨(ρ j).1,(ρ j).2+g,none⟩) m q:=(hy.den R).self.symm
 obtain⟨cs,rfl,hcl,hcc,hcd⟩:=qhy R.heap hj hr
 have hrun:=run_append_nil (P:=P) w t o.type e ei z h1 h2 hz ⟨(ρ j).1,(ρ j).2+g,none⟩ m q (cs.map (den1 ρ)) Q9V hcc hm Q8E Q8E
 have hge:=grownCap_ge w m 0 e
 obtain⟨ρ',ha,hρ,H'⟩:=qpc (e:=e) (ci:=⟨true,0,[]⟩) (olds:=[]) (l:=0) (m:=m) (cap:=grownCap w m 0 e) R.heap hi hs0 hp hfz hcl hcd Q8P (λk hk=>absurd hk Q8P) Q8E
 simp only[List.nil_append,xr,List.toArray,Array.empty_append] at H'
 have hrun2:=qc3 (P:=P) (o:=o) (x:=x) (y:=y) (t:=t) (a:=a) ho Q9B
 unfold Oper.wp
 rw[hrun2]
 refine hn _ _ ρ' _ _ (hK (grownCap w m 0 e) hge) ⟨ha,?_,?_⟩
 .exact H'
 .have:=Den.news (h:=st.h) (d:=grown ⟨true,0,[]⟩ 0 m ei.size (.agg ⟨cs⟩) z (grownCap w m 0 e)) (l:=m) (c:=grownCap w m 0 e) (ρ:=ρ') (xg.1 hi).1 (by rw[hρ]);rw[hρ] at this;exact this
theorem qgd{x y:Operand}{t e:TypeId}{ei:TypeInfo}{j g u q:Nat}(ho:o.op=.call ⟨.builtin .append,#[x,y],#[t,t]⟩)(hx:EvTo x st (.slice none 0 0))(hy:EvTo y st (.slice (some ⟨j,g,some u⟩) 0 q))
  (h1:P.underlying t=some (.slice e)) (h2:P.info? e=some ei) (hK:K (.slice none 0 0) []):EffAll P o st K:=λX ρ a w R next Q hn=>by
 have hx':a.eval x=.slice none 0 0:=(hx.den R).self.symm
 have hy':a.eval y=.slice (some ⟨(ρ j).1,(ρ j).2+g,none⟩) 0 q:=(hy.den R).self.symm
 have hf:=run_firstCells_some (P:=P) w ei.size 0 ⟨(ρ j).1,(ρ j).2+g,none⟩ 0 q [] Q8P Q8P
 have hrun:(Builtin.append_ #[t,t] o.type #[.slice none 0 0,.slice (some ⟨(ρ j).1,(ρ j).2+g,none⟩) 0 q]).run P w=.ok (.slice none 0 0) w:=by
  simp[Builtin.append_,run_underlying h1,run_sizeOf h2,Builtin.lenOf,hf,storeCells]
 have hrun2:=qc3 (P:=P) (o:=o) (x:=x) (y:=y) (t:=t) (a:=a) ho Q9B
 unfold Oper.wp
 rw[hrun2]
 exact hn _ _ ρ _ _ hK ⟨AgreeOn.refl _ _,R.heap,λr hr=>rfl⟩
theorem qmk{x y:Operand}{t e:TypeId}{ei:TypeInfo}{i k s l c j g u m q:Nat}{ci:Chunk}{v:Value}(ho:o.op=.call ⟨.builtin .append,#[x,y],#[t,t]⟩)(hx:EvTo x st (.slice (some ⟨k,0,some s⟩) l c))(hy:EvTo y st (.slice (some ⟨j,g,some u⟩) m q))
  (h1:P.underlying t=some (.slice e)) (h2:P.info? e=some ei) (hz:ei.zero=some z) (hp:qap z=true) (hfz:flatB z ei.size=true) (hs0:0<ei.size) (hk:st.h[k]?=some (some ci)) (hln:l*ei.size<=ci.n) (hj:st.h[j]?=some (some cj)) (hr:Reads cj g true (m*ei.size) v) (hf:flatB v (m*ei.size)=true) (h63:l+m<=9223372036854775807) (hb:(l+m)*ei.bytes<=140737488355328) (hi:st.h[i]?=some none)
  (hroom:l+m<=c->∃d,Writes ci (l*ei.size) (m*ei.size) v d/\K (.slice (some ⟨k,0,some s⟩) (l+m) c) [(k,d)])
  (hK:c<l+m->∀cap,l+m<=cap->K (.slice (some ⟨i,0,some 0⟩) (l+m) cap) [(i,grown ci l m ei.size v z cap)]):EffAll P o st K:=λX ρ a w R next Q hn=>by
 have hdx:=hx.den R
 have hx':a.eval x=.slice (some ⟨(ρ k).1,(ρ k).2+0,none⟩) l c:=hdx.self.symm
 have hy':a.eval y=.slice (some ⟨(ρ j).1,(ρ j).2+g,none⟩) m q:=(hy.den R).self.symm
 obtain⟨cs,hv,hcl,hcc,hcd⟩:=qhy R.heap hj hr
 by_cases hc:l+m<=c
 .obtain⟨d,⟨hown,hle,hdnx,hdf⟩,hK'⟩:=hroom hc;obtain⟨hdn,hdx⟩:=Prod.mk.inj hdnx;have hden:Den (Fil st.h) ρ v (den ρ v):=λr hr'=>by
   subst hv;refine Q4A ?_;apply xF.1;rw[xJ,xJ];apply yp;intro z' hz';obtain⟨k',hk',he⟩:=yF hz';have hk'':k'<cs.length:=hk';have:=hcd k' hk'' r hr';simp_all
  have H0:HOK X ρ (st.h.set k (some (qfa ci.x ci.n λb=>if l*ei.size<=b/\b<l*ei.size+0 then cellIn v (b-l*ei.size) else ci.f b))) w:=by
   refine R.heap.say (hx:=.inr rfl) hk (λ_=>hown) (nlr _) λb hb'=>?_
   have hb'':b<ci.n:=hb'
   grind[qeq]
  obtain⟨w',hrw,H1⟩:=qhx (P:=P) hk hown hle hden hf (m*ei.size) 0 Q8E w H0;have hil:=(xg.1 hk).1;have H2:=H1.say (hx:=Or.inr (by exact hdx)) (i:=k) (d:=d) Q9G (λ_=>rfl) (by rw[hdn];exact nlr _) λb hb'=>by
   grind[qeq]
  rw[yX] at H2;have hfc:=run_firstCells_some (P:=P) w ei.size m ⟨(ρ j).1,(ρ j).2+g,none⟩ m q (cs.map (den1 ρ)) Q9V hcc;have hcs:cs.map (den1 ρ)=(List.range' 0 (m*ei.size)).map (λb=>den1 ρ (cellIn v b)):=by
   have:=qdw hf ρ;rw[List.range_eq_range'] at this;subst hv;simpa[den,den2,Value.cells] using this
  have hrun:(Builtin.append_ #[t,t] o.type #[a.eval x,a.eval y]).run P w=.ok (.slice (some ⟨(ρ k).1,(ρ k).2+0,none⟩) (l+m) c) w':=by
   rw[hx',hy'];simp only[Builtin.append_,List.getElem?_toArray,yQ,List.getElem?_cons_succ,Sem.run_bind,run_underlying h1,Result.andThen_ok,run_sizeOf h2,Sem.run_pure,Builtin.lenOf,hfc,if_pos hc,List.toList_toArray,qdn];simp only[xz,yc,if_true,if_false,Sem.run_bind,Sem.run_pure,Result.andThen_ok,hfc,if_pos hc,List.toList_toArray,xZ];simp_all
  have hrun2:=qc3 (P:=P) (o:=o) (x:=x) (y:=y) (t:=t) (a:=a) ho hrun;unfold Oper.wp;rw[hrun2];refine hn _ _ ρ _ _ hK' ⟨AgreeOn.refl _ _,H2,λr hr'=>?_⟩;have h3:=hr' k ⟨d,by rw[show modH st.h [(k,d)]=st.h.set k (some d) from rfl,xG hil]⟩;simp only[den,den2,den1,den0,jfd,h3]
 .have hg:c<l+m:=by omega
  have holds:∀b u',((List.range (l*ei.size)).map λb=>den1 ρ (ci.f b))[b]?=some u'->w.cell? ((⟨(ρ k).1,(ρ k).2+0,none⟩:Addr).add b)=some u':=λb u' hu=>by
   have hb':b<l*ei.size:=by have:=(xg.1 hu).1;simpa using this
   obtain⟨y',hy1,hy2⟩:=R.heap.cell k ci hk b Q8E;rw[qdn,xZ,hy1,<-hy2.self];simp_all
  have hrun:=run_append_grow (P:=P) w t o.type e ei z h1 h2 hz ⟨(ρ k).1,(ρ k).2+0,none⟩ l c ((List.range (l*ei.size)).map λb=>den1 ρ (ci.f b)) Q8P holds ⟨(ρ j).1,(ρ j).2+g,none⟩ m q (cs.map (den1 ρ)) Q9V hcc hg Q8E (growslice_fits hg hb);have hge:=grownCap_ge w (l+m) c e;obtain⟨ρ',ha,hρ,H'⟩:=qpc (e:=e) (ci:=ci) (olds:=(List.range (l*ei.size)).map λb=>den1 ρ (ci.f b)) (l:=l) (m:=m) (cap:=grownCap w (l+m) c e) R.heap hi hs0 hp hfz hcl hcd Q8P (λb hb'=>by
   have hb'':b<l*ei.size:=by simpa using hb'
   obtain⟨y',hy1,hy2⟩:=R.heap.cell k ci hk b Q8E;simp only[List.getElem_map,List.getElem_range];rw[hy2.self];exact hy2) hge
  rw[<-hv] at H';have hrun2:=qc3 (P:=P) (o:=o) (x:=x) (y:=y) (t:=t) (a:=a) ho Q9B;unfold Oper.wp;rw[hrun2];refine hn _ _ ρ' _ _ (hK hg (grownCap w (l+m) c e) hge) ⟨ha,H',?_⟩;have:=Den.news (h:=st.h) (d:=grown ci l m ei.size v z (grownCap w (l+m) c e)) (l:=l+m) (c:=grownCap w (l+m) c e) (ρ:=ρ') (xg.1 hi).1 (by rw[hρ]);rw[hρ] at this;exact this
end
open Go Go.RowKit
def qw6(P:Program)(g:FuncId)(xs:List Value)(w:World)(R:Value->World->Prop):Prop:=
 (∃x w',(callFunc g ⟨xs⟩).run P w=.ok (.value x) w'/\R x w')\/
 ((callFunc g ⟨xs⟩).run P w=.ok (.enter g ⟨xs⟩) w/\Calls P g ⟨xs⟩ w λe w'=>∃x,e=.returned x/\R x w')
def qae(P:Program)(g:FuncId)(vs:List Value)(h:Hp)(v:Value)(ms:Mz)(rh:List Nat):Prop:=
 ∀h₂:Hp,(∀i∈rh,h₂[i]?=h[i]?)->(∀m∈ms,h₂[m.1]?=h[m.1]?)->∀X ρ w xs,HOK X ρ h₂ w->All2 (Den (Fil h₂) ρ) vs xs->
  qw6 P g xs w λx w'=>∃ρ',AgreeOn (Fil h₂) ρ ρ'/\HOK X ρ' (modH h₂ ms) w'/\Den (Fil (modH h₂ ms)) ρ' v x
theorem qnh{X:Ctx}{ρ:Rz}{st st₂:St}{a:Act}{w:World}(R:Rel X ρ st₂ a w):∀(zs:List Operand)(qs:List Value),All2 (λx v=>EvTo x st v) zs qs->(∀x∈zs,∀u,EvTo x st u->EvTo x st₂ u)->
  All2 (Den (Fil st₂.h) ρ) qs (zs.map a.eval)
 | [],[],_,_=>trivial
 | [],_::_,h,_=>h.elim
 | _::_,[],h,_=>h.elim
 | z::zs,q::qs,h,hm=>⟨(hm z Q8P q h.1).den R,qnh R zs qs h.2 λx hx=>hm x Q9U⟩
theorem qer{α β:Type}{p:α->β->Prop}:∀{a c:List α}{b d:List β},All2 p a b->All2 p c d->All2 p (a++c) (b++d)
 | [],c,[],d,_,h=>h
 | [],_,_::_,_,h,_=>h.elim
 | _::_,_,[],_,h,_=>h.elim
 | x::a,c,y::b,d,h,k=>⟨h.1,qer h.2 k⟩
def cap1(v:Value):Bool:=
 match v with
 | .func _ _ _ | .agg _ | .tuple _=>false
 | _=>true
theorem Den.caps{fn:Fn}{us cs:List Value}{x:Value}(h:Den F ρ (.func fn ⟨us⟩ ⟨cs⟩) x)(hu:us.all cap1=true)(hc:cs.all cap1=true):
  x=.func fn ⟨us.map (den0 ρ)⟩ ⟨cs.map (den0 ρ)⟩/\All2 (Den F ρ) us (us.map (den0 ρ))/\All2 (Den F ρ) cs (cs.map (den0 ρ)):=by
 have e:∀r,den r (.func fn ⟨us⟩ ⟨cs⟩)=.func fn ⟨us.map (den0 r)⟩ ⟨cs.map (den0 r)⟩:=λr=>by simp[den,den2,den1]
 have key:∀(l:List Value),l.all cap1=true->(∀r,AgreeOn F ρ r->l.map (den0 r)=l.map (den0 ρ))->All2 (Den F ρ) l (l.map (den0 ρ)):=by
  intro l
  induction l with
  | nil=>intro _ _;exact trivial
  | cons v l ih=>
   intro hl hm;simp only[yq,xp] at hl;refine⟨λr hr=>?_,ih hl.2 λr hr=>?_⟩
   .have:=hm r hr;simp only[xq,List.cons.injEq] at this;rw[<-this.1];cases v<;>first|rfl|(simp[cap1] at hl)
   simp_all
 have h2:∀r,AgreeOn F ρ r->us.map (den0 r)=us.map (den0 ρ)/\cs.map (den0 r)=cs.map (den0 ρ):=λr hr=>by
  have:=(h r hr).trans h.self.symm;simp_all
 exact⟨h.self.symm.trans (e ρ),key us hu (λr hr=>(h2 r hr).1),key cs hc λr hr=>(h2 r hr).2⟩
section
variable{P:Program}{G:Tys}{o:Oper}{st:St}
variable{ts:Array TypeId}
theorem qw7{f:Operand}{xs:Array Operand}{g:FuncId}{us vs cs:List Value}{v:Value}{ms:Mz}{rh:List Nat}(ho:o.op=.call ⟨.value f,xs,ts⟩)(hf:EvTo f st (.func (.func g) ⟨us⟩ ⟨cs⟩))(hu:us.all cap1=true)(hc:cs.all cap1=true)
  (hx:All2 (λx v=>EvTo x st v) xs.toList vs) (h:qae P g (us++vs++cs) st.h v ms rh):OKs P o st v ms rh:=λst₂ hs hr hm X ρ a w R next Q hn=>by
 obtain⟨e1,d1,d2⟩:=((hs f Q8T _ hf).den R).caps hu hc
 have d3:=qnh R xs.toList vs hx (λx hx=>hs x (by simp[ho,Op.operands,Call.operands];right;simpa using hx))
 have hk:=h st₂.h hr hm X ρ w _ R.heap (qer (qer d1 d3) d2)
 have hrun:(execOp a.eval o).run P w=(callFunc g ⟨us.map (den0 ρ)++xs.toList.map a.eval++cs.map (den0 ρ)⟩).run P w:=Q3L
 unfold Oper.wp
 rw[hrun]
 rcases hk with ⟨x,w',hr,ρ',ha,hh,hd⟩|⟨hr,hcl⟩
 .rw[hr];exact hn ρ' x w' ⟨ha,hh,hd⟩
 .rw[hr];refine hcl.mono λe w' ⟨x,he,ρ',ha,hh,hd⟩=>?_
  subst he;exact hn ρ' x w' ⟨ha,hh,hd⟩
variable{i:Nat}{c:Chunk}
theorem qw8{h:Hp}(hl:i<h.length):Fil (modH h [(i,c)]) i:=⟨c,by show(h.set i (some c))[i]?=_;rw[xG hl]⟩
def Turns{α:Type}(P:Program)(c d:Chunk)(f:Nat->Sem α)(a:α):Prop:=
 (d.own=true->c.own=true)/\d.n=0/\∀p S w,c.x.inv p S w->S p.1/\∃w',(f p.1).run P w=.ok a w'/\w'.os=w.os/\w'.tape=w.tape/\w'.output=w.output/\w'.heap.size=w.heap.size/\(∀b,b≠p.1->w'.heap[b]?=w.heap[b]?)/\d.x.inv p S w'
theorem Turns.go{α:Type}{d:Chunk}{f:Nat->Sem α}{a:α}{X:Ctx}{ρ:Rz}{h:Hp}{w:World}(T:Turns P c d f a)(H:HOK X ρ h w)(hi:h[i]?=some (some c)):∃w',(f (ρ i).1).run P w=.ok a w'/\HOK X ρ (h.set i (some d)) w':=by
 obtain⟨S,E⟩:=H.ext;obtain⟨hs,w',hr,h1,h2,h3,h4,h5,h6⟩:=T.2.2 (ρ i) (S i) w (E.inv i c hi);exact⟨w',hr,H.turnX E hi T.1 (by rw[T.2.1];exact xn _) (λj hj=>by rw[T.2.1] at hj;omega) h1 h2 h3 (yx h4.symm) (λb _ hb=>h5 b λe=>hb (e▸hs)) (λb hb=>⟨by rw[h4];exact(E.mine i c b hi hb).2.1,.inl T.2.1,.inl hb⟩) h6⟩
variable{t:TypeId}
theorem qw9{x y:Operand}{b:Bool}{q v:Value}(ho:o.op=.lookup t x y b)(hx:EvTo x st (.map (some i)))(hy:EvTo y st q)(hq:qap q=true)(hi:st.h[i]?=some (some c))(hp:∀ρ,den ρ v=v)
  (hr:∀p S w,c.x.inv p S w->(Instr.lookup t (.map (some p.1)) q b).run P w=.ok v w):OKs P o st v [] [i]:=λst₂ hs hh _=>
 qay λX ρ a w R=>by
  have hi2:st₂.h[i]?=some (some c):=(hh i Q7d).trans hi;have hx':a.eval x=.map (some (ρ i).1):=((hs x Q8L _ hx).den R).self.symm;have hy':a.eval y=q:=by rw[<-((hs y Q8L _ hy).den R).self,qbb hq]
  obtain⟨S,E⟩:=R.heap.ext;refine⟨v,?_,λr _=>hp r⟩;simp only[execOp,ho,hx',hy',Sem.run_bind,hr _ _ _ (E.inv i c hi2),Result.andThen_ok];rfl
theorem qpd{x y z:Operand}{d:Chunk}{q u:Value}(ho:o.op=.mapUpdate t x y z)(hx:EvTo x st (.map (some i)))(hy:EvTo y st q)(hq:qap q=true)(hz:EvTo z st u)(hu:qap u=true)(hi:st.h[i]?=some (some c))
  (T:Turns P c d (λb=>Instr.mapUpdate t (.map (some b)) q u) ()):OKs P o st undef [(i,d)] []:=λst₂ hs _ hh=>
 qnd λX ρ a w R=>Q1J
theorem qrw{x y:Operand}{d:Chunk}{q v:Value}(ho:o.op=.mapEntry t x y)(hx:EvTo x st (.map (some i)))(hy:EvTo y st q)(hq:qap q=true)(hi:st.h[i]?=some (some c))(hp:∀ρ,den ρ v=v)
  (T:Turns P c d (λb=>Instr.mapEntry t (.map (some b)) q) v):OKs P o st v [(i,d)] []:=λst₂ hs _ hh=>
 qcv λX ρ a w R=>by
  have hi2:st₂.h[i]?=some (some c):=(hh _ Q7d).trans hi;have hx':a.eval x=.map (some (ρ i).1):=((hs x Q8L _ hx).den R).self.symm;have hy':a.eval y=q:=by rw[<-((hs y Q8L _ hy).den R).self,qbb hq]
  obtain⟨w',hr,H⟩:=T.go R.heap hi2;refine⟨ρ,v,w',?_,AgreeOn.refl _ _,H,λr _=>hp r⟩;simp only[execOp,ho,hx',hy',Sem.run_bind,hr,Result.andThen_ok];rfl
theorem qni{x y z:Operand}{d:Chunk}{q u:Value}(ho:o.op=.entryStore t x y z)(hx:EvTo x st (.map (some i)))(hy:EvTo y st q)(hq:qap q=true)(hz:EvTo z st u)(hu:qap u=true)(hi:st.h[i]?=some (some c))
  (T:Turns P c d (λb=>Instr.entryStore t (.map (some b)) q u) ()):OKs P o st undef [(i,d)] []:=λst₂ hs _ hh=>
 qnd λX ρ a w R=>Q1J
theorem qxa{x y:Operand}{d:Chunk}{q:Value}(ho:o.op=.call ⟨.builtin .delete,⟨[x,y]⟩,ts⟩)(hx:EvTo x st (.map (some i)))(hy:EvTo y st q)(hq:qap q=true)(hi:st.h[i]?=some (some c))
  (T:Turns P c d (λb=>Builtin.delete_ ts o.type #[.map (some b),q]) (.tuple #[])):OKs P o st (.tuple #[]) [(i,d)] []:=λst₂ hs _ hh=>
 qcv λX ρ a w R=>by
  have hi2:st₂.h[i]?=some (some c):=(hh _ Q7d).trans hi;have hx':a.eval x=.map (some (ρ i).1):=((hs x Q8T _ hx).den R).self.symm;have hy':a.eval y=q:=by rw[<-((hs y Q8T _ hy).den R).self,qbb hq]
  obtain⟨w',hr,H⟩:=T.go R.heap hi2;refine⟨ρ,.tuple #[],w',?_,AgreeOn.refl _ _,H,λr _=>by simp[den]⟩;simp only[execOp,ho,resolve,Sem.run_bind,Sem.run_pure,Result.andThen_ok,invoke,builtin,yv,xq,yg,hx',hy',hr]
theorem qxb{x:Operand}{v:Value}(ho:o.op=.call ⟨.builtin .len,⟨[x]⟩,ts⟩)(hx:EvTo x st (.map (some i)))(hi:st.h[i]?=some (some c))(hp:∀ρ,den ρ v=v)
  (hr:∀p S w,c.x.inv p S w->(Builtin.len_ ts o.type #[.map (some p.1)]).run P w=.ok v w):OKs P o st v [] [i]:=λst₂ hs hh _=>
 qay λX ρ a w R=>by
  have hi2:st₂.h[i]?=some (some c):=(hh i Q7d).trans hi;have hx':a.eval x=.map (some (ρ i).1):=((hs x Q8T _ hx).den R).self.symm;obtain⟨S,E⟩:=R.heap.ext;refine⟨v,?_,λr _=>hp r⟩;simp only[execOp,ho,resolve,Sem.run_bind,Sem.run_pure,Result.andThen_ok,invoke,builtin,yv,xq,yg,hx',hr _ _ _ (E.inv i c hi2)]
theorem qvo{d:Chunk}(ho:o.op=.makeMap t none)(hi:st.h[i]?=some none)(hn:d.n=0)(hx:∀w:World,d.x.inv (w.heap.size,0) (λb=>b=w.heap.size) (w.alloc (.map #[] 0))):OKs P o st (.map (some i)) [(i,d)] []:=λst₂ hs _ hh=>
 qcv λX ρ a w R=>by
  have hi2:st₂.h[i]?=some none:=(hh _ Q7d).trans hi;have hl:=(xg.1 hi2).1;have hsz:(w.alloc (.map #[] 0)).heap.size=w.heap.size+1:=by show(w.heap.push _).size=_;simp
  obtain⟨ρ',ha,hρ,H⟩:=R.heap.newX hi2 hn ((Below.refl w.heap.size w).alloc (nlr _) _) (b0:=w.heap.size) Q8E (by intro b hb;omega) (hx w);refine⟨ρ',.map (some w.heap.size),_,?_,ha,H,λr hr=>?_⟩
  .simp only[execOp,ho];rfl
  .have:=hr i (qw8 hl);simp only[den,den2,den1,den0,this,hρ]
def OpN(P:Program)(o:Oper)(st:St)(slot:Nat)(K:Value->Mz->List Nat->Prop):Prop:=∃v ms rh,OKs P o st v ms rh/\K v ms rh
def CallAll(P:Program)(g:FuncId)(vs:List Value)(h:Hp)(R:Value->Mz->Prop):Prop:=
 ∀X ρ w xs,HOK X ρ h w->All2 (Den (Fil h) ρ) vs xs->qw6 P g xs w λx w'=>∃v ms ρ',R v ms/\AgreeOn (Fil h) ρ ρ'/\HOK X ρ' (modH h ms) w'/\Den (Fil (modH h ms)) ρ' v x
def jhi(q:Bool)(P:Program)(g:FuncId)(vs:List Value)(h:Hp)(slot:Nat)(K:Value->Mz->List Nat->Prop):Prop:=
 (∃v ms rh,qae P g vs h v ms rh/\K v ms rh)\/(q=true/\∃R,CallAll P g vs h R/\∀v ms,R v ms->K v ms [])
def jk0(c:Chunk)(f:Nat)(agg:Bool)(n:Nat)(K:Value->Prop):Prop:=∃v,Reads c f agg n v/\K v
def jk1(P:Program)(t:TypeId)(c:Chunk)(q:Value)(b:Bool)(K:Value->Prop):Prop:=∃v,(∀ρ,den ρ v=v)/\(∀p S w,c.x.inv p S w->(Instr.lookup t (.map (some p.1)) q b).run P w=.ok v w)/\K v
def jju(P:Program)(c:Chunk)(f:Nat->Sem Unit)(K:Chunk->Prop):Prop:=∃d,Turns P c d f ()/\K d
def jjv(P:Program)(c:Chunk)(f:Nat->Sem Value)(K:Value->Chunk->Prop):Prop:=∃v d,(∀ρ,den ρ v=v)/\Turns P c d f v/\K v d
def jk2(P:Program)(ts:Array TypeId)(t:TypeId)(c:Chunk)(K:Value->Prop):Prop:=∃v,(∀ρ,den ρ v=v)/\(∀p S w,c.x.inv p S w->(Builtin.len_ ts t #[.map (some p.1)]).run P w=.ok v w)/\K v
def q46(K:Chunk->Prop):Prop:=∃d:Chunk,d.n=0/\(∀w:World,d.x.inv (w.heap.size,0) (λb=>b=w.heap.size) (w.alloc (.map #[] 0)))/\K d
def q47(c:Chunk)(f n:Nat)(v:Value)(K:Chunk->Prop):Prop:=∃d,Writes c f n v d/\K d
def jmv(a:Int)(n:Nat)(K:Nat->Nat->Prop):Prop:=∃j s,a=(j:Nat)/\j<n/\K j s
def jk3(lo hi:Option Value)(len cap:Nat)(K:Nat->Nat->Nat->Prop):Prop:=∃p q s,Bnd hi len cap q/\Bnd lo 0 q p/\K p q s
def BinIs(P:Program)(op:BinOp)(t:TypeId)(x y:Operand)(a b v:Value):Prop:=qap a=true/\qap b=true/\qap v=true/\∀w,(do eqGuard op t x y a b;binOp op t a b:Sem Value).run P w=.ok v w
def jpm(P:Program)(op:BinOp)(t:TypeId)(x y:Operand)(a b:Value)(K:Value->Prop):Prop:=∃v,BinIs P op t x y a b v/\K v
def UnN(P:Program)(op:UnOp)(a:Value)(K:Value->Prop):Prop:=∃v,(qap a=true/\qap v=true/\∀w,(Op.unary op a).run P w=.ok v w)/\K v
def jk4(P:Program)(s d:TypeId)(a:Value)(K:Value->Prop):Prop:=∃v,(qap a=true/\qap v=true/\∀w,(convert s d a).run P w=.ok v w)/\K v
def qs9(P:Program)(b:Builtin)(ts:Array TypeId)(t:TypeId)(vs:List Value)(K:Value->Prop):Prop:=∃v,(vs.all qap=true/\qap v=true/\∀cs w,(builtin b ts t cs ⟨vs⟩).run P w=.ok (.value v) w)/\K v
def jmw(ci:Chunk)(f:Nat)(cj:Chunk)(g m size:Nat)(K:Nat->Chunk->Prop):Prop:=∃n v d,n=m/\Reads cj g true (n*size) v/\flatB v (n*size)=true/\Writes ci f (n*size) v d/\K n d
def MakeN(a b:Int)(bytes size:Nat)(K:Nat->Nat->Prop)(K0:Prop):Prop:=(∃n m:Nat,a=(n:Nat)/\b=(n:Nat)/\bytes*n<=281474976710656/\n<=9223372036854775807/\m=n*size/\K n m)\/(a=0/\b=0/\K0)
def jqb(s:ByteArray)(a:Int)(K:Value->Prop):Prop:=∃(j:Nat)(b:UInt8),a=(j:Nat)/\s[j]?=some b/\K (.int .u8 b.toNat)
def qpe(v:Value)(K:Value->Prop):Prop:=
 match v with
 | .agg _=>False
 | .tuple _=>False
 | .bool b=>K (.bool b)
 | .int k n=>K (.int k n)
 | .float k n=>K (.float k n)
 | .complex k a b=>K (.complex k a b)
 | .string s=>K (.string s)
 | .pointer a=>K (.pointer a)
 | .slice a l c=>K (.slice a l c)
 | .map r=>K (.map r)
 | .chan r=>K (.chan r)
 | .func f x y=>K (.func f x y)
 | .nilFunc=>K .nilFunc
 | .iface t v=>K (.iface t v)
 | .nilIface=>K .nilIface
theorem qg4{v:Value}{K:Value->Prop}(h:qpe v K):v.oneCell'=true/\K v:=by cases v<;>first|exact h.elim|exact⟨rfl,h⟩
def qxc(c:Chunk):Nat->Nat->(List Value->Prop)->Prop
 | _,0,K=>K []
 | f,n+1,K=>qpe (c.f f) λv=>qxc c (f+1) n λr=>K (v::r)
theorem qml{c:Chunk}:∀{n f:Nat}{K:List Value->Prop},qxc c f n K->∃l,l.length=n/\(∀j,j<n->c.f (f+j)=l.getD j undef)/\K l
 | 0,f,K,h=>⟨[],rfl,λj hj=>absurd hj Q8E,h⟩
 | n+1,f,K,h=>by
  obtain⟨_,h⟩:=qg4 h;obtain⟨l,hl,hf,hk⟩:=qml (n:=n) h
  grind
def jh4:Pz->Nat->Nat->Option Value
 | [],_,_=>none
 | (o,m,v)::r,f,n=>match Nat.beq o f&&Nat.beq m n with
  | true=>some v
  | false=>match Nat.ble (o+m) f||Nat.ble (f+n) o with
   | true=>jh4 r f n
   | false=>none
theorem qpf:∀{ps:Pz}{f n:Nat}{v:Value},jh4 ps f n=some v->∀j,j<n->qbf ps (f+j)=cellIn v j
 | [],_,_,_,h,_,_=>by simp[jh4] at h
 | (o,m,u)::r,f,n,v,h,j,hj=>by
  simp only[jh4] at h;rw[qar];cases h1:Nat.beq o f&&Nat.beq m n with
  | true=>
   simp_all
  | false=>
   rw[h1] at h;cases h2:Nat.ble (o+m) f||Nat.ble (f+n) o with
   | true=>
    rw[h2] at h;simp only[y5,yE] at h2;rw[if_neg Q8E];exact qpf h j hj
   | false=>rw[h2] at h;cases h
def jiu:List Value->Nat->(List Value->Prop)->Prop
 | l,0,K=>K l
 | [],_+1,K=>K []
 | _::r,n+1,K=>jiu r n K
theorem qpg:∀{l:List Value}{n:Nat}{K:List Value->Prop},jiu l n K->K (l.drop n)
 | [],0,K,h=>h
 | _::_,0,K,h=>h
 | [],n+1,K,h=>by simpa[jiu] using h
 | _::r,n+1,K,h=>by simpa using qpg (l:=r) (n:=n) (K:=K) h
def jh5:Pz->Nat->Nat->Option (Array Value×Nat)
 | [],_,_=>none
 | (o,m,v)::r,f,n=>match Nat.ble o f&&Nat.beq (o+m) (f+n) with
  | true=>match v with
   | .agg cs=>some (cs,f-o)
   | _=>none
  | false=>match Nat.ble (o+m) f||Nat.ble (f+n) o with
   | true=>jh5 r f n
   | false=>none
theorem qph:∀{ps:Pz}{f n k:Nat}{cs:Array Value},jh5 ps f n=some (cs,k)->∀j,j<n->qbf ps (f+j)=cs.toList.getD (k+j) undef
 | [],_,_,_,_,h,_,_=>by simp[jh5] at h
 | (o,m,u)::r,f,n,k,cs,h,j,hj=>by
  simp only[jh5] at h;rw[qar];cases h1:Nat.ble o f&&Nat.beq (o+m) (f+n) with
  | true=>
   grind[yE,xN,cellIn]
  | false=>
   rw[h1] at h;cases h2:Nat.ble (o+m) f||Nat.ble (f+n) o with
   | true=>
    rw[h2] at h;simp only[y5,yE] at h2;rw[if_neg Q8E];exact qph h j hj
   | false=>rw[h2] at h;cases h
def jh6(c:Chunk)(f s:Nat)(agg:Bool)(n:Nat)(K:Value->Prop):Prop:=
 match s with
 | 0=>match Nat.ble (f+n) c.n with
  | false=>False
  | true=>match agg with
   | false=>match Nat.beq n 1 with
    | true=>qpe (c.f f) K
    | false=>False
   | true=>match jh4 c.ps f n with
    | some (.agg cs)=>N (Obl (flatB (.agg cs) n=true) (K (.agg cs)))
    | _=>match jh5 c.ps f n with
     | some (⟨l⟩,k)=>jiu l k λl'=>N (Obl (flatB (.agg ⟨l'⟩) n=true) (K (.agg ⟨l'⟩)))
     | none=>qxc c f n λl=>K (.agg ⟨l⟩)
 | _=>N (jk0 c f agg n K)
variable{n:Nat}
theorem qpi{f s:Nat}{agg:Bool}{K:Value->Prop}(h:jh6 c f s agg n K):∃v,Reads c f agg n v/\K v:=by
 unfold jh6 at h;split at h
 .cases hb:Nat.ble (f+n) c.n with
  | false=>rw[hb] at h;exact h.elim
  | true=>
   rw[hb] at h;have hb:=x7 hb;cases agg with
   | false=>
    simp only at h;cases hn:Nat.beq n 1 with
    | false=>rw[hn] at h;exact h.elim
    | true=>
     rw[hn] at h;have hn:=xN hn;obtain⟨h1,h⟩:=qg4 h;exact⟨_,⟨by omega,h1,rfl⟩,h⟩
   | true=>
    simp only at h;split at h
    .rename_i cs hp;obtain⟨hf,h⟩:=h.out;simp only[flatB,xp] at hf;refine⟨_,⟨hb,cs,rfl,xN hf.1,λj hj=>?_⟩,h⟩;exact qpf hp j hj
    .split at h
     .rename_i l k hp;have h:=qpg (K:=λl'=>N (Obl (flatB (.agg ⟨l'⟩) n=true) (K (.agg ⟨l'⟩)))) h;obtain⟨hf,h⟩:=h.out;simp only[flatB,xp] at hf;refine⟨_,⟨hb,⟨l.drop k⟩,rfl,xN hf.1,λj hj=>?_⟩,h⟩;rw[show c.f (f+j)=_ from qph hp j hj];simp
     .obtain⟨l,hl,hf,hk⟩:=qml h;exact⟨_,⟨hb,⟨l⟩,rfl,hl,hf⟩,hk⟩
 .exact h.out
def qpj:Pz->Nat->Nat->(Pz->Prop)->Prop
 | [],_,_,K=>K []
 | (o,m,v)::r,f,n,K=>match Nat.ble f o&&Nat.ble (o+m) (f+n) with
  | true=>qpj r f n K
  | false=>qpj r f n λr'=>K ((o,m,v)::r')
theorem qjg{f n:Nat}:∀{ps:Pz}{K:Pz->Prop},qpj ps f n K->∃qs,(∀j,¬ (f<=j/\j<f+n)->qbf qs j=qbf ps j)/\K qs
 | [],K,h=>⟨[],λ_ _=>rfl,h⟩
 | (o,m,v)::r,K,h=>by
  unfold qpj at h;cases hb:Nat.ble f o&&Nat.ble (o+m) (f+n) with
  | true=>
   rw[hb] at h;simp only[xp,yE] at hb;obtain⟨qs,hq,hk⟩:=qjg h
   grind[qar]
  | false=>
   rw[hb] at h;obtain⟨qs,hq,hk⟩:=qjg h
   grind[qar]
def jpn(c:Chunk)(ps:Pz)(K:Chunk->Prop):Prop:=
 match c with
 | @Chunk.mk x _ n _=>K (@Chunk.mk x true n ps)
theorem q1y{ps:Pz}{K:Chunk->Prop}(h:jpn c ps K):K (@Chunk.mk c.x true c.n ps):=by
 obtain⟨o,n,q⟩:=c;exact h
def qta(c:Chunk)(f s n:Nat)(v:Value)(K:Chunk->Prop):Prop:=
 match s with
 | 0=>match c.own&&Nat.ble (f+n) c.n with
  | false=>False
  | true=>qpj c.ps f n λps=>jpn c ((f,n,v)::ps) K
 | _=>N (q47 c f n v K)
theorem qvp{f s:Nat}{v:Value}{K:Chunk->Prop}(h:qta c f s n v K):∃d,Writes c f n v d/\K d:=by
 unfold qta at h;split at h
 .cases hb:c.own&&Nat.ble (f+n) c.n with
  | false=>rw[hb] at h;exact h.elim
  | true=>
   rw[hb] at h;simp only[xp,yE] at hb;obtain⟨qs,hq,hk⟩:=qjg h;have hk:=q1y hk;refine⟨@Chunk.mk c.x true c.n ((f,n,v)::qs),⟨hb.1,hb.2,rfl,λj hj=>?_⟩,hk⟩;show qbf ((f,n,v)::qs) j=_;rw[qar];by_cases hc:f<=j/\j<f+n
   .simp_all
   .rw[if_neg hc,if_neg hc,hq j hc];rfl
 .exact h.out
def jhj(v:Value)(n:Nat)(A:Prop):Prop:=
 match v with
 | .agg cs=>N (Obl (flatB (.agg cs) n=true) A)
 | .tuple _=>False
 | _=>match Nat.beq 1 n with
  | true=>A
  | false=>False
theorem qpk{v:Value}{A:Prop}(h:jhj v n A):flatB v n=true/\A:=by
 unfold jhj at h;split at h
 .exact h.out
 .exact h.elim
 .rename_i h1 h2;cases hb:Nat.beq 1 n with
  | false=>rw[hb] at h;exact h.elim
  | true=>
   rw[hb] at h;refine⟨?_,h⟩;cases v<;>first|exact hb|exact absurd rfl (h1 _)|exact absurd rfl (h2 _)
def jfz{α:Type}:List α->Nat->Option α
 | [],_=>none
 | x::_,0=>some x
 | _::r,n+1=>jfz r n
theorem qb0{α:Type}:∀(l:List α)(n:Nat),jfz l n=l[n]?
 | [],_=>rfl
 | _::_,0=>rfl
 | _::r,n+1=>by simpa[jfz] using qb0 r n
def jpo:List Nat:=[0,1,2,3,4,5,6,7,8,9,10,11,12,13,14,15,16,17,18,19,20,21,22,23,24,25,26,27,28,29,30,31,32,33,34,35,36,37,38,39,40,41,42,43,44,45,46,47,48,49,50,51,52,53,54,55,56,57,58,59,60,61,62,63,64,65,66,67,68,69,70,71,72,73,74,75,76,77,78,79,80,81,82,83,84,85,86,87,88,89,90,91,92,93,94,95,96,97,98,99]
def jfk(n:Nat)(K:Nat->Prop):Prop:=
 match jfz jpo n with
 | some k=>K k
 | none=>K n
variable{K:Nat->Prop}
theorem qce(h:jfk n K):K n:=by
 unfold jfk at h;rw[qb0,show jpo=List.range 100 from rfl] at h
 grind
def jg5(f s:Nat)(K:Nat->Prop):Prop:=
 match s with
 | 0=>jfk f K
 | _=>K f
theorem qpl{f s:Nat}(h:jg5 f s K):K f:=by
 grind[jg5,qce]
def jmd(j s:Nat)(K:Nat->Prop):Prop:=
 match s with
 | 1=>K j
 | _=>K (j*s)
theorem q1z{j s:Nat}(h:jmd j s K):K (j*s):=by
 grind[jmd]
def jh7(f x:Nat)(K:Nat->Prop):Prop:=
 match f with
 | 0=>K x
 | _=>K (f+x)
theorem qxd{f x:Nat}(h:jh7 f x K):K (f+x):=by
 grind[jh7]
def jh8(f j z s:Nat)(K:Nat->Prop):Prop:=jmd j z λm=>jh7 f m λg=>jg5 g s K
theorem qpm{f j z s:Nat}(h:jh8 f j z s K):K (f+j*z):=qpl (qxd (K:=λg=>jg5 g s K) (q1z (K:=λm=>jh7 f m λg=>jg5 g s K) h))
def jgs:List Value->(List Value->Prop)->Prop
 | [],K=>K []
 | v::r,K=>jgs r λr'=>K (v::r')
theorem qes:∀{l:List Value}{K:List Value->Prop},jgs l K->K l
 | [],_,h=>h
 | v::r,K,h=>qes (l:=r) (K:=λr'=>K (v::r')) h
def jgt:List Value->Nat->Nat->(List Value->Prop)->Prop
 | _,0,0,K=>K []
 | [],_,_,K=>K []
 | v::r,0,n+1,K=>jgt r 0 n λr'=>K (v::r')
 | _::r,f+1,n,K=>jgt r f n K
theorem qkt:∀{l:List Value}{f n:Nat}{K:List Value->Prop},jgt l f n K->K ((l.drop f).take n)
 | [],0,0,_,h=>by simpa[jgt] using h
 | _::_,0,0,_,h=>by simpa[jgt] using h
 | [],f+1,n,_,h=>by simpa[jgt] using h
 | [],0,n+1,_,h=>by simpa[jgt] using h
 | v::r,0,n+1,K,h=>by simpa using qkt (l:=r) (f:=0) (n:=n) (K:=λr'=>K (v::r')) h
 | _::r,f+1,n,K,h=>by simpa using qkt (l:=r) (f:=f) (n:=n) (K:=K) (by cases n<;>exact h)
def jiv(cs:Array Value)(f:Nat)(agg:Bool)(n:Nat)(K:Value->Prop):Prop:=
 match agg with
 | true=>jgt cs.toList f n λl=>K (.agg ⟨l⟩)
 | false=>match jfz cs.toList f with
  | some v=>qpe v K
  | none=>False
theorem qpn{cs:Array Value}{f:Nat}{agg:Bool}{K:Value->Prop}(h:jiv cs f agg n K):∃v,qs6 cs f agg n v/\K v:=by
 cases agg with
 | true=>exact⟨_,⟨_,rfl,rfl⟩,qkt (K:=λl=>K (.agg ⟨l⟩)) h⟩
 | false=>
  simp only[jiv,qb0] at h;cases hv:cs.toList[f]? with
  | none=>rw[hv] at h;exact h.elim
  | some v=>
   rw[hv] at h;obtain⟨h1,h⟩:=qg4 h;exact⟨v,⟨h1,hv⟩,h⟩
def qtb:List (Nat×Operand)->St->(Vz->Prop)->Prop
 | [],_,K=>K []
 | (i,x)::r,st,K=>jet x st λv=>qtb r st λvs=>K ((i,v)::vs)
theorem qjh:∀{ps:List (Nat×Operand)}{K:Vz->Prop},qtb ps st K->∃vs,qfb st ps vs/\K vs
 | [],K,h=>⟨[],rfl,h⟩
 | (i,x)::r,K,h=>by
  obtain⟨v,hv,h⟩:=qas h;obtain⟨vs,hvs,h⟩:=qjh h;exact⟨_,⟨v,vs,rfl,hv,hvs⟩,h⟩
def qxe(G:Tys)(d:TypeDesc)(z:Value)(vs:Vz)(K:Value->Prop):Prop:=
 match qap z with
 | false=>False
 | true=>match d with
  | .struct fs=>qru G fs.toList λpl=>match jf0 (λi=>jfz pl i) (qdi z) vs with
   | some out=>jgs out λl=>K (.agg ⟨l⟩)
   | none=>False
  | .array _ e=>jeq G e λei _=>match jf0 (λi=>some (i*ei.size,ei.size)) (qdi z) vs with
   | some out=>jgs out λl=>K (.agg ⟨l⟩)
   | none=>False
  | _=>False
def q48(a b:IntKind):Bool:=decide (a=b)
def jmx(P:Program)(G:Tys)(op:BinOp)(t:TypeId)(x y:Operand)(a b:Value)(K:Value->Prop):Prop:=
 match a,b with
 | .int k m,.int k' n=>match op with
  | .shl=>N (Obl (0<=n) (K (.int k (k.wrap (m*2^sh n k)))))
  | .shr=>N (Obl (0<=n) (K (.int k (m.fdiv (2^sh n k)))))
  | op=>match q48 k k' with
   | false=>False
   | true=>match op with
    | .quo=>N (Obl (n≠0) (K (.int k (k.wrap (m.tdiv n)))))
    | .rem=>N (Obl (n≠0) (K (.int k (m.tmod n))))
    | op=>match jjl op k m n with
     | some (_,v)=>K v
     | none=>False
 | .bool p,.bool q=>jeq G t λ_ d=>match d with
  | .bool=>match op with
   | .eql=>K (.bool (p==q))
   | .neq=>K (.bool (p != q))
   | _=>False
  | _=>False
 | .pointer (some ⟨_,_,some _⟩),.pointer none=>jeq G t λ_ d=>match d with
  | .pointer _=>match op with
   | .eql=>K (.bool false)
   | .neq=>K (.bool true)
   | _=>False
  | _=>False
 | .pointer none,.pointer none=>jeq G t λ_ d=>match d with
  | .pointer _=>match op with
   | .eql=>K (.bool true)
   | .neq=>K (.bool false)
   | _=>False
  | _=>False
 | .slice (some ⟨_,_,some _⟩) _ _,.slice none _ _=>jeq G t λ_ d=>match d with
  | .slice _=>match op with
   | .eql=>K (.bool false)
   | .neq=>K (.bool true)
   | _=>False
  | _=>False
 | .slice none _ _,.slice none _ _=>jeq G t λ_ d=>match d with
  | .slice _=>match op with
   | .eql=>K (.bool true)
   | .neq=>K (.bool false)
   | _=>False
  | _=>False
 | .func _ _ _,.nilFunc=>jeq G t λ_ d=>match d with
  | .func _ _ _=>match op with
   | .eql=>K (.bool false)
   | .neq=>K (.bool true)
   | _=>False
  | _=>False
 | _,_=>N (jpm P op t x y a b K)
def unK(P:Program)(op:UnOp)(a:Value)(K:Value->Prop):Prop:=
 match op,a with
 | .not,.bool b=>K (.bool (!b))
 | .neg,.int k n=>K (.int k (k.wrap (0-n)))
 | _,_=>N (UnN P op a K)
def jjw(P:Program)(G:Tys)(s d:TypeId)(a:Value)(K:Value->Prop):Prop:=
 match a with
 | .int _ n=>jeq G s λ_ _=>jeq G d λ_ dd=>match dd with
  | .int k'=>K (.int k' (k'.wrap n))
  | _=>N (jk4 P s d a K)
 | _=>N (jk4 P s d a K)
def jme(y:Operand)(a:Int)(n s:Nat)(K:Nat->Nat->Prop):Prop:=
 match y with
 | .const (.int _ (.ofNat m))=>match Nat.ble (m+1) n with
  | true=>K m s
  | false=>False
 | _=>N (jmv a n K)
def jmy(x:Option Operand)(st:St)(K:Option Value->Prop):Prop:=
 match x with
 | none=>K none
 | some x=>jet x st λv=>match v with
  | .int k n=>K (some (.int k n))
  | _=>False
def qtc(P:Program)(G:Tys)(b:Builtin)(xs:List Operand)(ts:Array TypeId)(t:TypeId)(vs:List Value)(K:Value->Prop):Prop:=
 match b,vs,xs,ts.toList with
 | .len,[.slice _ l _],[_],[u]=>jeq G u λ_ d=>match d with
  | .slice _=>K (.int .i64 l)
  | _=>False
 | b,vs,_,_=>N (qs9 P b ts t vs K)
def jgj(P:Program)(G:Tys)(o:Oper)(st:St)(slot:Nat)(K:Value->Mz->List Nat->Prop):Prop:=
 match o.op with
 | .move x=>jet x st λv=>K v [] []
 | .assign x=>jet x st λv=>K v [] []
 | .pick c x y=>jet c st λcv=>match cv with
  | .bool t=>N (jis t (jet x st λv=>K v [] []) (jet y st λv=>K v [] []))
  | _=>False
 | .alloc t=>jeq G t λi _=>match i.zero with
  | some z=>match qap z&&flatB z i.size with
   | true=>jfk i.size λn=>K (xd slot) [(slot,⟨true,n,[(0,n,z)]⟩)] []
   | false=>False
  | none=>False
 | .box t x=>jet x st λv=>jeq G t λi _=>jfk i.size λn=>jhj v n (K (xd slot) [(slot,⟨true,n,[(0,n,v)]⟩)] [])
 | .load t x=>jet x st λp=>match p with
  | .pointer (some ⟨i,f,some s⟩)=>jgo st.h i λc=>jeq G t λti d=>jfk ti.size λn=>jh6 c f s (qd2 d) n λv=>K v [] [i]
  | .pointer (some ⟨_,_,none⟩)=>N (OpN P o st slot K)
  | _=>False
 | .store t x y=>jet x st λp=>jet y st λv=>match p with
  | .pointer (some ⟨i,f,some s⟩)=>jgo st.h i λc=>jeq G t λti _=>jfk ti.size λn=>jhj v n (qta c f s n v λd=>K undef [(i,d)] [])
  | .pointer (some ⟨_,_,none⟩)=>N (OpN P o st slot K)
  | _=>False
 | .nilCheck x=>jet x st λp=>match p with
  | .pointer (some ⟨i,f,some s⟩)=>K (.pointer (some ⟨i,f,some s⟩)) [] []
  | .func (.func g) u v=>K (.func (.func g) u v) [] []
  | .pointer (some ⟨_,_,none⟩)=>N (OpN P o st slot K)
  | _=>False
 | .fieldAddr t x k=>jet x st λp=>match p with
  | .pointer (some ⟨i,f,some s⟩)=>jeq G t λ_ d=>match d with
   | .struct fs=>match jfz fs.toList k with
    | some ⟨_,ft,off,_,_,_,_⟩=>jeq G ft λfi _=>match Nat.beq fi.size 0 with
     | false=>jg5 (f+off) s λg=>K (.pointer (some ⟨i,g,some s⟩)) [] []
     | true=>False
    | none=>False
   | _=>False
  | .pointer (some ⟨_,_,none⟩)=>N (OpN P o st slot K)
  | _=>False
 | .field t x k=>jet x st λp=>match p with
  | .agg cs=>jeq G t λ_ d=>match d with
   | .struct fs=>match jfz fs.toList k with
    | some ⟨_,ft,off,_,_,_,_⟩=>jeq G ft λfi fd=>jiv cs off (qd2 fd) fi.size λv=>K v [] []
    | none=>False
   | _=>False
  | _=>False
 | .build t ps=>qtb ps.toList st λvs=>jeq G t λi d=>match i.zero with
  | some z=>qxe G d z vs λv=>K v [] []
  | none=>False
 | .binOp op t x y _=>jet x st λa=>jet y st λb=>jmx P G op t x y a b λv=>K v [] []
 | .unOp op _ x=>jet x st λa=>unK P op a λv=>K v [] []
 | .convert s d x=>jet x st λa=>match a with
  | .slice _ _ _=>N (OpN P o st slot K)
  | .iface _ _=>N (OpN P o st slot K)
  | a=>jjw P G s d a λv=>K v [] []
 | .extract x k=>jet x st λp=>match p with
  | .tuple vs=>match jfz vs.toList k with
   | some (.agg cs)=>K (.agg cs) [] []
   | some v=>qpe v λv=>K v [] []
   | none=>False
  | _=>False
 | .indexAddr t x y=>jet x st λp=>jet y st λq=>match q with
  | .int _ a=>match p with
   | .pointer (some ⟨i,f,some s⟩)=>jeq G t λ_ d=>match d with
    | .array n e=>jeq G e λei _=>jme y a n s λj s'=>jh8 f j ei.size s' λg=>K (.pointer (some ⟨i,g,some s'⟩)) [] []
    | _=>False
   | .slice (some ⟨i,f,some s⟩) l _=>jeq G t λ_ d=>match d with
    | .slice e=>jeq G e λei _=>N (jmv a l λj s'=>jh8 f j ei.size s' λg=>K (.pointer (some ⟨i,g,some s'⟩)) [] [])
    | _=>False
   | .slice (some ⟨_,_,none⟩) _ _=>N (OpN P o st slot K)
   | .pointer (some ⟨_,_,none⟩)=>N (OpN P o st slot K)
   | .iface _ _=>N (OpN P o st slot K)
   | _=>False
  | _=>False
 | .index t x y=>jet x st λp=>jet y st λq=>match q with
  | .int _ a=>match p with
   | .agg cs=>jeq G t λ_ d=>match d with
    | .array n e=>jeq G e λei ed=>jme y a n 0 λj _=>jiv cs (j*ei.size) (qd2 ed) ei.size λv=>K v [] []
    | _=>False
   | .string s=>jeq G t λ_ d=>match d with
    | .string=>N (jqb s a λv=>K v [] [])
    | _=>False
   | _=>False
  | _=>False
 | .slice t x lo hi none=>jet x st λp=>jmy lo st λvl=>jmy hi st λvh=>match p with
  | .slice (some ⟨i,f,some s⟩) l c=>jeq G t λ_ d=>match d with
   | .slice e=>jeq G e λei _=>N (jk3 vl vh l c λp q s'=>K (.slice (some ⟨i,f+(if c=p then 0 else p*ei.size),some s'⟩) (q-p) (c-p)) [] [])
   | _=>False
  | .pointer (some ⟨i,f,some s⟩)=>jeq G t λ_ d=>match d with
   | .array n e=>jeq G e λei _=>N (jk3 vl vh n n λp q s'=>K (.slice (some ⟨i,f+(if n=p then 0 else p*ei.size),some s'⟩) (q-p) (n-p)) [] [])
   | _=>False
  | .string s=>jeq G t λ_ d=>match d with
   | .string=>N (jk3 vl vh s.size s.size λp q _=>K (.string (s.extract p q)) [] [])
   | _=>False
  | .slice (some ⟨_,_,none⟩) _ _=>N (OpN P o st slot K)
  | .iface _ _=>N (OpN P o st slot K)
  | _=>False
 | .makeFunc (.func g) xs ys=>jgr xs.toList st λus=>jgr ys.toList st λcs=>match us.all cap1&&cs.all cap1 with
  | true=>K (.func (.func g) ⟨us⟩ ⟨cs⟩) [] []
  | false=>False
 | .lookup t x y b=>jet x st λp=>jet y st λq=>match p with
  | .map (some i)=>match qap q with
   | true=>jgo st.h i λc=>N (jk1 P t c q b λv=>K v [] [i])
   | false=>False
  | _=>False
 | .mapUpdate t x y z=>jet x st λp=>jet y st λq=>jet z st λu=>match p with
  | .map (some i)=>match qap q&&qap u with
   | true=>jgo st.h i λc=>N (jju P c (λb=>Instr.mapUpdate t (.map (some b)) q u) λd=>K undef [(i,d)] [])
   | false=>False
  | _=>False
 | .mapEntry t x y=>jet x st λp=>jet y st λq=>match p with
  | .map (some i)=>match qap q with
   | true=>jgo st.h i λc=>N (jjv P c (λb=>Instr.mapEntry t (.map (some b)) q) λv d=>K v [(i,d)] [])
   | false=>False
  | _=>False
 | .entryStore t x y z=>jet x st λp=>jet y st λq=>jet z st λu=>match p with
  | .map (some i)=>match qap q&&qap u with
   | true=>jgo st.h i λc=>N (jju P c (λb=>Instr.entryStore t (.map (some b)) q u) λd=>K undef [(i,d)] [])
   | false=>False
  | _=>False
 | .makeMap t none=>N (q46 λd=>K (.map (some slot)) [(slot,d)] [])
 | .call ⟨.value f,xs,ts⟩=>jet f st λfv=>match fv with
  | .func (.func g) ⟨us⟩ ⟨cs⟩=>match us.all cap1&&cs.all cap1 with
   | true=>jgr xs.toList st λvs=>jgs (us++vs++cs) λl=>N (jhi false P g l st.h slot K)
   | false=>False
  | _=>False
 | .call ⟨.builtin .copy,⟨[x,y]⟩,⟨[tx,_]⟩⟩=>jet x st λp=>jet y st λq=>match p,q with
  | .slice (some ⟨i,f,some _⟩) l _,.slice (some ⟨j,g,some _⟩) m _=>jeq G tx λ_ d=>match d with
   | .slice e=>jeq G e λei _=>jgo st.h i λci=>jgo st.h j λcj=>N (jmw ci f cj g (Nat.min m l) ei.size λn d=>K (.int .i64 n) [(i,d)] [j])
   | _=>False
  | .slice (some ⟨_,_,none⟩) _ _,_=>N (OpN P o st slot K)
  | _,.slice (some ⟨_,_,none⟩) _ _=>N (OpN P o st slot K)
  | _,_=>False
 | .call ⟨.builtin .delete,⟨[x,y]⟩,ts⟩=>jet x st λp=>jet y st λq=>match p with
  | .map (some i)=>match qap q with
   | true=>jgo st.h i λc=>N (jjv P c (λb=>Builtin.delete_ ts o.type #[.map (some b),q]) λv d=>N (Obl (v=.tuple #[]) (K (.tuple #[]) [(i,d)] [])))
   | false=>False
  | _=>False
 | .call ⟨.builtin .len,⟨[x]⟩,ts⟩=>jet x st λp=>match p with
  | .map (some i)=>jgo st.h i λc=>N (jk2 P ts o.type c λv=>K v [] [i])
  | .iface _ _=>N (OpN P o st slot K)
  | v=>qtc P G .len [x] ts o.type [v] λv=>K v [] []
 | .call ⟨.builtin b,xs,ts⟩=>jgr xs.toList st λvs=>qtc P G b xs.toList ts o.type vs λv=>K v [] []
 | .buildSlice t n ps=>qtb ps.toList st λvs=>jeq G t λ_ d=>match d with
  | .slice e=>jeq G e λei _=>match ei.zero with
   | some z=>match qap z&&flatB z ei.size&&Nat.ble 1 ei.size&&Nat.ble (n*ei.size) 16777216 with
    | true=>match jf0 (λi=>some (i*ei.size,ei.size)) (segL (n*ei.size) (jfj ei.size z)) vs with
     | some out=>match Nat.beq out.length (n*ei.size) with
      | true=>jgs out λl=>jfk (n*ei.size) λm=>K (.slice (some ⟨slot,0,some 0⟩) n n) [(slot,⟨true,m,[(0,m,.agg ⟨l⟩)]⟩)] []
      | false=>False
     | none=>False
    | false=>False
   | none=>False
  | _=>False
 | .makeSlice t x y=>jet x st λp=>jet y st λq=>match p with
  | .int _ a=>match q with
   | .int _ b=>jeq G t λ_ d=>match d with
    | .slice e=>jeq G e λei _=>match ei.zero with
     | some z=>match qap z&&flatB z ei.size&&Nat.ble 1 ei.size with
      | true=>jfk ei.size λsz=>N (MakeN a b ei.bytes sz (λn m=>K (.slice (some ⟨slot,0,some 0⟩) n n) [(slot,⟨true,m,[(0,m,.agg ⟨segL m (jfj sz z)⟩)]⟩)] []) (K (.slice (some ⟨slot,0,some 0⟩) 0 0) [(slot,zC)] []))
      | false=>False
     | none=>False
    | _=>False
   | _=>False
  | _=>False
 | _=>N (OpN P o st slot K)
end
section
variable{P:Program}{G:Tys}{o:Oper}{st:St}
variable{k:IntKind}
theorem qxf{op:BinOp}{a b:Int}{p:Prop}{v:Value}(h1:op≠.quo)(h2:op≠.rem)(h:jjl op k a b=some (p,v)):p:=by
 cases op<;>simp only[jjl,Option.some.injEq,Prod.mk.injEq,reduceCtorEq] at h<;>first|(obtain⟨rfl,_⟩:=h;trivial)|exact absurd rfl h1|exact absurd rfl h2
variable{t:TypeId}{a:Value}{K:Value->Prop}
theorem q6q{op:BinOp}{u:TypeId}{x y:Operand}{b:Value}(hG:jey P G)(ho:o.op=.binOp op t x y u)(hx:EvTo x st a)(hy:EvTo y st b)(h:jmx P G op t x y a b K):∃v,OKs P o st v [] []/\K v:=by
 unfold jmx at h;split at h
 .rename_i k m k' n;split at h
  .obtain⟨h0,h⟩:=h.out;exact⟨_,jaw ho hx hy h0,h⟩
  .obtain⟨h0,h⟩:=h.out;exact⟨_,jax ho hx hy h0,h⟩
  .cases hk:q48 k k' with
   | false=>rw[hk] at h;exact h.elim
   | true=>
    rw[hk] at h;have e:k=k':=of_decide_eq_true hk;subst e;simp only at h;split at h
    .obtain⟨h0,h⟩:=h.out;exact⟨_,qw2 ho hx hy rfl h0,h⟩
    .obtain⟨h0,h⟩:=h.out;exact⟨_,qw2 ho hx hy rfl h0,h⟩
    .rename_i h3 h4;split at h
     .rename_i p v hb;exact⟨v,qw2 ho hx hy hb (qxf (λe=>h3 e) (λe=>h4 e) hb),h⟩
     .exact h.elim
 .obtain⟨i,d,h1,h2,h⟩:=qao hG h;split at h
  .split at h
   .exact⟨_,qo6 (eq:=true) ho hx hy h2,h⟩
   .exact⟨_,qo6 (eq:=false) ho hx hy h2,h⟩
   .exact h.elim
  .exact h.elim
 .obtain⟨i,d,h1,h2,h⟩:=qao hG h;split at h
  .split at h
   .exact⟨_,qo7 (eq:=true) ho hx hy h2,h⟩
   .exact⟨_,qo7 (eq:=false) ho hx hy h2,h⟩
   .exact h.elim
  .exact h.elim
 .obtain⟨i,d,h1,h2,h⟩:=qao hG h;split at h
  .split at h
   .exact⟨_,qo8 (eq:=true) ho hx hy h2,h⟩
   .exact⟨_,qo8 (eq:=false) ho hx hy h2,h⟩
   .exact h.elim
  .exact h.elim
 .obtain⟨i,d,h1,h2,h⟩:=qao hG h;split at h
  .split at h
   .exact⟨_,qkq (eq:=true) ho hx hy h2,h⟩
   .exact⟨_,qkq (eq:=false) ho hx hy h2,h⟩
   .exact h.elim
  .exact h.elim
 .obtain⟨i,d,h1,h2,h⟩:=qao hG h;split at h
  .split at h
   .exact⟨_,qmh (eq:=true) ho hx hy h2,h⟩
   .exact⟨_,qmh (eq:=false) ho hx hy h2,h⟩
   .exact h.elim
  .exact h.elim
 .obtain⟨i,d,h1,h2,h⟩:=qao hG h;split at h
  .split at h
   .exact⟨_,qmg (eq:=true) ho hx hy h2,h⟩
   .exact⟨_,qmg (eq:=false) ho hx hy h2,h⟩
   .exact h.elim
  .exact h.elim
 .obtain⟨v,⟨h1,h2,h3,h4⟩,h⟩:=h.out;exact⟨v,qh8 ho hx hy h1 h2 h4 h3,h⟩
theorem jaz{op:UnOp}{x:Operand}(ho:o.op=.unOp op t x)(hx:EvTo x st a)(h:unK P op a K):∃v,OKs P o st v [] []/\K v:=by
 unfold unK at h;split at h
 .exact⟨_,jjt ho hx rfl (λ_=>rfl) rfl,h⟩
 .exact⟨_,jjt ho hx rfl (λ_=>rfl) rfl,h⟩
 .obtain⟨v,⟨h1,h2,h3⟩,h⟩:=h.out;exact⟨v,jjt ho hx h1 h3 h2,h⟩
theorem q10{s d:TypeId}{x:Operand}(hG:jey P G)(ho:o.op=.convert s d x)(hx:EvTo x st a)(h:jjw P G s d a K):∃v,OKs P o st v [] []/\K v:=by
 unfold jjw at h;split at h
 .obtain⟨_,_,_,h1,h⟩:=qao hG h;obtain⟨_,_,_,h2,h⟩:=qao hG h;split at h
  .exact⟨_,qrs ho hx rfl (λw=>qrt h1 h2 w) rfl,h⟩
  .obtain⟨v,⟨q1,q2,q3⟩,h⟩:=h.out;exact⟨v,qrs ho hx q1 q3 q2,h⟩
 .obtain⟨v,⟨h1,h2,h3⟩,h⟩:=h.out;exact⟨v,qrs ho hx h1 h3 h2,h⟩
theorem qxg{y:Operand}{a:Int}{n s:Nat}{K:Nat->Nat->Prop}(hy:EvTo y st (.int k a))(h:jme y a n s K):∃j s',a=(j:Nat)/\j<n/\K j s':=by
 unfold jme at h;split at h
 .rename_i k' m;obtain⟨e,_⟩:=hy;simp only[Value.int.injEq] at e;cases hb:Nat.ble (m+1) n with
  | true=>rw[hb] at h;exact⟨m,s,e.2,x7 hb,h⟩
  | false=>rw[hb] at h;exact h.elim
 .exact h.out
theorem qxh{x:Option Operand}{K:Option Value->Prop}(h:jmy x st K):∃v,OptTo st x v/\K v:=by
 cases x with
 | none=>exact⟨none,rfl,h⟩
 | some x=>
  obtain⟨v,hv,h⟩:=qas (x:=x) h;cases v with
  | int k n=>exact⟨_,⟨k,n,rfl,hv⟩,h⟩
  | _=>exact h.elim
theorem qxi{ps:Array (Nat×Operand)}{vs:Vz}{ti:TypeInfo}{d:TypeDesc}{z:Value}(hG:jey P G)(ho:o.op=.build t ps)(hx:qfb st ps.toList vs)(h1:P.info? t=some ti)(hz:ti.zero=some z)(h2:P.underlying t=some d)
  (h:qxe G d z vs K):∃v,OKs P o st v [] []/\K v:=by
 unfold qxe at h
 cases hp:qap z with
 | false=>rw[hp] at h;exact h.elim
 | true=>
  rw[hp] at h;simp only at h;split at h
  .obtain⟨pl,h3,h⟩:=qkr hG h;split at h
   .rename_i out hout;have e:(λi=>jfz pl i)=(fun(i:Nat)=>pl[i]?):=funext λi=>qb0 pl i
    rw[e] at hout;exact⟨_,q1u ho hx h1 hz hp h2 h3 hout,qes (K:=λl=>K (.agg ⟨l⟩)) h⟩
   .exact h.elim
  .obtain⟨ei,_,h3,_,h⟩:=qao hG h;split at h
   .rename_i out hout;exact⟨_,qw3 ho hx h1 hz hp h2 h3 hout,qes (K:=λl=>K (.agg ⟨l⟩)) h⟩
   .exact h.elim
  .exact h.elim
theorem qpo{b:Builtin}{xs:Array Operand}{ts:Array TypeId}{vs:List Value}(hG:jey P G)(ho:o.op=.call ⟨.builtin b,xs,ts⟩)(hx:All2 (λx v=>EvTo x st v) xs.toList vs)(h:qtc P G b xs.toList ts o.type vs K):∃v,OKs P o st v [] []/\K v:=by
 unfold qtc at h;split at h
 .rename_i a l c q u e1 e2;obtain⟨i,d,h1,h2,h⟩:=qao hG h;split at h
  .have e1':xs = #[q]:=by apply xF.1;simpa using e1
   have e2':ts = #[u]:=by apply xF.1;simpa using e2
   subst e1' e2';exact⟨_,q6o ho hx.1 h2,h⟩
  .exact h.elim
 .obtain⟨v,⟨h1,h2,h3⟩,h⟩:=h.out;exact⟨v,qvn ho hx h1 h3 h2,h⟩
theorem qif{slot:Nat}{K:Value->Mz->List Nat->Prop}(hG:jey P G)(hs:st.h[slot]?=some none)(h:jgj P G o st slot K):∃v ms rh,OKs P o st v ms rh/\K v ms rh:=by
 unfold jgj at h;split at h
 .rename_i x ho;obtain⟨v,hv,h⟩:=qas h;exact⟨_,_,_,q6m ho hv,h⟩
 .rename_i x ho;obtain⟨v,hv,h⟩:=qas h;exact⟨_,_,_,qwy ho hv,h⟩
 .rename_i c x y ho;obtain⟨v,hv,h⟩:=qas h;split at h
  .rename_i t;have h:=h.out;cases t with
   | true=>obtain⟨u,hu,h⟩:=qas (h.1 rfl);exact⟨_,_,_,qwz (t:=true) ho hv hu,h⟩
   | false=>obtain⟨u,hu,h⟩:=qas (h.2 rfl);exact⟨_,_,_,qwz (t:=false) ho hv hu,h⟩
  .exact h.elim
 .rename_i t ho;obtain⟨i,d,h1,h2,h⟩:=qao hG h;split at h
  .rename_i z hz;cases hb:qap z&&flatB z i.size with
   | true=>
    rw[hb] at h;simp only[xp] at hb;have h:=qce (K:=λn=>K (mkp slot) [(slot,⟨true,n,[(0,n,z)]⟩)] []) h;exact⟨_,_,_,q1o ho h1 hz hb.1 hs hb.2,h⟩
   | false=>rw[hb] at h;exact h.elim
  .exact h.elim
 .rename_i t x ho;obtain⟨v,hv,h⟩:=qas h;obtain⟨i,d,h1,h2,h⟩:=qao hG h;have h:=qce (K:=λn=>jhj v n (K (mkp slot) [(slot,⟨true,n,[(0,n,v)]⟩)] [])) h;obtain⟨hf,h⟩:=qpk h;exact⟨_,_,_,jav ho hv hs hf,h⟩
 .rename_i t x ho;obtain⟨v,hv,h⟩:=qas h;split at h
  .obtain⟨c,hc,h⟩:=qb5 h;obtain⟨i,d,h1,h2,h⟩:=qao hG h;have h:=qce (K:=λn=>jh6 c _ _ (qd2 d) n _) h;obtain⟨u,hu,h⟩:=qpi h;exact⟨_,_,_,q6n ho hv hc h1 h2 hu,h⟩
  .exact N.out h
  .exact h.elim
 .rename_i t x y ho;obtain⟨v,hv,h⟩:=qas h;obtain⟨u,hu,h⟩:=qas h;split at h
  .obtain⟨c,hc,h⟩:=qb5 h;obtain⟨i,d,h1,h2,h⟩:=qao hG h;have h:=qce (K:=λn=>jhj u n (qta c _ _ n u _)) h;obtain⟨hf,h⟩:=qpk h;obtain⟨e,he,h⟩:=qvp h;exact⟨_,_,_,q1n ho hv hu hc h1 hf he,h⟩
  .exact N.out h
  .exact h.elim
 .rename_i x ho;obtain⟨v,hv,h⟩:=qas h;split at h
  .exact⟨_,_,_,qrq ho hv,h⟩
  .exact⟨_,_,_,qo4 ho hv,h⟩
  .exact N.out h
  .exact h.elim
 .rename_i t x k ho;obtain⟨v,hv,h⟩:=qas h;split at h
  .obtain⟨i,d,h1,h2,h⟩:=qao hG h;split at h
   .rw[qb0] at h;split at h
    .rename_i hf;obtain⟨fi,fd,h3,h4,h⟩:=qao hG h;cases hb:Nat.beq fi.size 0 with
     | false=>rw[hb] at h;exact⟨_,_,_,qo5 ho hv h2 hf h3 hb,qpl (K:=λg=>K (.pointer (some ⟨_,g,some _⟩)) [] []) h⟩
     | true=>rw[hb] at h;exact h.elim
    .exact h.elim
   .exact h.elim
  .exact N.out h
  .exact h.elim
 .rename_i t x k ho;obtain⟨v,hv,h⟩:=qas h;split at h
  .obtain⟨i,d,h1,h2,h⟩:=qao hG h;split at h
   .rw[qb0] at h;split at h
    .rename_i hf;obtain⟨fi,fd,h3,h4,h⟩:=qao hG h;obtain⟨u,hu,h⟩:=qpn h;exact⟨_,_,_,q1p ho hv h2 hf h3 h4 hu,h⟩
    .exact h.elim
   .exact h.elim
  .exact h.elim
 .rename_i t ps ho;obtain⟨vs,hv,h⟩:=qjh h;obtain⟨i,d,h1,h2,h⟩:=qao hG h;split at h
  .rename_i z hz;obtain⟨v,h3,h⟩:=qxi hG ho hv h1 hz h2 h;exact⟨_,_,_,h3,h⟩
  .exact h.elim
 .rename_i op t x y u ho;obtain⟨a,ha,h⟩:=qas h;obtain⟨b,hb,h⟩:=qas h;obtain⟨v,h3,h⟩:=q6q hG ho ha hb h;exact⟨_,_,_,h3,h⟩
 .rename_i op t x ho;obtain⟨a,ha,h⟩:=qas h;obtain⟨v,h3,h⟩:=jaz ho ha h;exact⟨_,_,_,h3,h⟩
 .rename_i s d x ho;obtain⟨a,ha,h⟩:=qas h;split at h
  .exact N.out h
  .exact N.out h
  .obtain⟨v,h3,h⟩:=q10 hG ho ha h;exact⟨_,_,_,h3,h⟩
 .rename_i x k ho;obtain⟨v,hv,h⟩:=qas h;split at h
  .rw[qb0] at h;split at h
   .rename_i hu;exact⟨_,_,_,qmf ho hv hu rfl,h⟩
   .rename_i u hne hu;obtain⟨h1,h⟩:=qg4 h;exact⟨_,_,_,qmf ho hv hu (by cases u<;>first|rfl|(simp[Value.oneCell'] at h1)),h⟩
   .exact h.elim
  .exact h.elim
 .rename_i t x y ho;obtain⟨v,hv,h⟩:=qas h;obtain⟨u,hu,h⟩:=qas h;split at h
  .split at h
   .obtain⟨i,d,h1,h2,h⟩:=qao hG h;split at h
    .obtain⟨ei,ed,h3,h4,h⟩:=qao hG h;obtain⟨j,s',e,hj,h'⟩:=qxg hu h;subst e;exact⟨_,_,_,q1v ho hv hu h2 h3 Q8E Q8E,by simpa using qpm (K:=λg=>K (.pointer (some ⟨_,g,some _⟩)) [] []) h'⟩
    .exact h.elim
   .obtain⟨i,d,h1,h2,h⟩:=qao hG h;split at h
    .obtain⟨ei,ed,h3,h4,h⟩:=qao hG h;obtain⟨j,s',e,hj,h'⟩:=h.out;subst e;exact⟨_,_,_,q1w ho hv hu h2 h3 Q8E Q8E,by simpa using qpm (K:=λg=>K (.pointer (some ⟨_,g,some _⟩)) [] []) h'⟩
    .exact h.elim
   .exact N.out h
   .exact N.out h
   .exact N.out h
   .exact h.elim
  .exact h.elim
 .rename_i t x y ho;obtain⟨v,hv,h⟩:=qas h;obtain⟨u,hu,h⟩:=qas h;split at h
  .split at h
   .obtain⟨i,d,h1,h2,h⟩:=qao hG h;split at h
    .obtain⟨ei,ed,h3,h4,h⟩:=qao hG h;obtain⟨j,s',e,hj,h⟩:=qxg hu h;obtain⟨r,hr,h'⟩:=qpn h;subst e;exact⟨_,_,_,qw0 ho hv hu h2 h3 h4 hj hr,h'⟩
    .exact h.elim
   .obtain⟨i,d,h1,h2,h⟩:=qao hG h;split at h
    .obtain⟨j,b,e,hb,h'⟩:=h.out;subst e;exact⟨_,_,_,qw1 ho hv hu h2 hb,h'⟩
    .exact h.elim
   .exact h.elim
  .exact h.elim
 .rename_i t x lo hi ho;obtain⟨v,hv,h⟩:=qas h;obtain⟨vl,hl,h⟩:=qxh h;obtain⟨vh,hh,h⟩:=qxh h;split at h
  .obtain⟨i,d,h1,h2,h⟩:=qao hG h;split at h
   .obtain⟨ei,ed,h3,h4,h⟩:=qao hG h;obtain⟨p,q,s',hq,hp,h⟩:=h.out;exact⟨_,_,_,qw4 ho hv hl hh h2 h3 hq hp,h⟩
   .exact h.elim
  .obtain⟨i,d,h1,h2,h⟩:=qao hG h;split at h
   .obtain⟨ei,ed,h3,h4,h⟩:=qao hG h;obtain⟨p,q,s',hq,hp,h⟩:=h.out;exact⟨_,_,_,qw5 ho hv hl hh h2 h3 hq hp,h⟩
   .exact h.elim
  .obtain⟨i,d,h1,h2,h⟩:=qao hG h;split at h
   .obtain⟨p,q,s',hq,hp,h⟩:=h.out;exact⟨_,_,_,qrv ho hv hl hh h2 hq hp,h⟩
   .exact h.elim
  .exact N.out h
  .exact N.out h
  .exact h.elim
 .rename_i g xs ys ho;obtain⟨us,hu,h⟩:=qep h;obtain⟨cs,hc,h⟩:=qep h;cases hb:us.all cap1&&cs.all cap1 with
  | true=>
   rw[hb] at h;simp only[xp] at hb;exact⟨_,_,_,qrr ho hu hc hb.1 hb.2,h⟩
  | false=>rw[hb] at h;exact h.elim
 .rename_i t x y b ho;obtain⟨v,hv,h⟩:=qas h;obtain⟨u,hu,h⟩:=qas h;split at h
  .rename_i i;cases hb:qap u with
   | false=>rw[hb] at h;exact h.elim
   | true=>
    rw[hb] at h;obtain⟨c,hc,h⟩:=qb5 h;obtain⟨r,h1,h2,h⟩:=N.out h;exact⟨_,_,_,qw9 ho hv hu hb hc h1 h2,h⟩
  .exact h.elim
 .rename_i t x y z ho;obtain⟨v,hv,h⟩:=qas h;obtain⟨u,hu,h⟩:=qas h;obtain⟨u2,hu2,h⟩:=qas h;split at h
  .rename_i i;cases hb:qap u&&qap u2 with
   | false=>rw[hb] at h;exact h.elim
   | true=>
    rw[hb] at h;simp only[xp] at hb;obtain⟨c,hc,h⟩:=qb5 h;obtain⟨d,h1,h⟩:=N.out h;exact⟨_,_,_,qpd ho hv hu hb.1 hu2 hb.2 hc h1,h⟩
  .exact h.elim
 .rename_i t x y ho;obtain⟨v,hv,h⟩:=qas h;obtain⟨u,hu,h⟩:=qas h;split at h
  .rename_i i;cases hb:qap u with
   | false=>rw[hb] at h;exact h.elim
   | true=>
    rw[hb] at h;obtain⟨c,hc,h⟩:=qb5 h;obtain⟨r,d,h1,h2,h⟩:=N.out h;exact⟨_,_,_,qrw ho hv hu hb hc h1 h2,h⟩
  .exact h.elim
 .rename_i t x y z ho;obtain⟨v,hv,h⟩:=qas h;obtain⟨u,hu,h⟩:=qas h;obtain⟨u2,hu2,h⟩:=qas h;split at h
  .rename_i i;cases hb:qap u&&qap u2 with
   | false=>rw[hb] at h;exact h.elim
   | true=>
    rw[hb] at h;simp only[xp] at hb;obtain⟨c,hc,h⟩:=qb5 h;obtain⟨d,h1,h⟩:=N.out h;exact⟨_,_,_,qni ho hv hu hb.1 hu2 hb.2 hc h1,h⟩
  .exact h.elim
 .rename_i t ho;obtain⟨d,h1,h2,h⟩:=N.out h;exact⟨_,_,_,qvo ho hs h1 h2,h⟩
 .rename_i f xs ts ho;obtain⟨v,hv,h⟩:=qas h;split at h
  .rename_i g us cs;cases hb:us.all cap1&&cs.all cap1 with
   | true=>
    rw[hb] at h;simp only[xp] at hb;obtain⟨vs,hx,h⟩:=qep h;have h:=qes (K:=λl=>N (jhi false P g l st.h slot K)) h;rcases h.out with ⟨u,ms,rh,h1,h⟩|⟨hq,_⟩
    .exact⟨_,_,_,qw7 ho hv hb.1 hb.2 hx h1,h⟩
    .cases hq
   | false=>rw[hb] at h;exact h.elim
  .exact h.elim
 .rename_i x y tx ty ho;obtain⟨v,hv,h⟩:=qas h;obtain⟨u,hu,h⟩:=qas h;split at h
  .obtain⟨i,d,h1,h2,h⟩:=qao hG h;split at h
   .obtain⟨ei,ed,h3,h4,h⟩:=qao hG h;obtain⟨ci,hci,h⟩:=qb5 h;obtain⟨cj,hcj,h⟩:=qb5 h;obtain⟨n,z,dd,hn,hr,hf,hw,h⟩:=h.out;exact⟨_,_,_,q6p ho hv hu h2 h3 hci hcj hn hr hf hw,h⟩
   .exact h.elim
  .exact N.out h
  .exact N.out h
  .exact h.elim
 .rename_i x y ts ho;obtain⟨v,hv,h⟩:=qas h;obtain⟨u,hu,h⟩:=qas h;split at h
  .rename_i i;cases hb:qap u with
   | false=>rw[hb] at h;exact h.elim
   | true=>
    rw[hb] at h;obtain⟨c,hc,h⟩:=qb5 h;obtain⟨r,d,h1,h2,h⟩:=N.out h;obtain⟨e1,h3⟩:=N.out h;subst e1;exact⟨_,_,_,qxa ho hv hu hb hc h2,h3⟩
  .exact h.elim
 .rename_i x ts ho;obtain⟨v,hv,h⟩:=qas h;split at h
  .rename_i i;obtain⟨c,hc,h⟩:=qb5 h;obtain⟨r,h1,h2,h⟩:=N.out h;exact⟨_,_,_,qxb ho hv hc h1 h2,h⟩
  .exact N.out h
  .obtain⟨u,h1,h⟩:=qpo hG ho (vs:=[v]) ⟨hv,xb⟩ h;exact⟨_,_,_,h1,h⟩
 .rename_i b xs ts hne hne2 hne3 ho;obtain⟨vs,hv,h⟩:=qep h;obtain⟨u,h1,h⟩:=qpo hG ho hv h;exact⟨_,_,_,h1,h⟩
 .rename_i t n ps ho;obtain⟨vs,hx,h⟩:=qjh h;obtain⟨i,d,h1,h2,h⟩:=qao hG h;split at h
  .obtain⟨ei,ed,h3,h4,h⟩:=qao hG h;split at h
   .rename_i z hz;cases hb:qap z&&flatB z ei.size&&Nat.ble 1 ei.size&&Nat.ble (n*ei.size) 16777216 with
    | false=>rw[hb] at h;exact h.elim
    | true=>
     rw[hb] at h;simp only[xp,yE] at hb;simp only at h;split at h
     .rename_i out hout;cases hl:Nat.beq out.length (n*ei.size) with
      | false=>rw[hl] at h;exact h.elim
      | true=>
       rw[hl] at h;have h:=qes (K:=λl=>jfk (n*ei.size) λm=>K (.slice (some ⟨slot,0,some 0⟩) n n) [(slot,⟨true,m,[(0,m,.agg ⟨l⟩)]⟩)] []) h;have h:=qce (K:=λm=>K (.slice (some ⟨slot,0,some 0⟩) n n) [(slot,⟨true,m,[(0,m,.agg ⟨out⟩)]⟩)] []) h;exact⟨_,_,_,qnf ho hx h2 h3 hz hb.1.1.1 hb.1.1.2 hb.1.2 hb.2 hout (xN hl) hs,h⟩
     .exact h.elim
   .exact h.elim
  .exact h.elim
 .rename_i t x y ho;obtain⟨p,hp,h⟩:=qas h;obtain⟨q,hq,h⟩:=qas h;split at h
  .split at h
   .obtain⟨i,d,h1,h2,h⟩:=qao hG h;split at h
    .obtain⟨ei,ed,h3,h4,h⟩:=qao hG h;split at h
     .rename_i z hz;cases hb:qap z&&flatB z ei.size&&Nat.ble 1 ei.size with
      | false=>rw[hb] at h;exact h.elim
      | true=>
       rw[hb] at h;simp only[xp,yE] at hb;rcases N.out (qce (K:=λsz=>N (MakeN _ _ ei.bytes sz (λn m=>K (.slice (some ⟨slot,0,some 0⟩) n n) [(slot,⟨true,m,[(0,m,.agg ⟨segL m (jfj sz z)⟩)]⟩)] []) (K (.slice (some ⟨slot,0,some 0⟩) 0 0) [(slot,zC)] []))) h) with ⟨n,m,rfl,rfl,hb1,hb2,rfl,hk0⟩|⟨rfl,rfl,hk0⟩
       .exact⟨_,_,_,qpb ho hp hq h2 h3 hz hb.1.1 hb.1.2 hb.2 hb1 hb2 hs,hk0⟩
       .exact⟨_,_,_,qng ho hp hq h2 h3 hz hb.1.1 hb.1.2 hb.2 hs,hk0⟩
     .exact h.elim
    .exact h.elim
   .exact h.elim
  .exact h.elim
 .exact h.out
end
end Go.Proofs.YtfkngpmgcimdbaaGreat.Sx
