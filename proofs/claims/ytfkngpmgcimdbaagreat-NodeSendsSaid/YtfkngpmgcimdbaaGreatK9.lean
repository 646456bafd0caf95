/-
  A node's tracks: at, Track, put.
-/
import Derived.Test.YtfkngpmgcimdbaaGreatRows
import Derived.Laws.BytesArg
import Derived.Laws.OwnMore
import Derived.Laws.IdiomCopy
import Derived.Test.YtfkngpmgcimdbaaGreatK8
set_option linter.unusedVariables false
set_option linter.unusedSimpArgs false
set_option maxRecDepth 100000
set_option maxHeartbeats 20000000
open Go.IntKind
open Go.Proofs.Tryz
namespace Go.Proofs
section
variable{Z Y:Prop}
theorem Q04(h:Z:=by
 refine qac (G:=tys) w tysOK mixed func59 Q9S Q9S Q9S ?_
 repeat' (refine Ba ?_;first|refine Q5P ?_|refine Bb (qg1 f _) ?_|refine Bb (qcn _ _) ?_|refine Bb (jmv _ _ _) ?_|refine Bu _ (qg2 _ _ _ _ _ _ _ _ _ _ _ _) ?_|refine Bg (xg g_own) ?_|refine Bf (xf n_own) ?_|refine Bg (xg g_s) ?_|refine Bf (xf n_s) ?_|refine Bg (xg g_b) ?_|refine Bf (xf n_b) ?_|refine Bg (xg g_q) ?_|refine Bf (xf n_q) ?_|refine Bg (xg g_st) ?_|refine Bf (xf n_st) ?_|refine Bg (kY g_ds) ?_|refine Bf (kN n_ds) ?_|refine Bg (kY g_t1) ?_|refine Bf (kN n_t1) ?_|refine Bg (kY g_t2) ?_|refine Bf (kN n_t2) ?_|refine Bg (kY g_wh) ?_|refine Bf (kN n_wh) ?_|refine Bg (kY g_wn) ?_|refine Bf (kN n_wn) ?_|fail)
 all_goals rfl):Z:=h
theorem Q0b(h:Z:=by
 refine qac (G:=tys) w tysOK mixed func91 Q9S Q9U Q9T ?_;repeat' (refine Ba ?_;first|refine Q5P ?_|refine Q66 ?_|refine Q6c ?_|with_reducible refine Bj (λhb=>?_) (λhb=>?_)|refine Bb (qcn _ _) ?_|refine Bb (jmv _ _ _) ?_|refine Q6A ?_|fail)
 all_goals
  refine jry ?_
  simp only[xh,xm,xG,false_iff,true_iff,iff_true,iff_false,reduceCtorEq,yj,xI,yk,xZ,bne_iff_ne,ne_eq,bne_eq_false_iff_eq] at *
  try first|omega|exact⟨λhh=>⟨by assumption,by assumption,by assumption,hh⟩,λhh=>hh.2.2.2⟩):Z:=h
theorem Q0n(h:Z:=by
 repeat' (refine Ba ?_;first|refine Q5P ?_|with_reducible refine Bj (λhb=>?_) (λhb=>?_)|fail)
 all_goals
  refine jf7 ?_
  simp only[xh,xm,xG,false_iff,true_iff,iff_true,iff_false,reduceCtorEq,yj,xI,yk,xZ] at *
  omega):Z:=h
theorem Q0o(h:Z:=by
 repeat' (refine Ba ?_;first|refine Q5P ?_|refine Bg ho ?_|refine Bf (eq_false_of_ne_true ho) ?_|refine Q6P ?_|fail)
 refine Ba ?_;refine N.next (α:=Nat) (m+1) ⟨hm8,by show 8-(m+1)<8-m;omega⟩ ?_;exact Q2k):Z:=h
theorem Q0B(h:Z:=by exact Q2k):Z:=h
theorem Q0E(k:Y)(h:Wr Y->Z:=by
 intro kQ;repeat' (refine Ba ?_;first|refine Q5V ?_|refine Q5R ?_|refine Bp 5 ?_|refine Q71 ?_|refine Q6f ?_|refine Q7P ?_|refine Q66 ?_|refine Q6c ?_|fail)
 exact kQ.o):Z:=h ⟨k⟩
theorem Q0V(h:Z:=by
 refine Ba ?_;exact Q4B):Z:=h
theorem Q19(k:Y)(h:Wr Y->Z:=by
 intro kQ;refine Ba ?_;refine Bl ?_;refine Q3z ?_;refine Bc ⟨⟨_,rfl,id,nlr _,re7⟩,⟨_,rfl,id,nlr _,nzj⟩,xb⟩ ?_;refine Bc xb ?_;exact kQ.o):Z:=h ⟨k⟩
theorem Q1a(k:Y)(h:Wr Y->Z:=by
 intro kQ;repeat' (refine Ba ?_;first|refine Q5P ?_|refine Q6P ?_|refine Q6L ?_|fail)
 refine Ba ?_;exact kQ.o):Z:=h ⟨k⟩
theorem Q1i(k:Y)(h:Wr Y->Z:=by
 intro kQ;refine Q2J ?_;exact kQ.o):Z:=h ⟨k⟩
theorem Q1j(h:Z:=by
 refine⟨Evo.refl _ _,λi hi=>⟨⟨_,by
   have hi:i<1:=hi;obtain rfl:i=0:=by omega
   rfl⟩,rfl⟩,λk d hk=>hW,λk d hk j hj=>?_,λk d hk ho j hj=>?_,λk d l e hk ho hl hne=>?_,λi b=>i=0/\b<W.heap.size,λk d hk=>?_,λk d b hk hS=>?_,λk d b l e hk hS hl hne=>?_⟩
 .exact Q3M
 .exact Q3M
 .exact absurd ((one k d hk).1.trans (one l e hl).1.symm) hne
 .obtain⟨rfl,rfl⟩:=one k d hk;refine⟨yN,(λr hr=>by cases hr),λW' hW'=>?_⟩;rw[hz] at hW';obtain rfl:=Option.some.inj hW';exact⟨hW,nlr _,λb hb=>⟨⟨rfl,hb⟩,rfl⟩⟩
 .exact Q5e
 .exact absurd ((one l e hl).1.trans (one k d hk).1.symm) hne):Z:=h
theorem Q1y(h:Z:=by
 refine Bc xb ?_;exact Q4Y):Z:=h
theorem Q1Q(h:Z:=by repeat' (refine Ba ?_;first|refine Q5P ?_|refine Bc Q88 ?_|refine Bc (qdr (by show(evL E p (r+1)).length=_;rw[e1]) Q9S) ?_|refine Bc (qm7 e1) ?_|exact Be|refine Q6q ?_|refine Q7n ?_|fail)):Z:=h
theorem Q1V(h:Z:=by exact Q4Y):Z:=h
theorem Q23(h:Z:=by
 repeat' (refine Ba ?_;first|refine Q5P ?_|refine Bb (jk1 T k e hd 2 _ Q9S) ?_|refine Bb (jj2 D 1 2 _ (qj9 D 1 2) e.el e.when_ now 0 _ Q9S) ?_|refine Q66 ?_|refine Bf (by rw[hh];rfl) ?_|refine Bg (by rw[hh];rfl) ?_|fail)
 exact Q0V):Z:=h
theorem Q2b(h:Z:=by repeat' (refine Ba ?_;first|refine Q5P ?_|exact Be|refine Q6q ?_|refine Bc (qat (qaq ek) rfl) ?_|refine Bc qfp ?_|refine Bc (.one .quo) ?_|refine Bc (.one (.any (λ_ _=>rfl) λ_ _=>rfl)) ?_|fail)):Z:=h
theorem Q2d(h:Z:=by repeat' (refine Ba ?_;first|refine Q5P ?_|refine Q60 ?_|refine Bg hb ?_|refine Bf hb ?_|refine Q6o ?_|refine Bc xb ?_|exact Be|fail)):Z:=h
theorem Q2g(h:Z:=by
 repeat' (refine Ba ?_;first|refine Q5P ?_|refine Bg (by rw[hw,xh];omega) ?_|refine Bg (by rw[hb];rfl) ?_|refine Bf (by rw[hb];rfl) ?_|fail)
 refine Q19 ?_;exact Q1V):Z:=h
theorem Q2k(h:Z:=by repeat' (refine Ba ?_;first|refine Q5P ?_|exact Be|refine Bc (congrArg (Value.int .u32) es) ?_|refine Bc (congrArg (Value.int .i64) em) ?_|refine Bc (ChunkLe.refl _) ?_|fail)):Z:=h
theorem Q2n(h:Z:=by
 generalize hx:jj3 (IntKind.u32.wrap (k:Int)) m=x;have em:IntKind.i64.wrap ((m:Int)+1)=((m+1:Nat):Int):=by rw[je5 _ Q9R Q9R];rfl
 by_cases ho:jqu x=true
 .have es:jgu (jhx x 1) 3988292384=jj3 (IntKind.u32.wrap (k:Int)) (m+1):=by rw[jj3,hx,jpi,if_pos ho]
  exact Q0o
 .have es:jhx x 1=jj3 (IntKind.u32.wrap (k:Int)) (m+1):=by rw[jj3,hx,jpi,if_neg ho]
  exact Q0o):Z:=h
theorem Q2C(h:Z:=by
 refine Q19 ?_;refine Bc ⟨⟨.inl rfl,.inl rfl,.inl rfl,.inr ⟨_,rfl,rfl⟩,xb⟩,xb⟩ ?_;exact Be):Z:=h
theorem Q2D(h:Z:=by repeat' (refine Ba ?_;first|refine Q5P ?_|refine Q6o ?_|refine Bc xb ?_|exact Be|fail)):Z:=h
theorem Q2J(k:Y)(h:Wr Y->Z:=by
 intro kQ;refine Q59 ?_;refine Bk _ (qju hlt hce rfl Qaj) ?_;exact kQ.o):Z:=h ⟨k⟩
theorem Q2K(h:Z:=by
 intro X ρ w2 xs H hx;rcases key X ρ w2 xs H hx with ⟨v,w',hr',u,ms,ρ',⟨κ,hκ,rfl,rfl⟩,ha⟩|⟨hr',hcl⟩
 .exact .inl ⟨v,w',hr',_,_,ρ',⟨κ,hκ,rfl,rfl⟩,ha⟩
 .refine .inr ⟨hr',hcl.mono ?_⟩;rintro e w' ⟨y,he,u,ms,ρ',⟨κ,hκ,rfl,rfl⟩,ha⟩;exact⟨y,he,_,_,ρ',⟨κ,hκ,rfl,rfl⟩,ha⟩):Z:=h
theorem Q2T(k:Y)(h:Wr Y->Z:=by
 intro kQ;repeat' (refine Ba ?_;first|refine Q5P ?_|refine Bf hb ?_|refine Bg hb ?_|fail)
 refine Ba ?_;exact kQ.o):Z:=h ⟨k⟩
theorem Q33(k:Y)(h:Wr Y->Z:=by
 intro kQ;repeat' (refine Ba ?_;first|refine Q5P ?_|refine Bg hh ?_|fail)
 refine Ba ?_;exact kQ.o):Z:=h ⟨k⟩
theorem Q34(k:Y)(h:Wr Y->Z:=by
 intro kQ;repeat' (refine Ba ?_;first|refine Q5P ?_|refine Bf hh ?_|fail)
 refine Ba ?_;exact kQ.o):Z:=h ⟨k⟩
theorem Q3e(h:Z:=by
 match k,h with
 | 0,_=>rfl
 | 1,_=>rfl
 | 2,_=>rfl
 | 3,_=>rfl
 | 4,_=>rfl
 | 5,_=>rfl
 | 6,_=>rfl
 | 7,_=>rfl
 | 8,_=>rfl
 | 9,_=>rfl
 | 10,_=>rfl
 | 11,_=>rfl
 | 12,_=>rfl
 | 13,_=>rfl
 | 14,_=>rfl
 | 15,_=>rfl
 | k+16,h=>exact absurd h Q9R):Z:=h
theorem Q3z(k:Y)(h:Wr Y->Z:=by
 intro kQ;refine Bc (.plain Q9S) ?_;exact kQ.o):Z:=h ⟨k⟩
theorem Q3M(h:Z:=by obtain⟨rfl,rfl⟩:=one k d hk;exact absurd hj (yg j)):Z:=h
theorem Q3Y(h:Z:=by
 obtain⟨b1,b2,b3⟩:=V.base W hW;exact⟨b1,xH b2 hB.size,λb hb=>⟨.inl (b3 b hb).1,(hB.block b (xl hb b2)).trans (b3 b hb).2⟩⟩):Z:=h
theorem Q48(h:Z:=by
 cases k with
 | zero=>exact⟨rfl,by simpa using hk.symm⟩
 | succ k=>simp at hk):Z:=h
theorem Q4e(h:Z:=by
 simp[execOp,ho,resolve,invoke,builtin,hx',uR,uN,Builtin.len_,Sem.run_bind,Sem.run_pure,Result.andThen_ok,run_underlying he,Builtin.lenOf];rfl):Z:=h
theorem Q4f(h:Z:=by
 obtain⟨κ,hκ,rfl,rfl⟩:=hR;cases κ with
 | none=>exact⟨rfl,.inl ⟨hκ,rfl⟩⟩
 | some κ=>exact⟨rfl,.inr ⟨κ,hκ,rfl⟩⟩):Z:=h
theorem Q4B(h:Z:=by
 refine Bl ?_;refine Q3z ?_;refine Q2E ?_;exact Q1y):Z:=h
theorem Q4E(h:Z:=by exact absurd h (by show ¬ (1:Int)=0;decide)):Z:=h
theorem Q4F(h:Z:=by
 refine⟨v,?_,λr _=>?_⟩
 .exact Q2U
 .cases v<;>first|exact qbc (by exact hp) r|(simp[qbh] at hp)):Z:=h
theorem Q4Y(h:Z:=by
 refine Bc ⟨⟨.inl rfl,.inl rfl,.inr ⟨_,rfl,rfl⟩,xb⟩,xb⟩ ?_;exact Be):Z:=h
theorem Q50(h:Z:=by
 subst hq;obtain⟨e1,e2⟩:=qm2 ⟨q1,q2⟩;unfold e64 at this;rw[e1,e2] at this;exact this):Z:=h
theorem Q5e(h:Z:=by
 obtain⟨rfl,rfl⟩:=one k d hk;exact⟨.inl rfl,hS.2,.inr ⟨hS.2,λ_=>hS.2⟩⟩):Z:=h
theorem Q5u(h:Z:=by exact⟨xl (E.mine i _ b hi hb).2.1 hB.size,.inl rfl,.inl hb⟩):Z:=h
theorem Q5G(h:Z:=by unfold World.freeze;rw[if_neg Q9V]):Z:=h
theorem Q6P(k:Y)(h:Wr Y->Z:=by intro kQ;(first|refine Bg (xg Q9R) ?_|fail);exact kQ.o):Z:=h ⟨k⟩
theorem Q7n(k:Y)(h:Wr Y->Z:=by intro kQ;(first|refine Bc (.one (.slice rfl)) ?_|refine Bc qdl ?_|fail);exact kQ.o):Z:=h ⟨k⟩
theorem Q7P(k:Y)(h:Wr Y->Z:=by intro kQ;(first|with_reducible (first|refine Bb (qrk _ _ _ Qai) ?_|refine Bb (ql5 _ _ _ Qai) ?_)|fail);exact kQ.o):Z:=h ⟨k⟩
theorem Q8f(h:Z:=by first|exact ⟨⟨λh=>⟨rfl,nlr _⟩,nlr _,qc2⟩,xb⟩|fail):Z:=h
theorem Q8s(h:Z:=by first|exact ⟨⟨_,rfl,λh=>h,nlr _,qc2⟩,xb⟩|fail):Z:=h
theorem Q8T(h:Z:=by first|exact ⟨λh=>Qaa,hc.n,qva hc Q9S Q9S⟩|fail):Z:=h
theorem Q9h(h:Z:=by first|exact ⟨λ_=>⟨rfl,xi _⟩,nlr _,lt4 (.ptr Q9S) (.plain rfl) (.plain rfl) (.slice Q9S)⟩|fail):Z:=h
theorem Q9k(h:Z:=by first|exact ql0 [_] Q8a rfl Q9S (qsy Q9S Q9S) rfl|fail):Z:=h
theorem Q9y(h:Z:=by first|exact ⟨.inl rfl,.inr ⟨_,rfl,rfl⟩,.inl rfl,.inl rfl,.inl rfl,.inl rfl,.inl rfl,xb⟩|fail):Z:=h
theorem Q9E(h:Z:=by first|exact ⟨⟨hK,rfl,.inl (by show 0<κ*16;have:1<=κ:=hκ;omega),by simp⟩,xb⟩|fail):Z:=h
theorem Q9J(h:Z:=by first|exact qvb D T _ _ k now 0 1 2 (qj9 D 1 2) _ Q9S Q9S Q9S Q9V|fail):Z:=h
theorem Q9K(h:Z:=by first|exact qdr (by show(evL E p (r+1)).length=_;rw[e1,xv];rfl) Q9S|fail):Z:=h
theorem Qak(h:Z:=by simp only[zN,xh] at *;omega):Z:=h
theorem Qan(h:Z:=by show E.length-(r+1)<E.length-r;omega):Z:=h
theorem QaF(h:Z:=by simp only[yu];omega):Z:=h
theorem Qb4(h:Z:=by rw[h2];decide):Z:=h
theorem Qbh(h:Z:=by show 0<κ*16;have:S.length+1<=κ:=hκ;omega):Z:=h
end
end Go.Proofs

namespace Go.Proofs.YtfkngpmgcimdbaaGreat
open Go Go.RowKit Sx
variable{p:Nat->Prop}
theorem jpf(h0:p 0)(h1:p 1)(h2:p 2)(h3:p 3)(h4:p 4)(h5:p 5)(h6:p 6)(h7:p 7)(h8:p 8)(h9:p 9)(h10:p 10):∀j,j<11->p j:=λj hj=>by
 match j,hj with
 | 0,_=>exact h0
 | 1,_=>exact h1
 | 2,_=>exact h2
 | 3,_=>exact h3
 | 4,_=>exact h4
 | 5,_=>exact h5
 | 6,_=>exact h6
 | 7,_=>exact h7
 | 8,_=>exact h8
 | 9,_=>exact h9
 | 10,_=>exact h10
 | k+11,h=>exact absurd h Q9R
theorem jj0(h0:p 0)(h1:p 1)(h2:p 2)(h3:p 3)(h4:p 4)(h5:p 5)(h6:p 6)(h7:p 7)(h8:p 8)(h9:p 9)(h10:p 10)(h11:p 11)(h12:p 12)(h13:p 13)(h14:p 14):∀j,j<15->p j:=λj hj=>by
 match j,hj with
 | 0,_=>exact h0
 | 1,_=>exact h1
 | 2,_=>exact h2
 | 3,_=>exact h3
 | 4,_=>exact h4
 | 5,_=>exact h5
 | 6,_=>exact h6
 | 7,_=>exact h7
 | 8,_=>exact h8
 | 9,_=>exact h9
 | 10,_=>exact h10
 | 11,_=>exact h11
 | 12,_=>exact h12
 | 13,_=>exact h13
 | 14,_=>exact h14
 | k+15,h=>exact absurd h Q9R
abbrev ndU(D:NdS):Chunk:=⟨false,11,[(0,11,.agg #[xc (D.C 0),xc (D.C 1),xc (D.C 2),xc (D.C 3),xc (D.C 4),xc (D.C 5),xc (D.C 6),xc (D.C 7),xc (D.C 8),xc (D.C 9),xc (D.C 10)])]⟩
abbrev ndV(D:NdS)(f t:Nat):Chunk:=⟨false,15,[(0,15,.agg #[xc (D.C 0),xc (D.C 1),xc (D.C 2),xc (D.C 3),xc (D.C 4),xc (D.C 5),xc (D.C 6),xc (D.C 7),xc (D.C 8),xc (D.C 9),xc (D.C 10),xc D.id,xc D.boot,xd f,xd t])]⟩
structure jj1(c:Chunk)(D:NdS)(f t:Nat):Prop where
 n:15<=c.n
 f:∀j,j<15->c.f j=(ndV D f t).f j
theorem q0w(D:NdS)(f t b m:Nat):jj1 (ndC D f t b m) D f t:=⟨xT rfl,jj0 rfl rfl rfl rfl rfl rfl rfl rfl rfl rfl rfl rfl rfl rfl rfl⟩
theorem qj9(D:NdS)(f t:Nat):jj1 (ndV D f t) D f t:=⟨xT rfl,jj0 rfl rfl rfl rfl rfl rfl rfl rfl rfl rfl rfl rfl rfl rfl rfl⟩
variable{ix:List (Nat×Nat)}
theorem jdf{c:Chunk}{D:NdS}{f t:Nat}(h:jj1 c D f t):qbg ix c (ndU D):=λj hj=>by
 have hj:j<11:=hj;rw[h.f j Q9R];exact jpf (p:=λj=>Re1 ix ((ndV D f t).f j) ((ndU D).f j)) (.plain rfl) (.plain rfl) (.plain rfl) (.plain rfl) (.plain rfl) (.plain rfl) (.plain rfl) (.plain rfl) (.plain rfl) (.plain rfl) (.plain rfl) j hj
theorem qva{c:Chunk}{D:NdS}{f t f' t':Nat}(h:jj1 c D f t)(hf:ixK ix f'=some f)(ht:ixK ix t'=some t):qbg ix c (ndV D f' t'):=λj hj=>by
 have hj:j<15:=hj;rw[h.f j hj];exact jj0 (p:=λj=>Re1 ix ((ndV D f t).f j) ((ndV D f' t').f j)) (.plain rfl) (.plain rfl) (.plain rfl) (.plain rfl) (.plain rfl) (.plain rfl) (.plain rfl) (.plain rfl) (.plain rfl) (.plain rfl) (.plain rfl) (.plain rfl) (.plain rfl) (.ptr hf) (.ptr ht) j hj
abbrev Ent.el(e:Ent):El:=⟨e.x,e.y,e.a,e.b,e.d⟩
def qdf(C:Nat->Int)(T:Tbl)(k now:Int):El×Bool:=
 match dGet T.E k with
 | some e=>if e.has=true then ((qcq e.el e.when_ now (C 2) (C 4)).1,decide ((qcq e.el e.when_ now (C 2) (C 4)).2=0)) else (El.o,false)
 | none=>(El.o,false)
def Tbl.keep(T:Tbl)(k:Int)(g:El)(now:Int):Tbl:=
 match dGet T.E k with
 | some e=>⟨T.most,dPut T.E k (e.put g.x g.y g.a g.b g.d now),T.lives⟩
 | none=>T
def ji4(C:Nat->Int)(T:Tbl)(k:Int)(e:El)(w now:Int):Tbl:=
 if (qcq e w now (C 2) (C 4)).2=0 then T.keep k (if (qdf C T k now).2=true then (qi7 (qdf C T k now).1 (qcq e w now (C 2) (C 4)).1).1 else (qcq e w now (C 2) (C 4)).1) now else T
theorem qrf{e:El}{w now s k:Int}(h:(qcq e w now s k).2=0):qbl now/\(qcq e w now s k).1.may:=by
 unfold qcq at h ⊢;split at h
 .rename_i hh;rw[if_pos hh];exact⟨hh.2.2.1,q30 (g:=(jg9 e s (qfb w now k)).1) (Prod.ext rfl h)⟩
 .exact Q4E
theorem qho{C:Nat->Int}{T:Tbl}{k now:Int}(h:(qdf C T k now).2=true):(qdf C T k now).1.may:=by
 unfold qdf at h ⊢;split at h
 .rename_i e he;split at h
  .rename_i hh;rw[if_pos hh];exact(qrf (of_decide_eq_true h)).2
  .exact absurd h Q9V
 .exact absurd h Q9V
theorem qrg{old fresh:El}(ho:old.may)(hf:fresh.may):(qi7 old fresh).1.may:=by
 unfold qi7;rw[if_pos hf];split
 .rename_i h;rcases qg0 ho hf with h1|h1
  .exact h1.2
  .rw[h1] at h;exact absurd h Q9V
 .exact hf
theorem jmt(T:Tbl)(k:Int)(g:El)(now:Int)(hk : -9223372036854775808<=k/\k<=9223372036854775807)(hg:g.may)(ht:qbl now)(i:Nat)(h:Hp)(hi:h[i]?=some (some (tblC T))):
  qae prog 119 [xd i,xc k,elE g,xc now] h (xc (match dGet T.E k with|some _=>0|none=>7)) [(i,tblC (T.keep k g now))] []:=by
 unfold Tbl.keep
 cases hd:dGet T.E k with
 | none=>exact jon T k g.x g.y g.a g.b g.d now hk hd i h hi
 | some e=>exact joo T k g.x g.y g.a g.b g.d now hk e hd hg ht i h hi
theorem jj2(D:NdS)(f t:Nat)(c:Chunk)(hc:jj1 c D f t)(e:El)(w now:Int)(i:Nat)(h:Hp)(hi:h[i]?=some (some c)):
  qae prog 116 [xd i,elE e,xc w,xc now] h (.tuple #[elE (qcq e w now (D.C 2) (D.C 4)).1,xc (qcq e w now (D.C 2) (D.C 4)).2]) [] [i]:=by
 refine qak (G:=tys) [⟨i,_,ndU D,⟨false,0,[]⟩⟩] [] [xd 0,elE e,xc w,xc now] tysOK mixed func116 Q9S (call116) ⟨hi,xb⟩ ⟨⟨λh=>Qaa,by have:=hc.n;show 11<=c.n;omega,jdf hc⟩,xb⟩ Q9X xb Q8C ?_
 repeat' (refine Ba ?_;first|refine Q5P ?_|refine Bb (q4g e w now _ _ _) ?_|refine Q6q ?_|refine Bc xb ?_|exact Be|fail)
theorem qvb(D:NdS)(T:Tbl)(c cf:Chunk)(k now:Int)(i1 i2 i3:Nat)(hc:jj1 c D i2 i3)(h:Hp)(h1:h[i1]?=some (some c))(h2:h[i2]?=some (some cf))(h3:h[i3]?=some (some (tblC T)))(hne:[i1,i2,i3].Nodup):
  qae prog 117 [xd i1,xc k,xc now] h (.tuple #[elE (qdf D.C T k now).1,.bool (qdf D.C T k now).2]) [(i3,tblC T)] [i1,i2]:=by
 refine qar (G:=tys) (h:=h) (vs:=[xd i1,xc k,xc now]) (λ_:Unit=>True) (λ_=>_) [⟨i1,_,ndV D 1 2,noC⟩,⟨i2,_,noC,noC⟩,⟨i3,tblC T,tblC T,tblC T⟩] [] [xd 0,xc k,xc now] tysOK mixed func117 Q9S (call117) ⟨h1,h2,h3,xb⟩
  ⟨Q8T,Q82,Q7X,xb⟩ (by
   simp only[xL,xj,xK,not_or,xI,or_false,and_true] at hne;simp[Apart];omega) ⟨.inl rfl,.inl rfl,.inr ⟨rfl,rfl⟩,xb⟩ xb ⟨.ptr Q9S,.plain rfl,.plain rfl,xb⟩ Opens.same ?_
 rintro⟨⟩ -
 cases hd:dGet T.E k with
 | none=>
  rw[show qdf D.C T k now=(El.o,false) by unfold qdf;rw[hd]];repeat' (refine Ba ?_;first|refine Q5P ?_|refine Bb (jk2 T k hd 2 _ Q9S) ?_|refine Q6c ?_|fail)
  exact Q0V
 | some e=>
  rcases qdb e.has with hh|hh
  .rw[show qdf D.C T k now=(El.o,false) by unfold qdf;rw[hd];show(if e.has=true then _ else _)=_;rw[hh];rfl];exact Q23
  .rw[show qdf D.C T k now=((qcq e.el e.when_ now (D.C 2) (D.C 4)).1,decide ((qcq e.el e.when_ now (D.C 2) (D.C 4)).2=0)) by unfold qdf;rw[hd];show(if e.has=true then _ else _)=_;rw[hh];rfl];exact Q23
theorem q6l(D:NdS)(T:Tbl)(c cf:Chunk)(k:Int)(e:El)(w now:Int)(hk : -9223372036854775808<=k/\k<=9223372036854775807)(i1 i2 i3:Nat)(hc:jj1 c D i2 i3)(h:Hp)(h1:h[i1]?=some (some c))(h2:h[i2]?=some (some cf))(h3:h[i3]?=some (some (tblC T)))(hne:[i1,i2,i3].Nodup):
  qae prog 85 [xd i1,xc k,elE e,xc w,xc now] h (.tuple #[]) [(i3,tblC (ji4 D.C T k e w now))] [i1,i2]:=by
 refine qar (G:=tys) (h:=h) (vs:=[xd i1,xc k,elE e,xc w,xc now]) (λ_:Unit=>True) (λ_=>_) [⟨i1,_,ndV D 1 2,noC⟩,⟨i2,_,noC,noC⟩,⟨i3,tblC T,tblC T,tblC (ji4 D.C T k e w now)⟩] [] [xd 0,xc k,elE e,xc w,xc now] tysOK mixed func85 Q9S (call85) ⟨h1,h2,h3,xb⟩
  ⟨Q8T,Q82,Q7X,xb⟩ (by
   simp only[xL,xj,xK,not_or,xI,or_false,and_true] at hne;simp[Apart];omega) ⟨.inl rfl,.inl rfl,.inr ⟨rfl,rfl⟩,xb⟩ xb ⟨.ptr Q9S,.plain rfl,.plain rfl,.plain rfl,.plain rfl,xb⟩ Opens.same ?_
 rintro⟨⟩ -
 repeat' (refine Ba ?_;first|refine Q5P ?_|fail)
 refine Ba ?_
 refine Bb (jj2 D 1 2 _ (qj9 D 1 2) e w now 0 _ Q9S) ?_
 by_cases hz:(qcq e w now (D.C 2) (D.C 4)).2=0
 rotate_left
 .rw[show ji4 D.C T k e w now=T from if_neg hz];repeat' (refine Ba ?_;first|refine Q5P ?_|refine Bg (nn hz) ?_|fail)
  exact Q0V
 have hz2:=qrf hz
 rw[show ji4 D.C T k e w now=T.keep k (if (qdf D.C T k now).2=true then (qi7 (qdf D.C T k now).1 (qcq e w now (D.C 2) (D.C 4)).1).1 else (qcq e w now (D.C 2) (D.C 4)).1) now from if_pos hz]
 repeat' (refine Ba ?_;first|refine Q5P ?_|refine Bf (ni hz) ?_|fail)
 refine Ba ?_
 refine Bb Q9J ?_
 rcases qdb (qdf D.C T k now).2 with hb|hb
 .rw[if_neg (by rw[hb];decide)];refine Q2T ?_;refine Bb (jmt T k _ now hk hz2.2 hz2.1 2 _ Q9S) ?_;refine Q01 ?_;exact Q4B
 .rw[if_pos hb];refine Q2T ?_;refine Bb (jde _ _ _ (qho hb) hz2.2) ?_;refine Q01 ?_;refine Bb (jmt T k _ now hk (qrg (qho hb) hz2.2) hz2.1 2 _ Q9S) ?_;refine Q01 ?_;exact Q4B
open Go.RowKit
end Go.Proofs.YtfkngpmgcimdbaaGreat


namespace Go.Proofs.YtfkngpmgcimdbaaGreat.Sx
open Go Go.RowKit
structure Sl where
 b:Nat
 o:Nat
 n:Nat
 c:Nat
 sp:Option Nat
def uR:Option Sl->Value
 | none=>.slice none 0 0
 | some s=>.slice (some ⟨s.b,s.o,s.sp⟩) s.n s.c
abbrev uV(u:Option Sl):Value:=.iface 99999999 (uR u)
theorem jpg(u:Option Sl):∃a l c,uR u=.slice a l c:=by cases u with
 | none=>exact⟨_,_,_,rfl⟩
 | some s=>exact⟨_,_,_,rfl⟩
theorem qot(u:Option Sl)(ρ:Rz):den0 ρ (uV u)=uR u:=by
 obtain⟨a,l,c,e⟩:=jpg u;rw[uV,e];rfl
theorem q9h(u:Option Sl)(ρ:Rz):den1 ρ (uV u)=uR u:=qot u ρ
theorem qd6(u:Option Sl)(ρ:Rz):den ρ (uV u)=uR u:=qot u ρ
theorem jdg(u:Option Sl){ix:List (Nat×Nat)}:Re1 ix (uV u) (uV u):=.quo
def uN:Option Sl->Nat
 | none=>0
 | some s=>s.n
structure By where
 b:Nat
 c:Nat
 bs:List Int
abbrev By.s(e:By):Option Sl:=some ⟨e.b,0,e.bs.length,e.c,none⟩
def jrv(w:World)(u:Option Sl)(bs:List Int):Prop:=bs.length=uN u/\∀s,u=some s->(s.sp=none\/s.n=0)/\∀j,j<bs.length->w.cell? ⟨s.b,s.o+j,none⟩=some (.int .u8 (bs.getD j 0))
structure ByAt(w:World)(e:By):Prop where
 lt:e.b<w.heap.size
 cell:∀j,j<e.bs.length->w.cell? ⟨e.b,j,none⟩=some (.int .u8 (e.bs.getD j 0))
 own:∀j,j<e.bs.length->w.frozen? ⟨e.b,j,none⟩=false
variable{w:World}{b:Nat}
theorem qer{w':World}{o:Nat}(h:w'.heap[b]?=w.heap[b]?):w'.cell? ⟨b,o,none⟩=w.cell? ⟨b,o,none⟩:=by
 simp only[World.cell?,h]
theorem qwq{w':World}{o:Nat}(h:w'.heap[b]?=w.heap[b]?):w'.frozen? ⟨b,o,none⟩=w.frozen? ⟨b,o,none⟩:=by
 simp only[World.frozen?,h]
theorem qou{w':World}(hl:b<w.heap.size)(h:w'.heap[b]?=w.heap[b]?):b<w'.heap.size:=by
 have:w.heap[b]?=some (w.heap[b]'hl):=za hl;rw[this] at h;exact(xO.1 h).1
theorem qlz{o:Nat}{v:Value}(h:w.cell? ⟨b,o,none⟩=some v):b<w.heap.size:=World.block_lt_of_cell? _ _ h
theorem ByAt.keep{w':World}{e:By}(h:ByAt w e)(hb:w'.heap[e.b]?=w.heap[e.b]?):ByAt w' e:=
 ⟨qou h.lt hb,λj hj=>(qer hb).trans (h.cell j hj),λj hj=>(qwq hb).trans (h.own j hj)⟩
structure MemOK(W:World)(F:List By)(p:Nat×Nat)(S:Nat->Prop)(w:World):Prop where
 at_:0<W.heap.size->p.1<W.heap.size
 dom:∀b,S b↔b<W.heap.size\/∃e∈F,e.b=b
 size:W.heap.size<=w.heap.size
 old:∀b,b<W.heap.size->w.heap[b]?=W.heap[b]?
 nodup:(F.map By.b).Nodup
 cell:∀e∈F,W.heap.size<=e.b/\ByAt w e
abbrev jrw(W:World)(F:List By):Ext where
 inv:=λp S w=>MemOK W F p S w
 keep:=λ{p S w w'} h hb=>⟨h.at_,h.dom,by
   rcases xU W.heap.size with h0|h0
   .omega
   have h1:=h.at_ h0;have h2:=hb (W.heap.size-1) ((h.dom _).2 (.inl Q9R));have h3:=qou (b:=W.heap.size-1) (w:=w) (by have:=h.size;omega) h2;omega,λb hl=>(hb b ((h.dom b).2 (.inl hl))).trans (h.old b hl),h.nodup,λe he=>⟨(h.cell e he).1,(h.cell e he).2.keep (hb _ ((h.dom _).2 (.inr ⟨e,he,rfl⟩)))⟩⟩
abbrev jfc(W:World)(F:List By):Chunk:=@Chunk.mk (jrw W F) true 0 []
inductive Src(W:World)(F:List By):Option Sl->List Int->Prop
 | nil:Src W F none []
 | own {e:By} (he:e∈F):Src W F e.s e.bs
 | old {s:Sl} {bs:List Int} (hn:bs.length=s.n) (hs:s.sp=none\/s.n=0) (hc:∀j,j<bs.length->W.cell? ⟨s.b,s.o+j,none⟩=some (.int .u8 (bs.getD j 0))):Src W F (some s) bs
variable{W:World}{u:Option Sl}{bs:List Int}
theorem MemOK.src{F:List By}{p:Nat×Nat}{S:Nat->Prop}(M:MemOK W F p S w)(h:Src W F u bs):jrv w u bs:=by
 cases h with
 | nil=>exact⟨rfl,λs hs=>by cases hs⟩
 | own he=>
  refine⟨rfl,λs hs=>⟨?_,λj hj=>?_⟩⟩
  .cases hs;exact .inl rfl
  cases hs
  show w.cell? ⟨_,0+j,none⟩=_;rw[xq];exact(M.cell _ he).2.cell j hj
 | old hn hsp hc=>
  refine⟨hn,λs hs=>⟨?_,λj hj=>?_⟩⟩
  .cases hs;exact hsp
  cases hs
  have h1:=hc j hj;rw[<-h1];exact qer (M.old _ (qlz h1))
theorem Src.more{F F':List By}(hF:∀e∈F,e∈F')(h:Src W F u bs):Src W F' u bs:=by
 cases h with
 | nil=>exact .nil
 | own he=>exact .own (hF _ he)
 | old hn hsp hc=>exact .old hn hsp hc
inductive Made(F:List By)(bs:List Int):Option Sl->List By->Prop
 | nil:bs=[]->Made F bs none F
 | new {b c:Nat} (hb:b∉F.map By.b):Made F bs (By.mk b c bs).s (⟨b,c,bs⟩::F)
theorem Made.src{F F':List By}(h:Made F bs u F'):Src W F' u bs:=by
 cases h with
 | nil h=>subst h;exact .nil
 | new hb=>exact .own (zn ..)
theorem Made.sub{F F':List By}(h:Made F bs u F'):∀e∈F,e∈F':=by
 cases h with
 | nil h=>exact λe he=>he
 | new hb=>exact λe he=>yE _ he
section
variable{X:Ctx}{ρ:Rz}{h:Hp}{w w':World}
theorem q4h{i:Nat}{W:World}{F:List By}{e:By}(H:HOK X ρ h w)(hi:h[i]?=some (some (jfc W F)))(hB:Below w.heap.size w w')(he:ByAt w' e)(hge:w.heap.size<=e.b):e.b∉F.map By.b/\HOK X ρ (h.set i (some (jfc W (e::F)))) w':=by
 obtain⟨S,E⟩:=H.ext;have M:MemOK W F (ρ i) (S i) w:=E.inv i _ hi;have hno:e.b∉F.map By.b:=λhm=>by
  obtain⟨x,hx,hxb⟩:=xx.1 hm;have:=(M.cell x hx).2.lt;omega
 refine⟨hno,H.turnX E hi (d:=jfc W (e::F)) (S':=λb=>S i b\/b=e.b) id (nlr _) (nzj) hB.os hB.tape hB.output hB.size (λb hb _=>hB.block b hb) (λb hb=>?_) ?_⟩
 .rcases hb with hb|rfl
  .exact Q5u
  .exact⟨he.lt,.inl rfl,.inr hge⟩
 .refine⟨M.at_,λb=>⟨λhb=>?_,λhb=>?_⟩,xH M.size hB.size,λb hb=>(hB.block b (xl hb M.size)).trans (M.old b hb),?_,λx hx=>?_⟩
  .rcases hb with hb|rfl
   .rcases(M.dom b).1 hb with hb|⟨x,hx,hxb⟩
    .exact .inl hb
    .exact .inr ⟨x,yE _ hx,hxb⟩
   .exact .inr ⟨e,zn ..,rfl⟩
  .rcases hb with hb|⟨x,hx,rfl⟩
   .exact .inl ((M.dom b).2 (.inl hb))
   .rcases xj.1 hx with rfl|hx
    .exact .inr rfl
    .exact .inl ((M.dom _).2 (.inr ⟨x,hx,rfl⟩))
  .rw[xp,xL];exact⟨hno,M.nodup⟩
  .rcases xj.1 hx with rfl|hx
   .exact⟨xH M.size hge,he⟩
   .exact⟨(M.cell x hx).1,(M.cell x hx).2.keep (hB.block _ (M.cell x hx).2.lt)⟩
end
section
variable{X:Ctx}{ρ:Rz}{h:Hp}{w:World}
end
section
variable{P:Program}{G:Tys}{o:Oper}{st:St}
theorem qov{X:Ctx}{ρ:Rz}{st:St}{a:Act}{w:World}{x:Operand}{v:Value}(h:EvTo x st v)(hp:qap v=true)(R:Rel X ρ st a w):a.eval x=v:=by
 rw[<-(h.den R).self,qbc hp]
theorem Br{slot:Nat}{K:Value->Mz->List Nat->Prop}{v:Value}{ms:Mz}{rh:List Nat}(h:OKs P o st v ms rh)(k:K v ms rh):N (OpN P o st slot K):=N.mk ⟨v,ms,rh,h,k⟩
theorem qec{t:TypeId}{x y:Operand}{b f l c sz g:Nat}{a:Int}{k:IntKind}{v:Value}(hG:jfe P G)(ho:o.op=.indexAddr t x y)(hx:EvTo x st v)(hxv:∀ρ,den ρ v=.slice (some ⟨b,f,none⟩) l c)(hy:EvTo y st (.int k a))
  (ht:je4 G t λ_ d=>match d with|.slice e=>je4 G e λei _=>ei.size=sz|_=>False) (h0:0<=a) (hn:a<l) (hg:f+a.toNat*sz=g):OKs P o st (.pointer (some ⟨b,g,none⟩)) [] []:=λst₂ hs _ _=>
 qa0 λX ρ act w R=>by
  subst hg;have hx':act.eval x=.slice (some ⟨b,f,none⟩) l c:=by rw[<-((hs x Q9Y _ hx).den R).self,hxv]
  have hy':=qov (hs y Q9Y _ hy) rfl R;obtain⟨i,d,_,h1,hd⟩:=qao hG ht;split at hd
  .obtain⟨ei,ed,h2,_,rfl⟩:=qao hG hd;refine⟨_,?_,Den.plain rfl⟩;exact Q3Q
  .exact hd.elim
def jph(W:World)(F:List By)(b f:Nat)(v:Value):Prop:=∀p S w,MemOK W F p S w->w.cell? ⟨b,f,none⟩=some v
theorem q0x{W:World}{F:List By}{b f:Nat}{v:Value}(h:W.cell? ⟨b,f,none⟩=some v):jph W F b f v:=λp S w M=>by
 rw[<-h];exact qer (M.old _ (qlz h))
theorem qcw{x:Operand}{ts:Array TypeId}{u:Option Sl}(ho:o.op=.call ⟨.builtin .len,⟨[x]⟩,ts⟩)(hx:EvTo x st (uV u))(ht:∃t,ts = #[t]/\∃e,P.underlying t=some (.slice e)):OKs P o st (xc (uN u:Nat)) [] []:=λst₂ hs2 hh _=>
 qa0 λX ρ a w R=>by
  have hx':a.eval x=uR u:=by rw[<-((hs2 x Qa7 _ hx).den R).self,qd6]
  obtain⟨t,rfl,e,he⟩:=ht;refine⟨xc (uN u:Nat),?_,Den.plain rfl⟩;cases u with
  | none=>
   exact Q4e
  | some s=>
   exact Q4e
end
structure Rw where
 w:Bool
 e:TypeId
 k:Nat
 b:Nat
 o:Nat
 c:Nat
 n:Nat
 xs:List Value
abbrev Rw.sl(r:Rw):Sl:=⟨r.b,r.o,r.n,r.c,none⟩
structure RwAt(w:World)(r:Rw):Prop where
 lt:r.b<w.heap.size
 len:r.xs.length=r.n*r.k
 cap:r.n<=r.c
 cell:∀j,j<r.xs.length->w.cell? ⟨r.b,r.o+j,none⟩=r.xs[j]?
 own:r.w=true->r.o=0/\∃cur z,w.heap[r.b]?=some (.cells cur r.e z)/\(z.1=z.2\/cur.size<=z.1)/\cur.size=r.c*r.k
theorem RwAt.keep{w':World}{r:Rw}(h:RwAt w r)(hb:w'.heap[r.b]?=w.heap[r.b]?):RwAt w' r:=
 ⟨qou h.lt hb,h.len,h.cap,λj hj=>(qer hb).trans (h.cell j hj),λhw=>⟨(h.own hw).1,by rw[hb];exact(h.own hw).2⟩⟩
variable{e:TypeId}{xs:List Value}{z:Nat×Nat}
theorem RwAt.row{k n c:Nat}{cur:Array Value}(hh:w.heap[b]?=some (.cells cur e z))(hz:z.1=z.2\/cur.size<=z.1)(hs:cur.size=c*k)(hx:cur.toList.take (n*k)=xs)(hl:xs.length=n*k)(hn:n<=c):RwAt w ⟨true,e,k,b,0,c,n,xs⟩:=by
 have hc:∀j,w.cell? ⟨b,j,none⟩=cur[j]?:=λj=>by simp[World.cell?,hh]
 refine⟨(xO.1 hh).1,hl,hn,λj hj=>?_,λ_=>⟨rfl,cur,z,hh,hz,hs⟩⟩;have hj:j<xs.length:=hj;show w.cell? ⟨b,0+j,none⟩=xs[j]?;rw[xq,hc,<-hx,yL,if_pos Q9R,zE]
theorem qvc{cur:Array Value}(hh:w.heap[b]?=some (.cells cur e z))(hz:z.1=z.2\/cur.size<=z.1)(j:Nat)(hj:j<cur.size):(w.cell? ⟨b,j,none⟩).isSome=true/\w.frozen? ⟨b,j,none⟩=false:=by
 refine⟨by simp[World.cell?,hh,hj],?_⟩;simp only[World.frozen?,hh,Bool.and_eq_false_iff,xm];omega
theorem qka(b:Nat):∀(vs:List Value)(o:Nat)(w:World)(cur:Array Value)(e:TypeId)(z:Nat×Nat),w.heap[b]?=some (.cells cur e z)->∃cur',(w.setCells b o vs).heap[b]?=some (.cells cur' e z)/\cur'.size=cur.size
 | [],_,_,cur,_,_,h=>⟨cur,h,rfl⟩
 | v::r,o,w,cur,e,z,h=>by
  have h1:(w.setCell ⟨b,o,none⟩ v).heap[b]?=some (.cells (cur.setIfInBounds o v) e z):=by
   have:=setCell_eq_setRow w b o cur e z v h;rw[this];exact setRow_heap w b cur _ e z h
  obtain⟨cur',h2,h3⟩:=qka b r (o+1) _ _ e z h1;exact⟨cur',h2,by rw[h3,Array.size_setIfInBounds]⟩
theorem RwAt.of{k n c:Nat}(h:w.ownsRow 0 e k (.slice (some ⟨b,0,none⟩) n c) n xs):RwAt w ⟨true,e,k,b,0,c,n,xs⟩:=by
 rcases h.2 with ⟨h1,_⟩|⟨g,cap,cur,h1,h2,h3,h4,h5,h6,h7⟩
 .cases h1
 .have e1:b=g/\c=cap:=by injection h1 with h1 h8 h9;injection h1 with h1;injection h1 with h1;exact⟨h1,h9⟩
  obtain⟨rfl,rfl⟩:=e1;exact .row h3 (.inl rfl) h6 h7 h.1 h4
theorem qjc(b:Nat):∀(vs:List Value)(o:Nat)(w:World),(w.setCells b o vs).os=w.os/\(w.setCells b o vs).tape=w.tape/\(w.setCells b o vs).output=w.output/\(w.setCells b o vs).heap.size=w.heap.size/\∀k,k≠b->(w.setCells b o vs).heap[k]?=w.heap[k]?
 | [],_,_=>⟨rfl,rfl,rfl,rfl,λ_ _=>rfl⟩
 | v::r,o,w=>by
  obtain⟨h1,h2,h3,h4,h5⟩:=qjc b r (o+1) (w.setCell ⟨b,o,none⟩ v);refine⟨h1,h2,h3,h4.trans (World.size_setCell ..),λk hk=>(h5 k hk).trans (heap_setCell_other w ⟨b,o,none⟩ k v hk)⟩
class ZW where
 z:Option World
structure RvOK[ZW](R:List Rw)(p:Nat×Nat)(S:Nat->Prop)(w:World):Prop where
 nodup:(R.map Rw.b).Nodup
 at_:∀r∈R,S r.b/\RwAt w r/\∀W,ZW.z=some W->W.heap.size<=r.b
 base:∀W,ZW.z=some W->p.1<W.heap.size/\W.heap.size<=w.heap.size/\∀b,b<W.heap.size->S b/\w.heap[b]?=W.heap[b]?
abbrev rvX[ZW](R:List Rw):Ext where
 inv:=λp S w=>RvOK R p S w
 keep:=λ{p S w w'} h hb=>⟨h.nodup,λr hr=>⟨(h.at_ r hr).1,(h.at_ r hr).2.1.keep (hb _ (h.at_ r hr).1),(h.at_ r hr).2.2⟩,λW hW=>by
  obtain⟨h1,h2,h3⟩:=h.base W hW;refine⟨h1,?_,λb hb'=>⟨(h3 b hb').1,(hb b (h3 b hb').1).trans (h3 b hb').2⟩⟩;have h4:=qou (b:=W.heap.size-1) (w:=w) (w':=w') Q9R (hb _ (h3 (W.heap.size-1) Q9R).1);omega⟩
abbrev rvC[ZW](R:List Rw):Chunk:=@Chunk.mk (rvX R) true 0 []
def rowO:Option Rw->Option Sl
 | none=>none
 | some r=>some r.sl
def rowL:Option Rw->List Rw->List Rw
 | none,R=>R
 | some r,R=>r::R
def rowN:Option Rw->Nat
 | none=>0
 | some r=>r.n
def ji5:Option Rw->List Value
 | none=>[]
 | some r=>r.xs
theorem qvd(o:Option Rw)(R:List Rw):∀r∈R,r∈rowL o R:=λr hr=>by
 cases o with
 | none=>exact hr
 | some q=>exact yE _ hr
theorem qia(r:Rw)(R:List Rw):r∈rowL (some r) R:=zn ..
structure Grew(o o':Option Rw)(e:TypeId)(k m:Nat)(news:List Value):Prop where
 n:rowN o'=rowN o+m
 xs:ji5 o'=ji5 o++news
 ty:∀r,o'=some r->r.e=e/\r.k=k/\r.w=true
 nil:o'=none↔o=none/\m=0
 cap:∀r,o'=some r->r.n<=r.c
def SrcR(w:World)(v:Value)(m k:Nat)(news:List Value):Prop:=
 (v=.slice none 0 0/\m=0/\news=[])\/∃a c,v=.slice (some a) m c/\news.length=m*k/\∀j u,news[j]?=some u->w.cell? (a.add j)=some u
theorem q9i{size n m cap:Nat}{z:Value}{olds news:List Value}(ho:olds.length=n*size)(hn:news.length=m*size)(hz:z.cells.size=size)(hge:n+m<=cap)(hcm:cap<=maxLen):
  (w.drew.alloc (.cells (olds.toArray++news.toArray++Builtin.zeroCells z.cells (cap-(n+m))) e)).ownsRow 0 e size (.slice (some ⟨w.heap.size,0,none⟩) (n+m) cap) (n+m) (olds++news):=by
 have hlen:(olds++news).length=(n+m)*size:=by rw[xv,ho,hn,xy]
 refine⟨hlen,.inr ⟨w.heap.size,_,_,rfl,xi _,heap_alloc_new w.drew _,hge,hcm,?_,?_⟩⟩
 .simp only[Array.size_append,List.size_toArray,size_zeroCells,hz,ho,hn,<-xy];congr 1;omega
 .simp only[Array.toList_append,List.append_assoc];rw[<-List.append_assoc,<-hlen];exact List.take_left
section
variable{P:Program}{G:Tys}{o:Oper}{st:St}
variable{n:Nat}{ps:Pz}{K:Value->Mz->Prop}
theorem q4i[ZW]{x y:Operand}{t e:TypeId}{ei:TypeInfo}{z p:Value}{i:Nat}{own:Bool}(oe:Option Rw)(R:List Rw)(m:Nat)(news:List Value)
  (ho:o.op=.call ⟨.builtin .append,#[x,y],#[t,t]⟩) (hx:EvTo x st p) (hp:∀ρ,den ρ p=uR (rowO oe))
  (h1:P.underlying t=some (.slice e)) (h2:P.info? e=some ei) (hz:ei.zero=some z) (hzs:z.cells.size=ei.size) (hs0:0<ei.size)
  (hi:st.h[i]?=some (some (@Chunk.mk (rvX (rowL oe R)) own n ps))) (hoe:∀r,oe=some r->r.e=e/\r.k=ei.size/\r.w=true)
  (hsrc:∀X ρ a w,Rel X ρ st a w->SrcR w (a.eval y) m ei.size news) (hone:∀u∈news,u.oneCell'=true)
  (h63:rowN oe+m<=35184372088831) (hb:(rowN oe+m)*ei.bytes<=140737488355328)
  (hK:∀oe',Grew oe oe' e ei.size m news->K (uV (rowO oe')) [(i,@Chunk.mk (rvX (rowL oe' R)) own n ps)]):EffAll P o st K:=λX ρ a w Rl next Q hn=>by
 have hx':a.eval x=uR (rowO oe):=by rw[<-(hx.den Rl).self,hp]
 obtain⟨S,E⟩:=Rl.heap.ext
 have V:RvOK (rowL oe R) (ρ i) (S i) w:=E.inv i _ hi
 have hpi:=Rl.heap.lt i _ hi
 have fin:∀oe' w',(Builtin.append_ #[t,t] o.type #[a.eval x,a.eval y]).run P w=.ok (uR (rowO oe')) w'->HOK X ρ (st.h.set i (some (@Chunk.mk (rvX (rowL oe' R)) own n ps))) w'->Grew oe oe' e ei.size m news->o.wp P a w next Q:=λoe' w' hr H' hg=>by
  have hrun2:=qcy (P:=P) (o:=o) (x:=x) (y:=y) (t:=t) (a:=a) ho hr;unfold Oper.wp;rw[hrun2];exact hn _ _ ρ _ _ (hK oe' hg) ⟨AgreeOn.refl _ _,H',λr _=>qd6 _ r⟩
 have hcm:∀q old,q<=35184372088831->grownCap w q old e<=maxLen:=λq old hq=>grownCap_le_maxLen w q old e (by simp only[maxLen];omega)
 have turn:∀oe' w',RvOK (rowL oe' R) (ρ i) (λb=>S i b\/∃r',oe'=some r'/\b=r'.b) w'->w'.os=w.os->w'.tape=w.tape->w'.output=w.output->w.heap.size<=w'.heap.size->(∀b,b<w.heap.size->¬ S i b->w'.heap[b]?=w.heap[b]?)->(∀r',oe'=some r'->S i r'.b\/w.heap.size<=r'.b)->
   HOK X ρ (st.h.set i (some (@Chunk.mk (rvX (rowL oe' R)) own n ps))) w':=λoe' w' hv e1 e2 e3 e4 e5 e6=>by
  refine Rl.heap.turnX E hi (d:=@Chunk.mk (rvX (rowL oe' R)) own n ps) (S':=λb=>S i b\/∃r',oe'=some r'/\b=r'.b) id (nlr _) (λj hj=>rfl) e1 e2 e3 e4 e5 (λb hb=>?_) hv
  rcases hb with hb|⟨r',hr',rfl⟩
  .obtain⟨m1,m2,m3⟩:=E.mine i _ b hi hb;exact⟨xl m2 e4,m1,.inl hb⟩
  .have hlt:r'.b<w'.heap.size:=by
    subst hr';exact((hv.at_ r' (qia r' R)).2.1).lt
   rcases e6 r' hr' with h|h
   .exact⟨hlt,(E.mine i _ _ hi h).1,.inl h⟩
   .exact⟨hlt,.inr Q9R,.inr h⟩
 by_cases hm0:m=0
 .subst hm0;have hnews:news=[]:=by
   rcases hsrc X ρ a w Rl with ⟨_,_,h⟩|⟨_,_,_,h,_⟩
   .exact h
   .exact ze.1 QaT
  subst hnews;have hset:st.h.set i (some (@Chunk.mk (rvX (rowL oe R)) own n ps))=st.h:=by
   refine yp λj=>?_
   by_cases e:i=j
   .subst e;rw[xw (xe.1 hi).1,hi]
   .rw[xu e]
  have same:(Builtin.append_ #[t,t] o.type #[uR (rowO oe),a.eval y]).run P w=.ok (uR (rowO oe)) w:=by
   have hf0:=λad c=>run_firstCells_some (P:=P) w ei.size 0 ad 0 c [] Qa2 Qa2
   rcases hsrc X ρ a w Rl with ⟨hv,_,_⟩|⟨ad,c,hv,_,_⟩
   .rw[hv];cases oe with
    | none=>simp[rowO,uR,Builtin.append_,run_underlying h1,sizeOf,typeInfo,h2,Builtin.lenOf,run_firstCells_none]
    | some r=>
     have hc:=((V.at_ r (qia r R)).2.1).cap;simp[rowO,uR,Builtin.append_,run_underlying h1,sizeOf,typeInfo,h2,Builtin.lenOf,hc,run_firstCells_none,storeCells]
   .rw[hv];cases oe with
    | none=>
     simp[rowO,uR,Builtin.append_,run_underlying h1,sizeOf,typeInfo,h2,Builtin.lenOf,hf0,storeCells]
    | some r=>
     have hc:=((V.at_ r (qia r R)).2.1).cap;simp[rowO,uR,Builtin.append_,run_underlying h1,sizeOf,typeInfo,h2,Builtin.lenOf,hc,hf0,storeCells]
  refine fin oe w (by rw[hx'];exact same) (by rw[hset];exact Rl.heap) ⟨rfl,by simp,hoe,by simp,λr hr=>by subst hr;exact((V.at_ r (qia r R)).2.1).cap⟩
 obtain⟨ad,c,hv,hnl,hnc⟩:∃ad c,a.eval y=.slice (some ad) m c/\news.length=m*ei.size/\∀j u,news[j]?=some u->w.cell? (ad.add j)=some u:=by
  rcases hsrc X ρ a w Rl with ⟨_,h,_⟩|h
  .exact absurd h hm0
  .exact h
 have fresh:∀(olds:List Value)(q old:Nat),oe=none/\q=0/\olds=[]\/(∃r,oe=some r/\q=r.n/\olds=r.xs)->old<q+m->
   (Builtin.append_ #[t,t] o.type #[uR (rowO oe),a.eval y]).run P w=.ok (.slice (some ⟨w.heap.size,0,none⟩) (q+m) (grownCap w (q+m) old e)) (w.drew.alloc (.cells (olds.toArray++news.toArray++Builtin.zeroCells z.cells (grownCap w (q+m) old e-(q+m))) e))->olds.length=q*ei.size->q=rowN oe->o.wp P a w next Q:=λolds q old hq hold hr hol hqn=>by
  have hge:=grownCap_ge w (q+m) old e
  have hcap:=hcm (q+m) old Q9R
  have hrow:=q9i (w:=w) (e:=e) hol hnl hzs hge hcap
  generalize hcc:grownCap w (q+m) old e=cap at hr hge hcap hrow
  have hB:Below w.heap.size w (w.drew.alloc (.cells (olds.toArray++news.toArray++Builtin.zeroCells z.cells (cap-(q+m))) e)):=((Below.refl _ _).drew).alloc (nlr _) _
  have hxs:ji5 oe=olds:=by rcases hq with ⟨rfl,_,rfl⟩|⟨r,rfl,_,rfl⟩<;>rfl
  refine fin (some ⟨true,e,ei.size,w.heap.size,0,cap,q+m,olds++news⟩) _ (by rw[hx',hr];rfl) (turn _ _ ?_ hB.os hB.tape hB.output hB.size (λb hb _=>hB.block b hb) λr' hr'=>by obtain rfl:=Option.some.inj hr';exact .inr (nlr _)) ⟨by rw[<-hqn];rfl,by rw[hxs];rfl,λr hr=>by obtain rfl:=Option.some.inj hr;exact⟨rfl,rfl,rfl⟩,⟨(λh=>by cases h),λh=>absurd h.2 hm0⟩,λr hr=>by obtain rfl:=Option.some.inj hr;exact hge⟩
  have hR:∀r∈R,S i r.b/\RwAt w r/\∀W,ZW.z=some W->W.heap.size<=r.b:=λr hr=>V.at_ r (qvd oe R r hr)
  have hnd:(R.map Rw.b).Nodup:=by
   cases oe with
   | none=>exact V.nodup
   | some r=>have:=V.nodup;rw[show rowL (some r) R=r::R from rfl,xp,xL] at this;exact this.2
  refine⟨?_,λr hr=>?_,λW hW=>?_⟩
  rotate_left 2
  .exact Q3Y
  .rw[show ∀r,rowL (some r) R=r::R from λ_=>rfl,xp,xL];refine⟨λhm=>?_,hnd⟩;obtain⟨r,hr,e'⟩:=xx.1 hm;have:=(hR r hr).2.1.lt;have e':r.b=w.heap.size:=e';omega
  .rcases xj.1 hr with rfl|hr
   .exact⟨.inr ⟨_,rfl,rfl⟩,.of hrow,λW hW=>(V.base W hW).2.1⟩
   .exact⟨.inl (hR r hr).1,(hR r hr).2.1.keep (hB.block _ (hR r hr).2.1.lt),(hR r hr).2.2⟩
 cases oe with
 | none=>
  have hr:=run_append_nil (P:=P) w t o.type e ei z h1 h2 hz ad m c news hnl hnc Q9R (by simp only[rowN] at h63;omega) (by simp only[rowN,xq] at hb;omega);refine fresh [] 0 0 (.inl ⟨rfl,rfl,rfl⟩) Q9R ?_ Qa2 rfl;rw[hv];simpa[rowO,uR] using hr
 | some r=>
  obtain⟨q1,q2,q3⟩:=hoe r rfl;have A:=(V.at_ r (qia r R)).2.1;obtain⟨q4,hat⟩:=A.own q3;have hu:uR (rowO (some r))=.slice (some ⟨r.b,0,none⟩) r.n r.c:=by show Value.slice (some ⟨r.b,r.o,none⟩) r.n r.c=_;rw[q4]
  have hS:=(V.at_ r (qia r R)).1;have hxl:r.xs.length=r.n*ei.size:=by rw[A.len,q2]
  have hcel:∀j,j<r.xs.length->w.cell? ⟨r.b,j,none⟩=r.xs[j]?:=λj hj=>by have:=A.cell j hj;rw[q4,xq] at this;exact this
  obtain⟨cur,z0,hh,hz0,hcs⟩:=hat;rw[q2] at hcs;have hat:=qvc hh hz0;by_cases hroom:r.n+m<=r.c
  .have hin:∀j,j<news.length->r.n*ei.size+j<cur.size:=λj hj=>by
    have h3:(r.n+m)*ei.size<=r.c*ei.size:=yb _ hroom;rw[xy] at h3;omega
   have hst:=run_storeCells_cells (P:=P) r.b (r.n*ei.size) news 0 w (λj hj=>(hat _ (by have:=hin j hj;omega)).1) (λj hj=>(hat _ (by have:=hin j hj;omega)).2) hone;rw[x7] at hst;obtain⟨z1,z2,z3,z4,z5⟩:=qjc r.b news (r.n*ei.size) w;have zf:=λx=>World.frozen?_setCells r.b news (r.n*ei.size) w x
   have zi:=World.cell?_setCells_in r.b news (r.n*ei.size) w (λj hj=>(hat _ (hin j hj)).1);have zo:∀j,j<r.n*ei.size\/r.n*ei.size+news.length<=j->(w.setCells r.b (r.n*ei.size) news).cell? ⟨r.b,j,none⟩=w.cell? ⟨r.b,j,none⟩:=λj hj=>World.cell?_setCells_out r.b news (r.n*ei.size) w ⟨r.b,j,none⟩ λ_ _=>hj
   have hr:(Builtin.append_ #[t,t] o.type #[.slice (some ⟨r.b,0,none⟩) r.n r.c,.slice (some ad) m c]).run P w=.ok (.slice (some ⟨r.b,0,none⟩) (r.n+m) r.c) (w.setCells r.b (r.n*ei.size) news):=by
    have hf:=run_firstCells_some (P:=P) w ei.size m ad m c news hnl hnc;simp[Builtin.append_,run_underlying h1,sizeOf,typeInfo,h2,Builtin.lenOf,hroom,hf,Addr.add_lit,hst]
   generalize hw':w.setCells r.b (r.n*ei.size) news=w' at *;have hrow:RwAt w' ⟨true,e,ei.size,r.b,0,r.c,r.n+m,r.xs++news⟩:=by
    refine⟨by rw[z4];exact A.lt,by show(r.xs++news).length=(r.n+m)*ei.size;rw[xv,hxl,hnl,xy],hroom,λj hj=>?_,λ_=>⟨rfl,?_⟩⟩
    .have hj:j<(r.xs++news).length:=hj;show w'.cell? ⟨r.b,0+j,none⟩=(r.xs++news)[j]?;rw[xq];by_cases hlt:j<r.xs.length
     .rw[zo j (.inl Q9R),hcel j hlt,yH hlt]
     .rw[xv] at hj;have hk:j-r.n*ei.size<news.length:=by omega
      have:=zi (j-r.n*ei.size) hk;rw[show r.n*ei.size+(j-r.n*ei.size)=j by omega] at this;rw[this,zd Q9R,hxl,xt hk]
    .obtain⟨cur',g1,g2⟩:=qka r.b news (r.n*ei.size) w cur r.e z0 hh;rw[hw'] at g1;show ∃cur z,w'.heap[r.b]?=some (.cells cur e z)/\(z.1=z.2\/cur.size<=z.1)/\cur.size=r.c*ei.size;rw[q1] at g1;exact⟨cur',z0,g1,by rw[g2];exact hz0,by rw[g2];exact hcs⟩
   refine fin (some ⟨true,e,ei.size,r.b,0,r.c,r.n+m,r.xs++news⟩) w' (by rw[hx',hv,hu];exact hr) (turn _ _ ?_ z1 z2 z3 (yD z4.symm) (λb hb hnS=>z5 b λe'=>hnS (e'▸hS)) λr' hr'=>by obtain rfl:=Option.some.inj hr';exact .inl hS) ⟨rfl,rfl,λr' hr'=>by obtain rfl:=Option.some.inj hr';exact⟨rfl,rfl,rfl⟩,⟨(λh=>by cases h),λh=>absurd h.2 hm0⟩,λr' hr'=>by obtain rfl:=Option.some.inj hr';exact hroom⟩;have hnd:r.b∉R.map Rw.b/\(R.map Rw.b).Nodup:=by have:=V.nodup;rw[show rowL (some r) R=r::R from rfl,xp,xL] at this;exact this
   have hrb:=(V.at_ r (qia r R)).2.2;refine⟨?_,λr' hr'=>?_,λW hW=>?_⟩;rotate_left 2
   .obtain⟨b1,b2,b3⟩:=V.base W hW;have:=hrb W hW;exact⟨b1,by omega,λb hb=>⟨.inl (b3 b hb).1,(z5 b λe'=>by omega).trans (b3 b hb).2⟩⟩
   .rw[show ∀r,rowL (some r) R=r::R from λ_=>rfl,xp,xL];exact hnd
   .rcases xj.1 hr' with rfl|hr'
    .exact⟨.inl hS,hrow,hrb⟩
    .obtain⟨g1,g2,g3⟩:=V.at_ r' (qvd _ _ _ hr');exact⟨.inl g1,g2.keep (z5 _ λe'=>hnd.1 (xx.2 ⟨r',hr',e'⟩)),g3⟩
  .have holds:∀j u,r.xs[j]?=some u->w.cell? ((⟨r.b,0,none⟩:Addr).add j)=some u:=λj u hju=>by
    rw[qdn,xq,hcel j (xe.1 hju).1];exact hju
   have hr:=run_append_grow (P:=P) w t o.type e ei z h1 h2 hz ⟨r.b,0,none⟩ r.n r.c r.xs hxl holds ad m c news hnl hnc Q9R (by simp only[rowN] at h63;omega) (growslice_fits Q9R hb);refine fresh r.xs r.n r.c (.inr ⟨r,rfl,rfl,rfl⟩) Q9R ?_ hxl rfl;rw[hv,hu];exact hr
def jnk(y:Operand)(st:St)(hs:List Nat)(m k:Nat)(news:List Value):Prop:=
 ∀st₂:St,(∀u,EvTo y st u->EvTo y st₂ u)->(∀i∈hs,st₂.h[i]?=st.h[i]?)->∀X ρ a w,Rel X ρ st₂ a w->SrcR w (a.eval y) m k news
theorem q0y[ZW]{x y:Operand}{t e:TypeId}{ei:TypeInfo}{z p:Value}{own:Bool}(oe:Option Rw)(R:List Rw)(i m:Nat)(news:List Value)
  (ho:o.op=.call ⟨.builtin .append,#[x,y],#[t,t]⟩) (hx:EvTo x st p) (hp:∀ρ,den ρ p=uR (rowO oe))
  (h1:P.underlying t=some (.slice e)) (h2:P.info? e=some ei) (hz:ei.zero=some z) (hzs:z.cells.size=ei.size) (hs0:0<ei.size)
  (hi:st.h[i]?=some (some (@Chunk.mk (rvX (rowL oe R)) own n ps))) (hoe:∀r,oe=some r->r.e=e/\r.k=ei.size/\r.w=true) (hs:List Nat) (hsrc:jnk y st hs m ei.size news) (hone:∀u∈news,u.oneCell'=true)
  (h63:rowN oe+m<=35184372088831) (hb:(rowN oe+m)*ei.bytes<=140737488355328)
  (hK:∀oe',Grew oe oe' e ei.size m news->K (uV (rowO oe')) [(i,@Chunk.mk (rvX (rowL oe' R)) own n ps)]):N (EffAll P o st K):=
 N.mk (q4i oe R m news ho hx hp h1 h2 hz hzs hs0 hi hoe (hsrc st (λ_ h=>h) λ_ _=>rfl) hone h63 hb hK)
theorem ql0{y:Operand}{j g u m q k:Nat}{cj:Chunk}{cs:List Value}(hs:List Nat)(hjs:j∈hs)(hy:EvTo y st (.slice (some ⟨j,g,some u⟩) m q))(hj:st.h[j]?=some (some cj))(hr:Reads cj g true (m*k) (.agg ⟨cs⟩))(hp:cs.all qbh=true):
  jnk y st hs m k cs:=λst₂ ha hh X ρ a w Rl=>by
 have hj:=(hh j hjs).trans hj
 have hy:=ha _ hy
 have hy':a.eval y=.slice (some ⟨(ρ j).1,(ρ j).2+g,none⟩) m q:=(hy.den Rl).self.symm
 obtain⟨cs',e,hcl,hcc,hcd⟩:=qh3 Rl.heap hj hr
 obtain rfl:cs=cs':=by simpa using e
 refine .inr ⟨_,q,hy',hcl,λl v hv=>hcc l v ?_⟩
 have hl:=(xe.1 hv).1
 rw[xW,hv]
 have:qbh v=true:=xX.1 hp v (xF hv)
 show some (den1 ρ v)=some v
 rw[qbo this]
theorem qve[ZW]{t:TypeId}{x:Operand}{f i:Nat}{own:Bool}{R:List Rw}(r:Rw){v:Value}(p:Nat)(hG:jfe P G)(ho:o.op=.load t x)(hx:EvTo x st (.pointer (some ⟨r.b,f,none⟩)))(hf:f=r.o+p)(hi:st.h[i]?=some (some (@Chunk.mk (rvX R) own n ps)))(hr:r∈R)
  (ht:je4 G t λ_ d=>qd1 d=false) (hp:qbh v=true) (hk:r.xs[p]?=some v):OKs P o st v [] [i]:=λst₂ hs hh _=>
 qa0 λX ρ a w R'=>by
  have hi2:=(hh i Qa2).trans hi;have hx':=qov (hs x Q9Y _ hx) rfl R';obtain⟨ti,d,_,h2,hd⟩:=qao hG ht;obtain⟨S,E⟩:=R'.heap.ext;have V:RvOK R (ρ i) (S i) w:=E.inv i _ hi2;have hy:=((V.at_ r hr).2.1.cell p (xe.1 hk).1).trans hk;rw[<-hf] at hy;exact Q4F
theorem q0z{t e:TypeId}{x:Operand}{lo hi:Option Operand}{vl vh:Option Value}{b f l c p q:Nat}{ei:TypeInfo}(ho:o.op=.slice t x lo hi none)(hx:EvTo x st (uV (some ⟨b,f,l,c,none⟩)))(hl:OptTo st lo vl)(hh:OptTo st hi vh)(h1:P.underlying t=some (.slice e))(h2:P.info? e=some ei)
  (hq:Bnd vh l c q) (hp:Bnd vl 0 q p):OKs P o st (uV (some ⟨b,f+(if c=p then 0 else p*ei.size),q-p,c-p,none⟩)) [] []:=λst₂ hs _ _=>
 qa0 λX ρ a w R=>by
  have hx':a.eval x=.slice (some ⟨b,f,none⟩) l c:=by rw[<-((hs x Q9Y _ hx).den R).self,qd6];rfl
  have e1:=qgf R hl (λy hy=>hs y Qad);have e2:=qgf R hh (λy hy=>hs y Qad);refine⟨uR (some ⟨b,f+(if c=p then 0 else p*ei.size),q-p,c-p,none⟩),?_,λr _=>qd6 _ r⟩;refine Q44 ?_;by_cases hc:c=p<;>simp[hc,uR]
end
open Go Go.RowKit
theorem qrh:∀{l:List Rw},(l.map Rw.b).Nodup->∀{q r:Rw},q∈l->r∈l->q.b=r.b->q=r
 | [],_,q,r,hq,_,_=>by cases hq
 | x::l,h,q,r,hq,hr,e=>by
  rw[xp,xL] at h;rcases xj.1 hq with hq2|hq2<;>rcases xj.1 hr with hr2|hr2
  .rw[hq2,hr2]
  .exact absurd (xx.2 ⟨r,hr2,by rw[<-e,hq2]⟩) h.1
  .exact absurd (xx.2 ⟨q,hq2,by rw[e,hr2]⟩) h.1
  .exact qrh h.2 hq2 hr2 e
variable{ρ:Rz}{ps:Pz}
theorem jdh[ZW]{X:Ctx}{h:Hp}{w':World}{i:Nat}{R:List Rw}{r:Rw}{own:Bool}{n:Nat}(H:HOK X ρ h w)(hi:h[i]?=some (some (@Chunk.mk (rvX R) own n ps)))(hB:Below w.heap.size w w')(he:RwAt w' r)(hge:w.heap.size<=r.b):HOK X ρ (h.set i (some (@Chunk.mk (rvX (r::R)) own n ps))) w':=by
 obtain⟨S,E⟩:=H.ext;have V:RvOK R (ρ i) (S i) w:=E.inv i _ hi;have hpi:=H.lt i _ hi;refine H.turnX E hi (d:=@Chunk.mk (rvX (r::R)) own n ps) (S':=λb=>S i b\/b=r.b) id (nlr _) (λj hj=>rfl) hB.os hB.tape hB.output hB.size (λb hb _=>hB.block b hb) (λb hb=>?_) ?_
 .rcases hb with hb|rfl
  .obtain⟨m1,m2,m3⟩:=E.mine i _ b hi hb;exact⟨xl m2 hB.size,m1,.inl hb⟩
  .exact⟨he.lt,.inr Q9R,.inr hge⟩
 .refine⟨?_,λq hq=>?_,λW hW=>?_⟩
  .rw[xp,xL];refine⟨λhm=>?_,V.nodup⟩;obtain⟨q,hq,e'⟩:=xx.1 hm;have:=(V.at_ q hq).2.1.lt;omega
  .rcases xj.1 hq with rfl|hq
   .exact⟨.inr rfl,he,λW hW=>xH (V.base W hW).2.1 hge⟩
   .exact⟨.inl (V.at_ q hq).1,(V.at_ q hq).2.1.keep (hB.block _ (V.at_ q hq).2.1.lt),(V.at_ q hq).2.2⟩
  .exact Q3Y
section
variable{P:Program}{G:Tys}{o:Oper}{st:St}
variable{R:List Rw}{ps:Pz}
theorem qwr[ZW]{t e:TypeId}{m i:Nat}{pp:Array (Nat×Operand)}{vs:Vz}{ei:TypeInfo}{z:Value}{out:List Value}{own:Bool}{n:Nat}{K:Value->Mz->Prop}
  (ho:o.op=.buildSlice t m pp) (hx:qfd st pp.toList vs) (h2:P.underlying t=some (.slice e)) (h3:P.info? e=some ei) (hz:ei.zero=some z) (hp:qap z=true) (hfz:flatB z ei.size=true) (hs0:0<ei.size) (hn:m*ei.size<=16777216)
  (hout:jgi (λi=>some (i*ei.size,ei.size)) (segL (m*ei.size) (jf0 ei.size z)) vs=some out) (hlen:out.length=m*ei.size) (hpl:out.all qbh=true) (hm0:0<m*ei.size)
  (hi:st.h[i]?=some (some (@Chunk.mk (rvX R) own n ps)))
  (hK:∀b,K (uV (some ⟨b,0,m,m,none⟩)) [(i,@Chunk.mk (rvX (⟨true,e,ei.size,b,0,m,m,out⟩::R)) own n ps)]):EffAll P o st K:=λX ρ a w Rl next Q hk=>by
 obtain⟨e1,e2⟩:=qge Rl _ _ hx (λp hp=>λu hu=>hu)
 have hzv:(zeroValue e).run P w=.ok z w:=by simp[zeroValue,typeInfo,Sem.run_bind,run_program,Result.andThen_ok,h3,hz]
 have hcells:((Array.range (m*ei.size)).map (z.cells[· % z.cells.size]!))=⟨(segL (m*ei.size) (jf0 ei.size z)).map (den1 ρ)⟩:=Q4m
 have hr:=qel (ρ:=ρ) vs _ _ hout
 rw[<-e1] at hr
 have hmap:out.map (den1 ρ)=out:=(yo λv hv=>qbo (xX.1 hpl v hv) ρ).trans (List.map_id _)
 have hf:Instr.fill (λi=>some (i*ei.size,ei.size)) ⟨(segL (m*ei.size) (jf0 ei.size z)).map (den1 ρ)⟩ ((pp.map fun(p:Nat×Operand)=>(p.1,a.eval p.2)).toList)=some ⟨out⟩:=by
  rw[xA,<-hmap];exact hr
 have hrun:(execOp a.eval o).run P w=.ok (.value (.slice (some ⟨w.heap.size,0,none⟩) m m)) (w.alloc (.cells ⟨out⟩ e)):=by
  have g1:¬ m*ei.size > 2^24:=by omega
  have g2:¬ m*ei.size=0:=by omega
  exact Q3U
 have hB:Below w.heap.size w (w.alloc (.cells ⟨out⟩ e)):=(Below.refl _ _).alloc (nlr _) _
 have hrow:RwAt (w.alloc (.cells ⟨out⟩ e)) ⟨true,e,ei.size,w.heap.size,0,m,m,out⟩:=.row (heap_alloc_new w _) (.inl rfl) (by show out.length=m*ei.size;exact hlen) (by show out.take (m*ei.size)=out;rw[<-hlen];exact List.take_length) hlen (nlr _)
 have H':=jdh Rl.heap hi hB hrow (nlr _)
 unfold Oper.wp
 rw[hrun]
 exact hk _ _ ρ _ _ (hK w.heap.size) ⟨AgreeOn.refl _ _,H',λr _=>qd6 _ r⟩
theorem q9j[ZW]{s e:TypeId}{x:Operand}{i:Nat}{own:Bool}{n:Nat}(r:Rw)(ho:o.op=.convert s s x)(hx:EvTo x st (uV (some r.sl)))(h1:P.underlying s=some (.slice e))(h2:P.underlying e=some (.int .u8))(hw:r.w=true)(hr:r∈R)(hi:st.h[i]?=some (some (@Chunk.mk (rvX R) own n ps))):OKs P o st (uV (some r.sl)) [(i,@Chunk.mk (rvX R) own n ps)] []:=λst₂ hs _ hh=>
 qcr λX ρ a w Rl=>by
  have hi:=(hh _ Q8a).trans hi;have hx':a.eval x=uR (some r.sl):=by rw[<-((hs x Q9Y _ hx).den Rl).self,qd6]
  obtain⟨S,E⟩:=Rl.heap.ext;have V:RvOK R (ρ i) (S i) w:=E.inv i _ hi;obtain⟨hSb,A,hZ⟩:=V.at_ r hr;obtain⟨q4,cur,z,hhb,hz,hcs⟩:=A.own hw;have hsh:w.shape? r.b=some (r.e,cur.size):=by unfold World.shape?;rw[hhb]
  let z':Nat×Nat:=if z.1==z.2 then (cur.size,cur.size+1) else (min z.1 cur.size,max z.2 (cur.size+1));have hb':(w.freeze ⟨r.b,cur.size,none⟩ 1).heap[r.b]?=some (.cells cur r.e z'):=by
   unfold World.freeze;rw[if_neg Q9V];simp only[zz,if_pos,hhb,yC];rfl
  have hoth:∀k,k≠r.b->(w.freeze ⟨r.b,cur.size,none⟩ 1).heap[k]?=w.heap[k]?:=λk hk=>by
   unfold World.freeze;rw[if_neg Q9V];simp only[zz,if_neg (Ne.symm hk)]
  have hsz:(w.freeze ⟨r.b,cur.size,none⟩ 1).heap.size=w.heap.size:=by
   unfold World.freeze;rw[if_neg Q9V];simp
  have hz':z'.1=z'.2\/cur.size<=z'.1:=by
   show(if z.1==z.2 then (cur.size,cur.size+1) else (min z.1 cur.size,max z.2 (cur.size+1))).1=(if z.1==z.2 then (cur.size,cur.size+1) else (min z.1 cur.size,max z.2 (cur.size+1))).2\/cur.size<=(if z.1==z.2 then (cur.size,cur.size+1) else (min z.1 cur.size,max z.2 (cur.size+1))).1;by_cases e:z.1=z.2
   .rw[if_pos (yv.2 e)];exact .inr (nlr _)
   .rw[if_neg (by rw[yv];exact e)];rcases hz with hz|hz
    .exact absurd hz e
    .exact .inr (by show cur.size<=min z.1 cur.size;omega)
  have hrow:RwAt (w.freeze ⟨r.b,cur.size,none⟩ 1) r:=by
   refine⟨by rw[hsz];exact A.lt,A.len,A.cap,λj hj=>?_,λ_=>⟨q4,cur,z',hb',hz',hcs⟩⟩;rw[<-A.cell j hj];simp only[World.cell?,hb',hhb]
  refine⟨ρ,uR (some r.sl),w.freeze ⟨r.b,cur.size,none⟩ 1,?_,AgreeOn.refl _ _,?_,λr' _=>qd6 _ r'⟩
  .have hrun:(markStringish ⟨r.b,r.o,none⟩).run P w=.ok () (w.freeze ⟨r.b,cur.size,none⟩ 1):=by
    simp only[markStringish,Sem.run_bind,run_shape,Result.andThen_ok,hsh,run_freeze]
   simp only[execOp,ho,hx',convert,underlying,Sem.run_bind,run_program,Result.andThen_ok,h1,h2,Sem.run_pure,uR,beq_self_eq_true,hrun]
  .refine Rl.heap.turnX E hi (d:=@Chunk.mk (rvX R) own n ps) (S':=S i) id (nlr _) (λj hj=>rfl) ?_ ?_ ?_ (yD hsz.symm) (λb _ hnS=>hoth b λe'=>hnS (e'▸hSb)) (λb hb=>?_) ?_
   .exact Q5G
   .exact Q5G
   .exact Q5G
   .obtain⟨m1,m2,m3⟩:=E.mine i _ b hi hb;exact⟨by rw[hsz];exact m2,m1,.inl hb⟩
   .refine⟨V.nodup,λq hq=>⟨(V.at_ q hq).1,?_,(V.at_ q hq).2.2⟩,λW hW=>?_⟩
    .by_cases e:q.b=r.b
     .rw[qrh V.nodup hq hr e];exact hrow
     .exact(V.at_ q hq).2.1.keep (hoth _ e)
    .obtain⟨b1,b2,b3⟩:=V.base W hW;have:=hZ W hW;exact⟨b1,by omega,λb hb=>⟨(b3 b hb).1,(hoth b λe'=>by omega).trans (b3 b hb).2⟩⟩
end
theorem HOK.soft{X:Ctx}{h:Hp}{i n:Nat}{o:Bool}{x y:Ext}(H:HOK X ρ h w)(hi:h[i]?=some (some (@Chunk.mk x o n ps)))(hxy:∀p S w,x.inv p S w->y.inv p S w):HOK X ρ (h.set i (some (@Chunk.mk y o n ps))) w:=by
 have hil:=(xe.1 hi).1;obtain⟨S,E⟩:=H.ext;have back:∀(j:Nat)(d:Chunk),(h.set i (some (@Chunk.mk y o n ps)))[j]?=some (some d)->∃d0:Chunk,h[j]?=some (some d0)/\d.own=d0.own/\d.n=d0.n/\(∀l,d.f l=d0.f l)/\(∀p S w,d0.x.inv p S w->d.x.inv p S w):=λj d hj=>by
  by_cases e:i=j
  .subst e;rw[xw hil] at hj;obtain rfl:=Option.some.inj (Option.some.inj hj);exact⟨_,hi,rfl,rfl,λ_=>rfl,hxy⟩
  .rw[xu e] at hj;exact⟨d,hj,rfl,rfl,λ_=>rfl,λ_ _ _ h=>h⟩
 have fil:∀j,Fil h j->Fil (h.set i (some (@Chunk.mk y o n ps))) j:=λj hj=>hj.set
 refine⟨H.evo,λj hj=>⟨fil j (H.base j hj).1,(H.base j hj).2⟩,λj d hj=>?_,λj d hj l hl=>?_,λj d hj ho l hl=>?_,λj d l e hj ho hl hne=>?_,S,λj d hj=>?_,λj d b hj hb=>?_,λj d b l e hj hb hl hne=>?_⟩
 .obtain⟨d0,h0,_⟩:=back j d hj;exact H.lt _ _ h0
 .obtain⟨d0,h0,_,hn,hf,_⟩:=back j d hj;obtain⟨v,hv,hd⟩:=H.cell j d0 h0 l Q9R;exact⟨v,hv,by rw[hf];exact hd.more (AgreeOn.refl _ _) fil⟩
 .obtain⟨d0,h0,h1,hn,_⟩:=back j d hj;exact H.own j d0 h0 (h1▸ho) l Q9R
 .obtain⟨d0,h0,h1,_⟩:=back j d hj;obtain⟨e0,g0,_⟩:=back l e hl;exact H.sep _ _ _ _ h0 (h1▸ho) g0 hne
 .obtain⟨d0,h0,_,_,_,hx⟩:=back j d hj;exact hx _ _ _ (E.inv j d0 h0)
 .obtain⟨d0,h0,_,hn,_⟩:=back j d hj;rw[hn];exact E.mine j d0 b h0 hb
 .obtain⟨d0,h0,_⟩:=back j d hj;obtain⟨e0,g0,_⟩:=back l e hl;exact E.apart j d0 b l e0 h0 hb g0 hne
theorem q9k[ZW]{R R2:List Rw}(hs:List.Sublist R R2):∀p S w,(rvX R2).inv p S w->(rvX R).inv p S w:=λp S w V=>by
 have V:RvOK R2 p S w:=V;exact⟨(hs.map _).nodup V.nodup,λr hr=>V.at_ r (hs.subset hr),V.base⟩
theorem CallAll.soft{P:Program}{g:FuncId}{vs:List Value}{h:Hp}{R R':Value->Mz->Prop}(k:CallAll P g vs h R)(hR:∀v ms,R v ms->∃(i:Nat)(x y:Ext)(o:Bool)(n:Nat)(ps:Pz)(ms':Mz),(modH h ms)[i]?=some (some (@Chunk.mk x o n ps))/\(∀p S w,x.inv p S w->y.inv p S w)/\(modH h ms).set i (some (@Chunk.mk y o n ps))=modH h ms'/\R' v ms'):CallAll P g vs h R':=by
 intro X ρ w xs H hx;have go:∀x w',(∃v ms ρ',R v ms/\AgreeOn (Fil h) ρ ρ'/\HOK X ρ' (modH h ms) w'/\Den (Fil (modH h ms)) ρ' v x)->∃v ms ρ',R' v ms/\AgreeOn (Fil h) ρ ρ'/\HOK X ρ' (modH h ms) w'/\Den (Fil (modH h ms)) ρ' v x:=λx w' ⟨v,ms,ρ',hq,ha,hH,hd⟩=>by
  obtain⟨i,ex,ey,o,n,ps,ms',h1,h2,h3,h4⟩:=hR v ms hq;have hH':=hH.soft h1 h2;rw[h3] at hH';exact⟨v,ms',ρ',h4,ha,hH',hd.more (AgreeOn.refl _ _) λj hj=>by rw[<-h3];exact hj.set⟩
 rcases k X ρ w xs H hx with ⟨v,w',hr,hq⟩|⟨hr,hcl⟩
 .exact .inl ⟨v,w',hr,go _ _ hq⟩
 .exact .inr ⟨hr,hcl.mono λe w' ⟨y,he,hq⟩=>⟨y,he,go _ _ hq⟩⟩
section
variable{P:Program}{G:Tys}
variable{vs:List Value}
theorem qow{g:FuncId}{h:Hp}{slot:Nat}{C:List Nat->Prop}{K:List Nat->Value->Mz->Prop}(hs:List Nat)(R:Value->Mz->Prop)(hC:C hs)(hc:∀h₂:Hp,(∀q∈hs,h₂[q]?=h[q]?)->CallAll P g vs h₂ R)(k:∀v ms,R v ms->(∀q∈ms.map (·.1),q∈hs)/\K hs v ms):N (jiu P g vs h slot C K):=N.mk ⟨hs,R,hC,hc,k⟩
theorem q00[ZW]{f:FuncId}{fn:Func}{c:Code}(W:World)(hz:ZW.z=some W){α:Type}(V:α->Value)(D:α->List Rw)(ok:α->Prop)(hG:jfe P G)(hm:P.follows .mixedOrders=true)(hf:P.funcs[f]?=some fn)(hb:fn.body=some c)(hW:0<W.heap.size)(hp:vs.all qap=true)(hV:∀κ r r',den r (V κ)=den r' (V κ))
  (hwp:initK vs fn.ntmps λt=>wpC P G 1 c (bodyQ P G fn λv st=>N (∃κ,ok κ/\v=V κ/\st.h[0]?=some (some (rvC (D κ))))) ⟨t,[some (rvC [])]⟩):Calls P f ⟨vs⟩ W λe w'=>∃κ,ok κ/\e=.returned (den (λ_=>(0,0)) (V κ))/\Below W.heap.size W w'/\∀r∈D κ,RwAt w' r/\W.heap.size<=r.b:=by
 let X:Ctx:=⟨W,λa=>a.block<W.heap.size,1,λ_=>(0,0)⟩
 have one:∀(k:Nat)(d:Chunk),[some (rvC [])][k]?=some (some d)->k=0/\d=rvC []:=λk d hk=>Q48
 have H:HOK X (λ_=>(0,0)) [some (rvC [])] W:=Q1j
 have hd:∀{vs:List Value},vs.all qap=true->All2 (Den (Fil [some (rvC [])]) λ_=>(0,0)) vs vs:=by
  intro vs
  induction vs with
  | nil=>exact λ_=>trivial
  | cons v r ih=>
   intro hp;simp only[yx,xo] at hp;exact⟨Den.plain hp.1,ih hp.2⟩
 refine(qfz (args:=⟨vs⟩) (X:=X) hG hm hf hb H (hd hp) hwp).mono ?_
 rintro e w' ⟨ρ',v,st,x,rfl,H',hdx,hq⟩
 obtain⟨κ,hκ,rfl,hF⟩:=hq.out
 obtain⟨S,E⟩:=H'.ext
 have M:RvOK (D κ) (ρ' 0) (S 0) w':=E.inv 0 _ hF
 refine⟨κ,hκ,?_,⟨H'.evo.os,H'.evo.tape,H'.evo.output,H'.evo.size,λb hb=>((M.base W hz).2.2 b hb).2⟩,λr hr=>⟨(M.at_ r hr).2.1,(M.at_ r hr).2.2 W hz⟩⟩
 rw[<-hdx.self,hV κ ρ' λ_=>(0,0)]
end
end Go.Proofs.YtfkngpmgcimdbaaGreat.Sx


namespace Go.Proofs.YtfkngpmgcimdbaaGreat
open Go Go.RowKit Sx
variable{ix:List (Nat×Nat)}
theorem qat{v u:Value}(h:v=u)(hp:qam v=true):Re ix v u:=by subst h;exact .plain hp
theorem qc2[ZW]{R R':List Rw}:∀j,j<0->Re1 ix ((rvC R).f j) ((rvC R').f j):=nzj
theorem qfp[ZW]{R:List Rw}:ChunkReLe ix (rvC R) (rvC R):=⟨id,nlr _,qc2⟩
theorem qaq{k:IntKind}{a b:Int}(h:a=b):Value.int k a=.int k b:=by rw[h]
variable{n:Nat}
theorem qsy{o:Bool}{m:Nat}{l:List Value}(hl:l.length=n)(hm:m=n):Reads ⟨o,n,[(0,n,.agg ⟨l⟩)]⟩ 0 true m (.agg ⟨l⟩):=by
 subst hl hm;refine⟨yD (xq _),_,rfl,rfl,λj hj=>?_⟩;show qa9 _ _=_;rw[qan,if_pos Q9R,xq,Nat.sub_zero];rfl
def qkb(n:Int)(i:Nat):Int:=n / 256^i%256
def beK(n:Int)(w:Nat):Nat->List Int
 | 0=>[]
 | k+1=>beK n w k++[qkb n (w-1-k)]
abbrev be(n:Int)(w:Nat):List Int:=beK n w w
theorem qsz(n:Int)(w:Nat):∀k,(beK n w k).length=k
 | 0=>rfl
 | k+1=>by rw[beK,xv,qsz n w k];rfl
structure BufOK(r:Rw)(bs:List Int):Prop where
 w:r.w=true
 e:r.e=5
 k:r.k=1
 n:r.n=bs.length
 xs:r.xs=bs.map (Value.int .u8)
theorem BufOK.grew{r r':Rw}{bs cs:List Int}(h:BufOK r bs)(hg:Grew (some r) (some r') 5 1 cs.length (cs.map (Value.int .u8))):BufOK r' (bs++cs):=by
 obtain⟨h1,h2,h3⟩:=hg.ty r' rfl;exact⟨h3,h1,h2,by have:=hg.n;show rowN (some r')=_;rw[this,xv];show r.n+_=_;rw[h.n],by have:=hg.xs;show ji5 (some r')=_;rw[this,zq];show r.xs++_=_;rw[h.xs]⟩
theorem q01:∃ei z,prog.info? 5=some ei/\ei.size=1/\ei.bytes<=1000/\ei.zero=some z/\z.cells.size=1:=by
 obtain⟨ei,d,h1,h2,h3⟩:=qao tysOK (t:=5) (K:=λei _=>ei.size=1/\ei.bytes<=1000/\∃z,ei.zero=some z/\z.cells.size=1) ⟨rfl,by decide,_,rfl,rfl⟩;obtain⟨h3,h4,z,h5,h6⟩:=h3;exact⟨ei,z,h1,h3,h4,h5,h6⟩
theorem q02(M:List Int):∀u∈M.map (Value.int .u8),u.oneCell'=true:=λu hu=>by
 obtain⟨e,_,rfl⟩:=xx.1 hu;rfl
variable{ps:Pz}{K:Value->Mz->Prop}
theorem jmu[ZW]{o:Oper}{st:St}{x y:Operand}{p:Value}{own:Bool}(r:Rw)(R:List Rw)(bs cs:List Int)(i:Nat)(hs:List Nat)(hr:BufOK r bs)
  (ho:o.op=.call ⟨.builtin .append,#[x,y],#[37,37]⟩) (hx:EvTo x st p) (hp:∀ρ,den ρ p=uR (some r.sl)) (hi:st.h[i]?=some (some (@Chunk.mk (rvX (r::R)) own n ps)))
  (hsrc:jnk y st hs cs.length 1 (cs.map (Value.int .u8))) (hl:bs.length+cs.length<=100000) (hK:∀r',BufOK r' (bs++cs)->K (uV (some r'.sl)) [(i,@Chunk.mk (rvX (r'::R)) own n ps)]):N (EffAll prog o st K):=by
 obtain⟨ei,z,h1,h2,h3,h4,h5⟩:=q01
 have hn:rowN (some r)=bs.length:=hr.n
 have hb:(rowN (some r)+cs.length)*ei.bytes<=100000*1000:=yz (by rw[hn];exact hl) h3
 refine q0y (e:=5) (ei:=ei) (z:=z) (some r) R i cs.length (cs.map (Value.int .u8)) ho hx hp underlying37 h1 h4 (by rw[h5,h2]) Qb4 hi (λq hq=>by cases hq;rw[h2];exact⟨hr.e,hr.k,hr.w⟩) hs (by rw[h2];exact hsrc) (q02 cs) (by rw[hn];omega) Q9R λoe' hg=>?_
 rw[h2] at hg
 cases oe' with
 | none=>exact absurd (hg.nil.1 rfl).1 Qa2
 | some r'=>exact hK r' (hr.grew hg)
abbrev jqu(n:Int):Bool:=IntKind.u32.wrap ((BitVec.ofInt IntKind.u32.bits n &&& BitVec.ofInt IntKind.u32.bits 1).toNat:Int)==1
abbrev jgu(a b:Int):Int:=IntKind.u32.wrap ((BitVec.ofInt IntKind.u32.bits a ^^^ BitVec.ofInt IntKind.u32.bits b).toNat:Int)
abbrev jhx(n k:Int):Int:=n.fdiv (2^sh k IntKind.u32)
def jpi(n:Int):Int:=if jqu n=true then jgu (jhx n 1) 3988292384 else jhx n 1
def jj3(n:Int):Nat->Int
 | 0=>n
 | k+1=>jpi (jj3 n k)
def jj4(i:Nat):Int:=jj3 (IntKind.u32.wrap (i:Int)) 8
structure TabOK(oe:Option Rw)(l:List Int):Prop where
 n:rowN oe=l.length
 xs:ji5 oe=l.map (Value.int .u32)
 ty:∀r,oe=some r->r.e=104/\r.k=1/\r.w=true
theorem TabOK.nil:TabOK none []:=⟨rfl,rfl,(λr h=>by cases h)⟩
theorem TabOK.grew{oe oe':Option Rw}{M M2:List Int}(h:TabOK oe M)(hg:Grew oe oe' 104 1 M2.length (M2.map (Value.int .u32))):TabOK oe' (M++M2):=
 ⟨by rw[hg.n,h.n,xv],by rw[hg.xs,h.xs,zq],hg.ty⟩
theorem q4j:∃ei z,prog.info? 104=some ei/\ei.size=1/\ei.bytes<=1000/\ei.zero=some z/\z.cells.size=1:=by
 obtain⟨ei,d,h1,h2,h3⟩:=qao tysOK (t:=104) (K:=λei _=>ei.size=1/\ei.bytes<=1000/\∃z,ei.zero=some z/\z.cells.size=1) ⟨rfl,by decide,_,rfl,rfl⟩;obtain⟨h3,h4,z,h5,h6⟩:=h3;exact⟨ei,z,h1,h3,h4,h5,h6⟩
theorem q4k(M:List Int):∀u∈M.map (Value.int .u32),u.oneCell'=true:=λu hu=>by
 obtain⟨e,_,rfl⟩:=xx.1 hu;rfl
theorem jrx[ZW]{o:Oper}{st:St}{x y:Operand}{p:Value}{own:Bool}(oe:Option Rw)(R:List Rw)(M M2:List Int)(i:Nat)(hs:List Nat)(hoe:TabOK oe M)
  (ho:o.op=.call ⟨.builtin .append,#[x,y],#[87,87]⟩) (hx:EvTo x st p) (hp:∀ρ,den ρ p=uR (rowO oe)) (hi:st.h[i]?=some (some (@Chunk.mk (rvX (rowL oe R)) own n ps)))
  (hsrc:jnk y st hs M2.length 1 (M2.map (Value.int .u32))) (hl:M.length+M2.length<=100000) (hK:∀oe',TabOK oe' (M++M2)->K (uV (rowO oe')) [(i,@Chunk.mk (rvX (rowL oe' R)) own n ps)]):N (EffAll prog o st K):=by
 obtain⟨ei,z,h1,h2,h3,h4,h5⟩:=q4j
 have hb:(rowN oe+M2.length)*ei.bytes<=100000*1000:=yz (by rw[hoe.n];exact hl) h3
 exact q0y (e:=104) (ei:=ei) (z:=z) oe R i M2.length (M2.map (Value.int .u32)) ho hx hp underlying87 h1 h4 (by rw[h5,h2]) Qb4 hi (λr hr=>by rw[h2];exact hoe.ty r hr) hs (by rw[h2];exact hsrc) (q4k M2) (by rw[hoe.n];omega) Q9R λoe' hg=>hK oe' (hoe.grew (by rw[h2] at hg;exact hg))
def jih(k:Nat):List Int:=(List.range k).map jj4
theorem qox(k:Nat):(jih k).length=k:=by unfold jih;rw[yT,List.length_range]
theorem jdi[ZW](R:List Rw)(i:Nat)(h:Hp)(hi:h[i]?=some (some (rvC R))):
  CallAll prog 95 [] h (λv ms=>∃r:Rw,TabOK (some r) (jih 256)/\v=uV (some r.sl)/\ms=[(i,rvC (r::R))]):=by
 have key:=qa7 (G:=tys) (h:=h) (vs:=[]) (λ_:Unit=>True) (λ_=>_) (α:=Rw) (λκ=>TabOK (some κ) (jih 256)) (λκ=>uV (some κ.sl)) [⟨i,rvC R,rvC R,rvC R⟩] (λκ=>[rvC (κ::R)]) (λκ=>[]) [] tysOK mixed func95 Q9S (call95) ⟨hi,xb⟩ Q8f (λκ _=>Q8f) Q9X Q81 (λκ _=>trivial) xb Opens.same ?_
 .exact Q2K
 rintro⟨⟩ -
 repeat' (refine Ba ?_;first|refine Q5P ?_|refine Q6P ?_|refine Q6L ?_|fail)
 refine Ba ?_
 refine Bq (α:=Nat×Option Rw) (λq=>q.1<=256/\TabOK q.2 (jih q.1)) (λq=>256-q.1) (λq=>[(1,uV (rowO q.2)),(5,xc (q.1:Int))]) (λq=>[(0,rvC (rowL q.2 R))]) (0,none) [(0,0)] ⟨by decide,TabOK.nil⟩ ?_ ?_
 .exact Q2b
 rintro⟨k,oe⟩ ⟨hk,hoe⟩
 have hk:k<=256:=hk
 have hoe:TabOK oe (jih k):=hoe
 by_cases hkl:k<256
 .refine Q1a ?_;refine Bo (α:=Nat) (λm=>m<=8) (λm=>8-m) (λm=>[(3,.int .u32 (jj3 (IntKind.u32.wrap (k:Int)) m)),(10,xc (m:Int))]) (λm=>[]) 0 Q9V ?_ ?_
  .exact Q0B
  intro m hm;have hm:m<=8:=hm;by_cases hm8:m<8
  .exact Q2n
  .obtain rfl:m=8:=by omega
   have ek:((k+1:Nat):Int)=IntKind.i64.wrap ((k:Int)+1):=by rw[je5 _ Q9R Q9R];rfl
   refine Q1a ?_;refine jrx oe R (jih k) [_] 0 [_] hoe rfl rfl (λρ=>qd6 _ ρ) Q9S Q9k (by rw[qox];show _+1<=_;omega) λoe' hoe'=>?_
   have hoe2:TabOK oe' (jih (k+1)):=by
    unfold jih;rw[List.range_succ,zq];exact hoe'
   refine Q1a ?_;refine Bm (α:=Nat×Option Rw) (k+1,oe') [(0,0)] ⟨⟨hkl,hoe2⟩,by show 256-(k+1)<256-k;omega⟩ ?_;exact Q2b
 .obtain rfl:k=256:=by omega
  cases oe with
  | none=>have:=hoe.n;rw[qox] at this;exact absurd this Q9V
  | some r=>
   repeat' (refine Ba ?_;first|refine Q5P ?_|refine Q6L ?_|refine Bl ?_|refine Bn r ⟨hoe,?_⟩|refine Bc (.one .quo) ?_|refine Bc Q8s ?_|refine Q61 ?_|exact Be|fail)
abbrev xor8(a b:Int):Int:=IntKind.u8.wrap ((BitVec.ofInt IntKind.u8.bits a ^^^ BitVec.ofInt IntKind.u8.bits b).toNat:Int)
theorem q03(a b:Int):0<=xor8 a b/\xor8 a b<256:=by
 unfold xor8;rw[wrap_u8];omega
def q04(s c:Int):Int:=jgu (jhx s 8) (jj4 (xor8 (IntKind.u8.wrap s) c).toNat)
def sumK(bs:List Int)(k:Nat):Int:=(bs.take k).foldl q04 4294967295
def sumN(bs:List Int):Int:=jgu 4294967295 (sumK bs bs.length)
theorem N.notU{x:Int}{K:Value->Prop}(h:K (.int .u32 (jgu 4294967295 x))):N (UnN prog .xor (.int .u32 x) K):=N.mk ⟨.int .u32 (jgu 4294967295 x),⟨rfl,rfl,λw=>by go_simp;rfl⟩,h⟩
theorem qri{bs:List Int}{k:Nat}{c:Int}(h:bs[k]?=some c):sumK bs (k+1)=q04 (sumK bs k) c:=by
 unfold sumK;rw[List.take_add_one,h,List.foldl_append];rfl
theorem jdj(n m:Int)(w:World):xa 93 #[xc n,xc m] w (.bool (decide (0<=n/\n<=m))):=by
 refine qac (G:=tys) w tysOK mixed func93 Q9S Q9U Q9T ?_;exact Q0n
theorem jmv(n m:Int)(h:Hp):qae prog 93 [xc n,xc m] h (.bool (decide (0<=n/\n<=m))) [] []:=qai rfl rfl (call93 _) (jdj n m)
theorem q4l(n:Int)(w:World):xa 92 #[xc n] w (.bool (decide (0<=n/\n<64))):=by
 refine qac (G:=tys) w tysOK mixed func92 Q9S Q9U Q9T ?_;exact Q0n
theorem qcn(n:Int)(h:Hp):qae prog 92 [xc n] h (.bool (decide (0<=n/\n<64))) [] []:=qai rfl rfl (call92 _) (q4l n)
theorem jry{v:Value}{b:Bool}{p:Prop}[Decidable p](h:b=true↔p):Value.tuple #[v,.bool b]=.tuple #[v,.bool (decide p)]:=by
 by_cases hp:p
 .rw[h.2 hp,xg hp]
 .rw[xf hp];cases b with
  | false=>rfl
  | true=>exact absurd (h.1 rfl) hp
abbrev frF(k s b q st ds t1 t2 wh wn x y a c d:Int):Value:=.agg ⟨[xc k,xc s,xc b,xc q,xc st,xc ds,xc t1,xc t2,xc wh,xc wn,xc x,xc y,xc a,xc c,xc d]⟩
theorem q9l(s b q st ds t1 t2 wh wn x y a c d:Int)(w:World):xa 91 #[frF 1 s b q st ds t1 t2 wh wn x y a c d] w (.tuple #[frF 1 s b q st ds t1 t2 wh wn x y a c d,.bool (decide (True))]):=Q0b
theorem q9m(s b q st ds t1 t2 wh wn x y a c d:Int)(w:World):xa 91 #[frF 7 s b q st ds t1 t2 wh wn x y a c d] w (.tuple #[frF 7 s b q st ds t1 t2 wh wn x y a c d,.bool (decide (True))]):=Q0b
theorem q9n(s b q st ds t1 t2 wh wn x y a c d:Int)(w:World):xa 91 #[frF 2 s b q st ds t1 t2 wh wn x y a c d] w (.tuple #[frF 2 s b q st 0 t1 t2 wh wn x y a c d,.bool (decide ((0<=ds/\ds<64)/\ds≠s))]):=Q0b
theorem q9o(s b q st ds t1 t2 wh wn x y a c d:Int)(w:World):xa 91 #[frF 3 s b q st ds t1 t2 wh wn x y a c d] w (.tuple #[frF 3 s b q st 0 0 t2 wh wn x y a c d,.bool (decide ((0<=ds/\ds<64)/\ds≠s/\(0<=t1/\t1<=4294967295)))]):=Q0b
theorem q9p(s b q st ds t1 t2 wh wn x y a c d:Int)(w:World):xa 91 #[frF 4 s b q st ds t1 t2 wh wn x y a c d] w (.tuple #[frF 4 s b q st 0 0 0 wh 0 x y a c d,.bool (decide ((0<=ds/\ds<64)/\ds≠s/\(0<=t1/\t1<=70368744177664)/\(0<=t2/\t2<=70368744177664)/\(0<=wn/\wn<=4294967295)))]):=Q0b
theorem q9q(s b q st ds t1 t2 wh wn x y a c d:Int)(w:World):xa 91 #[frF 5 s b q st ds t1 t2 wh wn x y a c d] w (.tuple #[frF 5 s b q st ds t1 t2 wh wn 0 0 0 0 0,.bool (decide (mayP x y a c d))]):=Q0b
theorem q9r(s b q st ds t1 t2 wh wn x y a c d:Int)(w:World):xa 91 #[frF 6 s b q st ds t1 t2 wh wn x y a c d] w (.tuple #[frF 6 s b q st ds t1 t2 0 0 0 0 0 0 0,.bool (decide ((0<=wh/\wh<64)/\wh≠s/\(0<=wn/\wn<=st)/\mayP x y a c d))]):=Q0b
theorem q4m:∃ei,prog.info? 5=some ei/\ei.size=1/\ei.zero=some (.int .u8 0):=by
 obtain⟨ei,d,h1,h2,h3⟩:=qao tysOK (t:=5) (K:=λei _=>ei.size=1/\ei.zero=some (.int .u8 0)) ⟨rfl,rfl⟩;exact⟨ei,h1,h3⟩
def jpj(k s b q st ds t1 t2 wh wn x y a c d:Int):List Int:=[97,108,105,49]++be k 1++be s 1++be ds 1++be wh 1++be b 2++be q 2++be st 8++be t1 8++be t2 8++be wn 8++be x 4++be y 4++be a 8++be c 8++be d 8
def jkg(k s b q st ds t1 t2 wh wn x y a c d:Int):List Int:=jpj k s b q st ds t1 t2 wh wn x y a c d++be (IntKind.i64.wrap (sumN (jpj k s b q st ds t1 t2 wh wn x y a c d))) 4
theorem qfw(n:Int)(w:Nat):(be n w).length=w:=qsz n w w
def Fi(n:Int):Prop:=-9223372036854775808<=n/\n<=9223372036854775807
open Go Go.RowKit Sx
structure Frm where
 k:Int
 s:Int
 b:Int
 q:Int
 st:Int
 ds:Int
 t1:Int
 t2:Int
 wh:Int
 wn:Int
 x:Int
 y:Int
 a:Int
 c:Int
 d:Int
def Frm.o:Frm:=⟨0,0,0,0,0,0,0,0,0,0,0,0,0,0,0⟩
abbrev fmV(f:Frm):Value:=frF f.k f.s f.b f.q f.st f.ds f.t1 f.t2 f.wh f.wn f.x f.y f.a f.c f.d
def Frm.rest(f:Frm):Frm:=
 if f.k=2 then {f with ds:=0} else if f.k=3 then {f with ds:=0,t1:=0} else if f.k=4 then {f with ds:=0,t1:=0,t2:=0,wn:=0}
 else if f.k=5 then {f with x:=0,y:=0,a:=0,c:=0,d:=0} else if f.k=6 then {f with wh:=0,wn:=0,x:=0,y:=0,a:=0,c:=0,d:=0} else f
def Frm.own(f:Frm):Prop:=
 if f.k=1 then True else if f.k=7 then True else if f.k=2 then (0<=f.ds/\f.ds<64)/\f.ds≠f.s
 else if f.k=3 then (0<=f.ds/\f.ds<64)/\f.ds≠f.s/\(0<=f.t1/\f.t1<=4294967295)
 else if f.k=4 then (0<=f.ds/\f.ds<64)/\f.ds≠f.s/\(0<=f.t1/\f.t1<=70368744177664)/\(0<=f.t2/\f.t2<=70368744177664)/\(0<=f.wn/\f.wn<=4294967295)
 else if f.k=5 then mayP f.x f.y f.a f.c f.d
 else if f.k=6 then (0<=f.wh/\f.wh<64)/\f.wh≠f.s/\(0<=f.wn/\f.wn<=f.st)/\mayP f.x f.y f.a f.c f.d
 else False
instance decFrOwn(f:Frm):Decidable f.own:=by unfold Frm.own;infer_instance
def Frm.head(f:Frm):Prop:=(0<=f.s/\f.s<64)/\(0<=f.b/\f.b<=65535)/\(0<=f.q/\f.q<=65535)/\(0<=f.st/\f.st<=1000000)
def Frm.bare(f:Frm):Prop:=f.ds=0/\f.t1=0/\f.t2=0/\f.wh=0/\f.wn=0/\f.x=0/\f.y=0/\f.a=0/\f.c=0/\f.d=0
instance decFrHead(f:Frm):Decidable f.head:=by unfold Frm.head;infer_instance
instance decFrBare(f:Frm):Decidable f.bare:=by unfold Frm.bare;infer_instance
def Frm.may(f:Frm):Prop:=f.own/\f.head/\f.rest.bare
instance decFrMay(f:Frm):Decidable f.may:=by unfold Frm.may;infer_instance
theorem kN{a b:Int}(h:¬ a=b):(a==b)=false:=by simpa using h
theorem kY{a b:Int}(h:a=b):(a==b)=true:=by simpa using h
theorem q9s(f:Frm)(h1:¬ f.k=1)(h2:¬ f.k=2)(h3:¬ f.k=3)(h4:¬ f.k=4)(h5:¬ f.k=5)(h6:¬ f.k=6)(h7:¬ f.k=7)(w:World):xa 91 #[fmV f] w (.tuple #[fmV f,.bool (decide False)]):=by
 refine qac (G:=tys) w tysOK mixed func91 Q9S Q9S Q9S ?_;repeat' (refine Ba ?_;first|refine Q5P ?_|refine Bf (kN h1) ?_|refine Bf (kN h2) ?_|refine Bf (kN h3) ?_|refine Bf (kN h4) ?_|refine Bf (kN h5) ?_|refine Bf (kN h6) ?_|refine Bf (kN h7) ?_|fail)
 all_goals rfl
theorem jdk(f:Frm)(w:World):xa 91 #[fmV f] w (.tuple #[fmV f.rest,.bool (decide f.own)]):=by
 obtain⟨k,s,b,q,st,ds,t1,t2,wh,wn,x,y,a,c,d⟩:=f;by_cases h1:k=1
 .subst h1;exact q9l s b q st ds t1 t2 wh wn x y a c d w
 by_cases h7:k=7
 .subst h7;exact q9m s b q st ds t1 t2 wh wn x y a c d w
 by_cases h2:k=2
 .subst h2;exact q9n s b q st ds t1 t2 wh wn x y a c d w
 by_cases h3:k=3
 .subst h3;exact q9o s b q st ds t1 t2 wh wn x y a c d w
 by_cases h4:k=4
 .subst h4;exact q9p s b q st ds t1 t2 wh wn x y a c d w
 by_cases h5:k=5
 .subst h5;exact q9q s b q st ds t1 t2 wh wn x y a c d w
 by_cases h6:k=6
 .subst h6;exact q9r s b q st ds t1 t2 wh wn x y a c d w
 have e1:Frm.rest ⟨k,s,b,q,st,ds,t1,t2,wh,wn,x,y,a,c,d⟩=⟨k,s,b,q,st,ds,t1,t2,wh,wn,x,y,a,c,d⟩:=by
  unfold Frm.rest;rw[if_neg h2,if_neg h3,if_neg h4,if_neg h5,if_neg h6]
 have e2:(decide (Frm.own ⟨k,s,b,q,st,ds,t1,t2,wh,wn,x,y,a,c,d⟩))=decide False:=by
  rw[xf (show ¬ Frm.own _ by unfold Frm.own;rw[if_neg h1,if_neg h7,if_neg h2,if_neg h3,if_neg h4,if_neg h5,if_neg h6];exact id),xf id]
 rw[e1,e2];exact q9s ⟨k,s,b,q,st,ds,t1,t2,wh,wn,x,y,a,c,d⟩ h1 h2 h3 h4 h5 h6 h7 w
theorem qg1(f:Frm)(h:Hp):qae prog 91 [fmV f] h (.tuple #[fmV f.rest,.bool (decide f.own)]) [] []:=
 qai rfl rfl (call91 _) (jdk f)
theorem q05(f:Frm):f.rest.k=f.k/\f.rest.s=f.s/\f.rest.b=f.b/\f.rest.q=f.q/\f.rest.st=f.st:=by
 unfold Frm.rest;repeat' split
 all_goals exact⟨rfl,rfl,rfl,rfl,rfl⟩
theorem jpk(r:Frm):(r.x==0&&(r.y==0&&(r.a==0&&(r.c==0&&r.d==0))))=decide (r.x=0/\r.y=0/\r.a=0/\r.c=0/\r.d=0):=by
 by_cases h1:r.x=0<;>by_cases h2:r.y=0<;>by_cases h3:r.a=0<;>by_cases h4:r.c=0<;>by_cases h5:r.d=0<;>simp[h1,h2,h3,h4,h5]
theorem qg2(x y:Operand)(a b c d e p q r s t:Int):BinIs prog .eql 27 x y (.agg ⟨[xc a,xc b,xc c,xc d,xc e]⟩) (.agg ⟨[xc p,xc q,xc r,xc s,xc t]⟩) (.bool (a==p&&(b==q&&(c==r&&(d==s&&e==t))))):=
 Q8y
theorem q4n(f:Frm)(w:World):xa 59 #[fmV f] w (.bool (decide f.may)):=by
 obtain⟨k1,k2,k3,k4,k5⟩:=q05 f;by_cases g_own:f.own;rotate_left
 .have n_own:=g_own;clear g_own;rw[xf (show ¬ f.may from λh=>n_own h.1)];exact Q04
 by_cases g_s:0<=f.s/\f.s<64;rotate_left
 .have n_s:=g_s;clear g_s;rw[xf (show ¬ f.may from λh=>n_s h.2.1.1)];exact Q04
 by_cases g_b:0<=f.b/\f.b<=65535;rotate_left
 .have n_b:=g_b;clear g_b;rw[xf (show ¬ f.may from λh=>n_b h.2.1.2.1)];exact Q04
 by_cases g_q:0<=f.q/\f.q<=65535;rotate_left
 .have n_q:=g_q;clear g_q;rw[xf (show ¬ f.may from λh=>n_q h.2.1.2.2.1)];exact Q04
 by_cases g_st:0<=f.st/\f.st<=1000000;rotate_left
 .have n_st:=g_st;clear g_st;rw[xf (show ¬ f.may from λh=>n_st h.2.1.2.2.2)];exact Q04
 by_cases g_ds:f.rest.ds=0;rotate_left
 .have n_ds:=g_ds;clear g_ds;rw[xf (show ¬ f.may from λh=>n_ds h.2.2.1)];exact Q04
 by_cases g_t1:f.rest.t1=0;rotate_left
 .have n_t1:=g_t1;clear g_t1;rw[xf (show ¬ f.may from λh=>n_t1 h.2.2.2.1)];exact Q04
 by_cases g_t2:f.rest.t2=0;rotate_left
 .have n_t2:=g_t2;clear g_t2;rw[xf (show ¬ f.may from λh=>n_t2 h.2.2.2.2.1)];exact Q04
 by_cases g_wh:f.rest.wh=0;rotate_left
 .have n_wh:=g_wh;clear g_wh;rw[xf (show ¬ f.may from λh=>n_wh h.2.2.2.2.2.1)];exact Q04
 by_cases g_wn:f.rest.wn=0;rotate_left
 .have n_wn:=g_wn;clear g_wn;rw[xf (show ¬ f.may from λh=>n_wn h.2.2.2.2.2.2.1)];exact Q04
 rw[show(decide f.may)=decide (f.rest.x=0/\f.rest.y=0/\f.rest.a=0/\f.rest.c=0/\f.rest.d=0) from decide_eq_decide.2 ⟨λh=>h.2.2.2.2.2.2.2,λh=>⟨g_own,⟨g_s,g_b,g_q,g_st⟩,g_ds,g_t1,g_t2,g_wh,g_wn,h⟩⟩,<-jpk];exact Q04
theorem q06(f:Frm)(h:Hp):qae prog 59 [fmV f] h (.bool (decide f.may)) [] []:=
 qai rfl rfl (call59 _) (q4n f)
theorem qde:∀{ss:List je2},(ss.map λs=>s.i).Nodup->Apart ss
 | [],_=>trivial
 | s::r,h=>by
  rw[xp,xL] at h;exact⟨λt ht _ e=>h.1 (by rw[e];exact xx.2 ⟨t,ht,rfl⟩),qde h.2⟩
structure Ou where
 f:Frm
 t:Int
def Ou.o:Ou:=⟨Frm.o,0⟩
abbrev ouV(x:Ou):Value:=outV x.f.k x.f.s x.f.b x.f.q x.f.st x.f.ds x.f.t1 x.f.t2 x.f.wh x.f.wn x.f.x x.f.y x.f.a x.f.c x.f.d x.t
def jf6(x:Ou):Nat->Value
 | 0=>.int .i64 x.f.k
 | 1=>.int .i64 x.f.s
 | 2=>.int .i64 x.f.b
 | 3=>.int .i64 x.f.q
 | 4=>.int .i64 x.f.st
 | 5=>.int .i64 x.f.ds
 | 6=>.int .i64 x.f.t1
 | 7=>.int .i64 x.f.t2
 | 8=>.int .i64 x.f.wh
 | 9=>.int .i64 x.f.wn
 | 10=>.int .i64 x.f.x
 | 11=>.int .i64 x.f.y
 | 12=>.int .i64 x.f.a
 | 13=>.int .i64 x.f.c
 | 14=>.int .i64 x.f.d
 | _=>.int .i64 x.t
theorem qkc(x:Ou)(k:Nat):qbh (jf6 x k)=true:=by unfold jf6;split<;>rfl
theorem ql1(x:Ou){k:Nat}(h:k<16):cellIn (ouV x) k=jf6 x k:=Q3e
theorem qs0(j:Nat):jf0 16 (ouV Ou.o) j=jf6 (Ou.o) (j%16):=by
 unfold jf0;have h:j%16<16:=xr _ Q9V;generalize j%16=k at h;exact Q3e
abbrev ouC(o:Bool)(c:Nat)(T:Nat->Ou):Chunk:=⟨o,c*16,[(0,c*16,.agg ⟨segL (c*16) λj=>jf6 (T (j / 16)) (j%16)⟩)]⟩
variable{c:Nat}{T:Nat->Ou}
theorem jmw{o:Bool}{j:Nat}(h:j<c*16):(ouC o c T).f j=jf6 (T (j / 16)) (j%16):=qa6 h
theorem q6m{o o':Bool}{T':Nat->Ou}(h:∀i,i<c->T i=T' i):qbg ix (ouC o c T) (ouC o' c T'):=λj hj=>by
 have hj:j<c*16:=hj;rw[qa6 hj,qa6 hj,h (j / 16) Q9R];exact .plain (qkc _ _)
variable{hp:Hp}
theorem q4o{T':Nat->Ou}(h:∀i,i<c->T i=T' i)(hh:hp[n]?=some (some (ouC true c T'))):PostC ix hp n (ouC true c T):=⟨_,hh,id,nlr _,q6m h⟩
theorem jpl{o:Bool}{p:Nat}(i:Nat)(hn:n=16)(h:i<c)(e:p=i*16):Reads (ouC o c T) p true n (ouV (T i)):=by
 subst e hn;refine⟨by show i*16+16<=c*16;omega,_,rfl,rfl,λj hj=>?_⟩;rw[qa6 Q9R,show(i*16+j) / 16=i by omega,show(i*16+j)%16=j by omega];exact(ql1 _ hj).symm
def setou(T:Nat->Ou)(l:Nat)(x:Ou)(i:Nat):Ou:=if i=l then x else T i
theorem jpm{l p:Nat}{x:Ou}(h:l<c)(e:p=l*16):Writes (ouC true c T) p (1*16) (ouV x) (ouC true c (setou T l x)):=by
 subst e;refine⟨rfl,by show l*16+1*16<=c*16;omega,rfl,λj hj=>?_⟩;have hj:j<c*16:=hj;rw[qa6 hj,qa6 hj];unfold setou;by_cases e:l*16<=j/\j<l*16+1*16
 .rw[if_pos e,if_pos Q9R,ql1 _ Q9R];congr 1;omega
 .rw[if_neg e,if_neg Q9R]
def growou(T:Nat->Ou)(l:Nat)(x:Ou)(i:Nat):Ou:=if i<l then T i else if i=l then x else Ou.o
variable{cap:Nat}
theorem q4p{ci:Chunk}{l:Nat}{x:Ou}(h:l<cap)(hc:∀j,j<l*16->ci.f j=jf6 (T (j / 16)) (j%16)){j:Nat}(hj:j<cap*16):(grown ci l 1 16 (ouV x) (ouV Ou.o) cap).f j=jf6 (growou T l x (j / 16)) (j%16):=by
 unfold growou;by_cases h1:j<l*16
 .exact Q5F
 .rw[if_neg Q9R];by_cases h2:j<(l+1)*16
  .have:=qgh (ci:=ci) (l:=l) (m:=1) (size:=16) (cap:=cap) (v:=ouV x) (z:=ouV Ou.o) (j:=j-l*16) Q9R;rw[show l*16+(j-l*16)=j by omega] at this;rw[this,if_pos Q9R,ql1 _ Q9R];congr 1;omega
  .rw[qfq Q9R hj,if_neg Q9R];exact qs0 j
theorem qkd{ci:Chunk}{l:Nat}{x:Ou}(h:l<cap)(hc:∀j,j<l*16->ci.f j=jf6 (T (j / 16)) (j%16))(hh:hp[n]?=some (some (grown ci l 1 16 (ouV x) (ouV Ou.o) cap))):PostC ix hp n (ouC true cap (growou T l x)):=
 ⟨_,hh,λ_=>rfl,by show cap*16<=cap*16;omega,λj hj=>by
  have hj:j<cap*16:=hj;rw[qa6 hj,q4p h hc hj];exact .plain (qkc _ _)⟩
abbrev ouR(S:List Ou)(c:Nat):Chunk:=ouC true c (λi=>S.getD i Ou.o)
theorem q9t(S:List Ou)(x:Ou):setou (λi=>S.getD i Ou.o) S.length x=λi=>(S++[x]).getD i Ou.o:=by
 funext i;unfold setou;split
 .rename_i h;subst h;simp
 .rename_i h;rcases Nat.lt_or_gt_of_ne h with h1|h1
  .simp[xD,yH h1]
  .show S.getD i Ou.o=_;rw[xD,xD,yl Q9R,yl Qah]
theorem qvf(S:List Ou)(x:Ou):growou (λi=>S.getD i Ou.o) S.length x=λi=>(S++[x]).getD i Ou.o:=by
 funext i;unfold growou;split
 .rename_i h1;simp[xD,yH h1]
 .rename_i h1;split
  .rename_i h;subst h;simp
  .rw[xD,yl Qah];rfl
variable{S:List Ou}
theorem qay(hh:hp[n]?=some (some (ouR S c))):PostC ix hp n (ouR S c):=q4o (λ_ _=>rfl) hh
theorem q9u{x:Ou}(hh:hp[n]?=some (some (ouC true c (setou (λi=>S.getD i Ou.o) S.length x)))):PostC ix hp n (ouR (S++[x]) c):=by
 rw[q9t] at hh;exact qay hh
theorem q4q{x:Ou}(h:S.length<cap)(hc:S.length<=c)(hh:hp[n]?=some (some (grown (ouR S c) S.length 1 16 (ouV x) (ouV Ou.o) cap))):PostC ix hp n (ouR (S++[x]) cap):=by
 have:=qkd (ix:=ix) h (T:=λi=>S.getD i Ou.o) (λj hj=>jmw Q9R) hh;rw[qvf] at this;exact this
theorem q07{x:Ou}(h:0<cap)(hh:hp[n]?=some (some (grown ⟨true,0,[]⟩ 0 1 16 (ouV x) (ouV Ou.o) cap))):PostC ix hp n (ouR [x] cap):=by
 have:=qkd (ix:=ix) (l:=0) h (T:=λi=>([]:List Ou).getD i Ou.o) (λj hj=>absurd hj Q9R) hh;have e:=qvf [] x;rw[show growou (λi=>([]:List Ou).getD i Ou.o) 0 x=λi=>[x].getD i Ou.o from e] at this;exact this
theorem qeh:qbg ix (ouR S c) (ouR S c):=q6m λ_ _=>rfl
theorem qa4{h:Hp}{j:Nat}(hj:j<c*16):Safe1 h ((ouR S c).f j):=by
 rw[jmw hj];generalize (S.getD (j / 16) Ou.o)=x;generalize j%16=k;unfold jf6;split<;>trivial
def Frm.by(f:Frm)(D:NdS)(now:Int):Frm:={f with s:=D.id,b:=D.boot,q:=D.seq,st:=now}
theorem ql2(D:NdS)(f:Frm)(now fine:Int)(n l:Int)(hl:0<l/\l<1000)(hs:0<=D.seq/\D.seq<65535)(hb:0<=D.boot/\D.boot<=65535)(i0 i1 i2 i3 i4 i5 K:Nat)(h:Hp)(cf ct cm:Chunk)(h0:h[i0]?=some (some (sdC i1 now fine (.slice none 0 0))))(h1:h[i1]?=some (some (ndC D i2 i3 i4 i5)))(h2:h[i2]?=some (some cf))(h3:h[i3]?=some (some ct))(h4:h[i4]?=some (some (twC n l)))(h5:h[i5]?=some (some cm))(hK:h[K]?=some none)(hne:[i0,i1,i2,i3,i4,i5].Nodup):
  CallAll prog 40 [xd i0,fmV f] h (λv ms=>∃κ:Nat,1<=κ/\v=.tuple ⟨[xc (D.boot*65536+D.seq),.bool true]⟩/\ms=[(i0,sdC i1 now fine (.slice (some ⟨K,0,some 0⟩) 1 κ)),(i1,ndC {D with seq:=D.seq+1} i2 i3 i4 i5),(i4,twC n (l-1)),(K,ouR [⟨f.by D now,fine⟩] κ)]):=by
 have key:=qa7 (G:=tys) (h:=h) (vs:=[xd i0,fmV f]) (λ_:Unit=>True) (λ_=>_) (α:=Nat) (λκ=>1<=κ) (λκ=>.tuple ⟨[.int .i64 (D.boot*65536+D.seq),.bool true]⟩) [⟨i0,_,sdC 1 now fine (.slice none 0 0),noC⟩,⟨i1,_,ndC D 2 3 4 5,noC⟩,⟨i2,_,noC,noC⟩,⟨i3,_,noC,noC⟩,⟨i4,_,twC n l,noC⟩,⟨i5,_,noC,noC⟩]
  (λκ=>[sdC i1 now fine (.slice (some ⟨K,0,some 0⟩) 1 κ),ndC {D with seq:=D.seq+1} i2 i3 i4 i5,noC,noC,twC n (l-1),noC]) (λκ=>[⟨K,8,ouR [⟨f.by D now,fine⟩] κ⟩]) [xd 0,fmV f] tysOK mixed func40 Q9S (call40) ⟨h0,h1,h2,h3,h4,h5,xb⟩ ?_ ?_ ?_ Q9M ?_ ?_ Opens.same ?_
 rotate_left
 .exact Q2w
 .exact Q2y
 .exact qde hne
 .exact λκ hκ=>Q9E
 .exact Q5C
 .rintro⟨⟩ -;refine Q2L ?_;refine App0N.mk2 (ouV ⟨f.by D now,fine⟩) Q8N Q9V Q9V Q9V λκ hκ=>?_
  refine Q35 ?_;refine Bc ⟨⟨xT rfl,q07 Q9R rfl⟩,xb⟩ ?_;exact Q4o
 .exact qav key λv ms hR=>Q49
def jpn(D:NdS)(now fine:Int)(n l:Int)(S:List Ou)(x:Ou)(cap:Nat)(i0 i1 i2 i3 i4 i5 i6 K:Nat)(v:Value)(ms:Mz):Prop:=
 v=.tuple ⟨[xc (D.boot*65536+D.seq),.bool true]⟩/\((S.length<cap/\ms=[(i0,sdC i1 now fine (.slice (some ⟨i6,0,some 0⟩) (S.length+1) cap)),(i1,ndC {D with seq:=D.seq+1} i2 i3 i4 i5),(i4,twC n (l-1)),(i6,ouR (S++[x]) cap)])\/
  ∃κ:Nat,S.length+1<=κ/\ms=[(i0,sdC i1 now fine (.slice (some ⟨K,0,some 0⟩) (S.length+1) κ)),(i1,ndC {D with seq:=D.seq+1} i2 i3 i4 i5),(i4,twC n (l-1)),(i6,ouR S cap),(K,ouR (S++[x]) κ)])
theorem q6n(D:NdS)(f:Frm)(now fine:Int)(n l:Int)(S:List Ou)(cap:Nat)(hS:S.length<=cap/\S.length<=1000)(hl:0<l/\l<1000)(hs:0<=D.seq/\D.seq<65535)(hb:0<=D.boot/\D.boot<=65535)(i0 i1 i2 i3 i4 i5 i6 K:Nat)(h:Hp)(cf ct cm:Chunk)(h0:h[i0]?=some (some (sdC i1 now fine (.slice (some ⟨i6,0,some 0⟩) S.length cap))))(h1:h[i1]?=some (some (ndC D i2 i3 i4 i5)))(h2:h[i2]?=some (some cf))(h3:h[i3]?=some (some ct))(h4:h[i4]?=some (some (twC n l)))(h5:h[i5]?=some (some cm))(h6:h[i6]?=some (some (ouR S cap)))(hK:h[K]?=some none)(hne:[i0,i1,i2,i3,i4,i5,i6].Nodup):
  CallAll prog 40 [xd i0,fmV f] h (jpn D now fine n l S ⟨f.by D now,fine⟩ cap i0 i1 i2 i3 i4 i5 i6 K):=by
 have key:=qa7 (G:=tys) (h:=h) (vs:=[xd i0,fmV f]) (λ_:Unit=>True) (λ_=>_) (α:=Option Nat) (λκ=>match κ with|none=>S.length<cap|some κ=>S.length+1<=κ) (λκ=>.tuple ⟨[.int .i64 (D.boot*65536+D.seq),.bool true]⟩) [⟨i0,_,sdC 1 now fine (.slice (some ⟨6,0,some 0⟩) S.length cap),noC⟩,⟨i1,_,ndC D 2 3 4 5,noC⟩,⟨i2,_,noC,noC⟩,⟨i3,_,noC,noC⟩,⟨i4,_,twC n l,noC⟩,⟨i5,_,noC,noC⟩,⟨i6,_,ouR S cap,noC⟩]
  (λκ=>match κ with|none=>[sdC i1 now fine (.slice (some ⟨i6,0,some 0⟩) (S.length+1) cap),ndC {D with seq:=D.seq+1} i2 i3 i4 i5,noC,noC,twC n (l-1),noC,ouR (S++[⟨f.by D now,fine⟩]) cap]|some κ=>[sdC i1 now fine (.slice (some ⟨K,0,some 0⟩) (S.length+1) κ),ndC {D with seq:=D.seq+1} i2 i3 i4 i5,noC,noC,twC n (l-1),noC,ouR S cap]) (λκ=>match κ with|none=>[]|some κ=>[⟨K,9,ouR (S++[⟨f.by D now,fine⟩]) κ⟩]) [xd 0,fmV f] tysOK mixed func40 Q9S (call40) ⟨h0,h1,h2,h3,h4,h5,h6,xb⟩ ?_ ?_ ?_ ⟨.inl rfl,.inr ⟨rfl,rfl⟩,.inl rfl,.inl rfl,.inl rfl,.inl rfl,.inl rfl,xb⟩ ?_ ?_ Opens.same ?_
 rotate_left
 .exact⟨Q9h,Q8E,Q82,Q82,Q93,Q82,⟨λ_=>⟨rfl,xi _⟩,nlr _,qeh⟩,xb⟩
 .intro κ hκ;cases κ with
  | none=>exact⟨⟨λ_=>⟨rfl,nlr _⟩,nlr _,lt4 (.ptr Q9S) (.plain rfl) (.plain rfl) (.slice Q9S)⟩,⟨λ_=>⟨rfl,nlr _⟩,nlr _,jhd Q9S Q9S Q9S Q9S⟩,⟨λh=>Qaa,xi _,nzj⟩,⟨λh=>Qaa,xi _,nzj⟩,⟨λ_=>⟨rfl,nlr _⟩,nlr _,re2⟩,⟨λh=>Qaa,xi _,nzj⟩,⟨λ_=>⟨rfl,nlr _⟩,nlr _,qeh⟩,xb⟩
  | some κ=>exact⟨⟨λ_=>⟨rfl,nlr _⟩,nlr _,lt4 (.ptr Q9S) (.plain rfl) (.plain rfl) (.slice Q9S)⟩,⟨λ_=>⟨rfl,nlr _⟩,nlr _,jhd Q9S Q9S Q9S Q9S⟩,⟨λh=>Qaa,xi _,nzj⟩,⟨λh=>Qaa,xi _,nzj⟩,⟨λ_=>⟨rfl,nlr _⟩,nlr _,re2⟩,⟨λh=>Qaa,xi _,nzj⟩,⟨λ_=>⟨rfl,nlr _⟩,nlr _,qeh⟩,xb⟩
 .exact qde hne
 .intro κ hκ;cases κ with
  | none=>exact trivial
  | some κ=>exact⟨⟨hK,rfl,.inl Qbh,by simp⟩,xb⟩
 .exact Q5C
 .rintro⟨⟩ -;refine Q2L ?_;refine qlg (ouV ⟨f.by D now,fine⟩) Q8N Q9S (by show S.length*16<=cap*16;omega) Q9R (by show(S.length+1)*128<=_;omega) (ouC true cap (setou (λi=>S.getD i Ou.o) S.length ⟨f.by D now,fine⟩)) (λh=>jpm Q9R rfl) (λhr=>?_) (λhg κ hκ=>?_)
  .refine Q0g ?_;refine Bl ?_;refine Bn none ⟨hr,?_⟩;refine Q3z ?_;refine Bc ⟨Q8S,Q8Z,⟨_,rfl,id,nlr _,re2⟩,q9u rfl,xb⟩ ?_;refine Bc xb ?_;refine Bc ⟨Q9y,xb⟩ ?_;exact Be
  .refine Q0g ?_;refine Bl ?_;refine Bn (some κ) ⟨hκ,?_⟩;refine Q3z ?_;refine Bc ⟨Q8S,Q8Z,⟨_,rfl,id,nlr _,re2⟩,qay rfl,xb⟩ ?_;refine Bc ⟨⟨xT rfl,q4q Q9R hS.1 rfl⟩,xb⟩ ?_;refine Bc ⟨Q9y,.inl rfl,xb⟩ ?_;exact Be
 .exact qav key λv ms hR=>Q4f
open Go Go.RowKit Sx
structure NxS where
 least:Int
 next:Int
 any:Bool
 behind:Bool
def NxS.step(after:Int)(s:NxS)(n:Int):NxS:=
 let a:NxS:=if s.any=false\/n<s.least then ⟨n,s.next,true,s.behind⟩ else s
 if after<n/\(a.behind=false\/n<a.next) then ⟨a.least,n,a.any,true⟩ else a
def nxF(after:Int)(l:List Int):NxS:=l.foldl (NxS.step after) ⟨0,0,false,false⟩
def jgc(after:Int)(l:List Int):Int×Bool:=if (nxF after l).behind then ((nxF after l).next,true) else ((nxF after l).least,(nxF after l).any)
theorem q08(after:Int)(l:List Int)(cap:Nat)(c:Chunk)(hc:∀j,j<l.length->c.f j=xc (l.getD j 0))(hn:l.length<=c.n)(hl:l.length<=1000)(k:Nat)(h:Hp)(hk:h[k]?=some (some c)):
  qae prog 74 [.slice (some ⟨k,0,some 0⟩) l.length cap,xc after] h (.tuple #[xc (jgc after l).1,.bool (jgc after l).2]) [] [k]:=by
 refine qak (G:=tys) [⟨k,_,⟨false,l.length,[(0,l.length,.agg ⟨segL l.length λj=>xc (l.getD j 0)⟩)]⟩,⟨false,0,[]⟩⟩] [] [.slice (some ⟨0,0,some 0⟩) l.length cap,xc after] tysOK mixed func74 Q9S (call74) ⟨hk,xb⟩ ⟨⟨λh=>Qaa,hn,λj hj=>?_⟩,xb⟩ Q9X xb Q9p ?_
 .show Re1 _ _ (qa9 [(0,l.length,_)] j);rw[hc j hj,qan,if_pos (by have:j<l.length:=hj;omega),show j-0=j from rfl];rw[show cellIn (.agg ⟨segL l.length λj=>xc (l.getD j 0)⟩) j=xc (l.getD j 0) from qhc hj];exact .plain rfl
 repeat' (refine Ba ?_;first|refine Q5P ?_|fail)
 refine Ba ?_
 refine Bo (α:=Nat) (λj=>j<=l.length) (λj=>l.length-j) (λj=>[(6,xc (nxF after (l.take j)).least),(7,xc (nxF after (l.take j)).next),(8,.bool (nxF after (l.take j)).any),(9,.bool (nxF after (l.take j)).behind),(14,xc (j:Int))]) (λj=>[]) 0 (xi _) ?_ ?_
 .repeat' (refine Ba ?_;first|refine Q5P ?_|exact Be|refine Bc (ChunkLe.refl _) ?_|fail)
 intro j hj
 have hj:j<=l.length:=hj
 by_cases hlt:j<l.length
 .have st:nxF after (l.take (j+1))=NxS.step after (nxF after (l.take j)) (l.getD j 0):=by
   unfold nxF;rw[List.take_add_one,xt hlt,Option.toList_some,List.foldl_append,xD,xt hlt];rfl
  have ek:((j+1:Nat):Int)=IntKind.i64.wrap ((j:Int)+1):=by rw[je5 _ Q9R Q9R];rfl
  generalize nxF after (l.take j)=S at st;generalize hv:l.getD j 0=v at st;obtain⟨le,ne,an,be⟩:=S;have rd:Reads ⟨false,l.length,[(0,l.length,.agg ⟨segL l.length λj=>xc (l.getD j 0)⟩)]⟩ j false 1 (xc v):=qmw hlt rfl (by rw[hv]);cases an<;>cases be<;>by_cases h1:v<le<;>by_cases h2:after<v<;>by_cases h3:v<ne
  all_goals
   simp only[NxS.step,h1,h2,h3,true_and,false_and,and_true,and_false,or_true,true_or,or_false,false_or,if_true,if_false,Bool.true_eq_false,reduceCtorEq] at st
   repeat' (refine Ba ?_;first|refine Q5P ?_|refine Q64 ?_|refine Q60 ?_|refine Bi j 1 rfl Q9R ?_|refine Bk _ rd ?_|refine Bg Q9S ?_|refine Bf Q9S ?_|fail)
   refine Ba ?_
   refine N.next (α:=Nat) (j+1) ⟨by show j+1<=l.length;omega,by show l.length-(j+1)<l.length-j;omega⟩ ?_
   rw[st]
   repeat' (refine Ba ?_;first|refine Q5P ?_|exact Be|refine Bc (congrArg (Value.int .i64) ek.symm) ?_|refine Bc (ChunkLe.refl _) ?_|fail)
 .obtain rfl:j=l.length:=by omega
  rw[List.take_length];by_cases hb:(nxF after l).behind=true
  .rw[show jgc after l=((nxF after l).next,true) from if_pos hb];exact Q2d
  .rw[show jgc after l=((nxF after l).least,(nxF after l).any) from if_neg hb];have hb:(nxF after l).behind=false:=by simpa using hb
   exact Q2d
abbrev jlk(o:Bool)(E:Ez)(cap:Nat):Chunk:=enC o cap (λi=>if i<E.length then entT E i else Ent.zero)
variable{E:Ez}
theorem qju{o:Bool}{r p m:Nat}(hr:r<E.length)(hc:E.length<=cap)(hm:m=10)(hp:p=r*10):Reads (jlk o E cap) p true m (entV (entT E r)):=by
 have h:=jjp (o:=o) (c:=cap) (T:=λi=>if i<E.length then entT E i else Ent.zero) r hm Q9R hp;simp only[if_pos hr] at h;exact h
theorem q6o{o o':Bool}:qbg ix (jlk o E cap) (jlk o' E cap):=qt6 λ_ _=>rfl
theorem qdl{o:Bool}:ChunkReLe ix (jlk o E cap) (jlk o E cap):=⟨id,nlr _,q6o⟩
def jj5(E:Ez)(p:Ent->Bool):List Int:=evL E p E.length
def jpo(E:Ez)(p:Ent->Bool):EvS->Prop
 | .no r=>r<=E.length/\evL E p r=[]
 | .yes r c=>r<=E.length/\0<(evL E p r).length/\(evL E p r).length<=c
@[reducible] def teSet(E:Ez)(p:Ent->Bool):EvS->Vz
 | .no r=>[(11,.int .i64 (r:Int)),(6,.slice none 0 0)]
 | .yes r c=>[(11,.int .i64 (r:Int)),(6,.slice (some ⟨1,0,some 0⟩) (evL E p r).length c)]
@[reducible] def teHs(E:Ez)(p:Ent->Bool):EvS->Mz
 | .no r=>[]
 | .yes r c=>[(1,rl (evL E p r) c)]
theorem q09{S:List Int}(h:S.length<=c):∀j,j<S.length->(rl S c).f j=xc (S.getD j 0):=λj hj=>by
 rw[jli Q9R,yY];unfold jf5;rfl
theorem q4r(a:Int):jgc a []=(0,false):=rfl
theorem qrj(E:Ez)(cap:Nat)(after:Int)(hE:0<E.length/\E.length<=64)(hce:E.length<=cap)(k:Nat)(h:Hp)(hk:h[k]?=some (some (jlk true E cap))):
  qae prog 72 [.slice (some ⟨k,0,some 0⟩) E.length cap,xc after] h (.tuple #[xc (jgc after (jj5 E (·.has))).1,.bool (jgc after (jj5 E (·.has))).2]) [] [k]:=by
 refine qak (G:=tys) [⟨k,_,jlk false E cap,⟨false,0,[]⟩⟩] [] [.slice (some ⟨0,0,some 0⟩) E.length cap,xc after] tysOK mixed func72 Q9S (call72) ⟨hk,xb⟩ ⟨⟨λh=>Qaa,nlr _,q6o⟩,xb⟩ Q9X xb Q9p ?_
 generalize hp:(λe:Ent=>e.has)=p
 repeat' (refine Ba ?_;first|refine Q5P ?_|fail)
 refine Ba ?_
 refine Bq (α:=EvS) (jpo E p) (λs=>E.length-s.r) (teSet E p) (teHs E p) (.no 0) [(0,0)] ⟨xi _,rfl⟩ ?_ ?_
 .repeat' (refine Ba ?_;first|refine Q5P ?_|exact Be|refine Q6q ?_|refine Q7n ?_|fail)
 intro s hs
 have hr:s.r<=E.length:=by cases s<;>exact hs.1
 by_cases hlt:s.r<E.length
 .cases s with
  | no r=>
   obtain⟨r1,r2⟩:=hs;have hlt:r<E.length:=hlt;have r2:evL E p r=[]:=r2;refine Q1i ?_;repeat' (refine Ba ?_;first|refine Q5P ?_|fail)
   rcases qdb (entT E r).has with hh|hh
   .have hpp:p (entT E r)≠true:=by rw[<-hp];show(entT E r).has≠true;rw[hh];decide
    have e1:evL E p (r+1)=evL E p r:=if_neg hpp;refine Q34 ?_;refine Bm (α:=EvS) (.no (r+1)) [(0,0)] (And.intro ⟨hlt,by show evL E p (r+1)=[];rw[e1,r2]⟩ Qan) ?_;exact Q1Q
   .have hpp:p (entT E r)=true:=by rw[<-hp];exact hh
    have e1:evL E p (r+1)=evL E p r++[(entT E r).node]:=if_pos hpp;refine Q33 ?_;refine qjp (.agg #[xc (entT E r).node]) Q8O Q9V Q9V Q9V λcap hcap=>?_
    refine Q01 ?_;rw[r2] at e1;refine Bm (α:=EvS) (.yes (r+1) cap) [(0,0),(3,1)] (And.intro ⟨hlt,by show 0<(evL E p (r+1)).length;rw[e1];exact nlr _,by show(evL E p (r+1)).length<=cap;rw[e1];exact hcap⟩ Qan) ?_;repeat' (refine Ba ?_;first|refine Q5P ?_|refine Bc Q88 ?_|refine Bc (qdr (by show(evL E p (r+1)).length=_;rw[e1];rfl) Q9S) ?_|refine Bc (qjb e1 hcap) ?_|exact Be|refine Q6q ?_|refine Q7n ?_|fail)
  | yes r c=>
   obtain⟨r1,r2,r3⟩:=hs;have hlt:r<E.length:=hlt;have r2:0<(evL E p r).length:=r2;have r3:(evL E p r).length<=c:=r3;have r4:=qja E p r;refine Q1i ?_;repeat' (refine Ba ?_;first|refine Q5P ?_|fail)
   rcases qdb (entT E r).has with hh|hh
   .have hpp:p (entT E r)≠true:=by rw[<-hp];show(entT E r).has≠true;rw[hh];decide
    have e1:evL E p (r+1)=evL E p r:=if_neg hpp;refine Q34 ?_;refine Bm (α:=EvS) (.yes (r+1) c) [(0,0),(1,1)] (And.intro ⟨hlt,by show 0<(evL E p (r+1)).length;rw[e1];exact r2,by show(evL E p (r+1)).length<=c;rw[e1];exact r3⟩ Qan) ?_;exact Q1Q
   .have hpp:p (entT E r)=true:=by rw[<-hp];exact hh
    have e1:evL E p (r+1)=evL E p r++[(entT E r).node]:=if_pos hpp;refine Q33 ?_;refine qlg (.agg #[xc (entT E r).node]) Q8O Q9S (by show _*1<=c*1;omega) Q9R Qbg (riC true c (setri (λi=>(evL E p r).getD i 0) (evL E p r).length (entT E r).node)) (λh=>jlj Q9R rfl) (λhr=>?_) (λhg2 cap hcap=>?_)
    .refine Q01 ?_;refine Bm (α:=EvS) (.yes (r+1) c) [(0,0),(1,1)] (And.intro ⟨hlt,by show 0<(evL E p (r+1)).length;rw[e1,xv];exact zG _ _,by show(evL E p (r+1)).length<=c;rw[e1,xv];exact hr⟩ Qan) ?_;repeat' (refine Ba ?_;first|refine Q5P ?_|refine Bc Q88 ?_|refine Bc Q9K ?_|refine Bc (qoq e1) ?_|exact Be|refine Q6q ?_|refine Q7n ?_|fail)
    .refine Q01 ?_;refine Bm (α:=EvS) (.yes (r+1) cap) [(0,0),(4,1)] (And.intro ⟨hlt,by show 0<(evL E p (r+1)).length;rw[e1,xv];exact zG _ _,by show(evL E p (r+1)).length<=cap;rw[e1,xv];exact hcap⟩ Qan) ?_;repeat' (refine Ba ?_;first|refine Q5P ?_|refine Bc Q88 ?_|refine Bc Q9K ?_|refine Bc (qkr e1 hcap r3) ?_|exact Be|refine Q6q ?_|refine Q7n ?_|fail)
 .cases s with
  | no r=>
   obtain⟨r1,r2⟩:=hs;have hlt:¬ r<E.length:=hlt;obtain rfl:r=E.length:=by omega
   have e0:jj5 E p=[]:=r2;rw[e0,q4r];refine Q40 ?_;refine Q01 ?_;refine Bb (qol _ _) ?_;exact Q2D
  | yes r c=>
   obtain⟨r1,r2,r3⟩:=hs;have hlt:¬ r<E.length:=hlt;obtain rfl:r=E.length:=by omega
   refine Q40 ?_;refine Q01 ?_;refine Bb (q08 after (evL E p E.length) c _ (q09 r3) (by show _<=c*1;omega) (by have:=qja E p E.length;omega) 1 _ Q9S) ?_;exact Q2D
open Go Go.RowKit Sx
theorem jrz(n a b:Int)(w:World):xa 193 #[xc n,xc a,xc b] w (.bool (decide (a<=n/\n<=b))):=by
 refine qac (G:=tys) w tysOK mixed func193 Q9S Q9U Q9T ?_;repeat' (refine Ba ?_;first|refine Q5P ?_|with_reducible refine Bj (λhb=>?_) (λhb=>?_)|fail)
 all_goals
  congr 1
  simp only[xh,xm,yk] at hb
  simp[hb]
theorem cIn(n a b:Int)(h:Hp):qae prog 193 [xc n,xc a,xc b] h (.bool (decide (a<=n/\n<=b))) [] []:=
 qai rfl rfl (call193 _) (jrz n a b)
def q6p(drift off g:Int):Prop:=(-1000<=drift/\drift<=1000)/\(0<=off/\off<=70368744177664)/\(0<=g/\g<=70368744177664)
instance(a b c:Int):Decidable (q6p a b c):=by unfold q6p;infer_instance
theorem mdv(a b c:Int)(h:Hp)(ha : -9223372036854775808<=a)(ha':a<9223372036854775808)(hb : -9223372036854775808<=b)(hb':b<9223372036854775808)(hc:0<c)(hcc:c<9223372036854775808)(q:Int)(hq:a*b / c=q)(q1 : -9223372036854775808<=q)(q2:q<9223372036854775808):qae prog 171 [xc a,xc b,xc c] h (.tuple #[xc q,xc 0]) [] []:=by
 obtain⟨n,rfl⟩:=yX (by omega:0<=c);have:=qst a b n h ha ha' hb hb' Q9R Q9R;exact Q50
theorem jqv(a b c:Int)(h:Hp)(ha : -9223372036854775808<=a)(ha':a<9223372036854775808)(hb : -9223372036854775808<=b)(hb':b<9223372036854775808)(hc:0<c)(hcc:c<9223372036854775808)(q:Int)(hq : -(-(a*b) / c)=q)(q1 : -9223372036854775808<=q)(q2:q<9223372036854775808):qae prog 172 [xc a,xc b,xc c] h (.tuple #[xc q,xc 0]) [] []:=by
 obtain⟨n,rfl⟩:=yX (by omega:0<=c);have:=qlt a b n h ha ha' hb hb' Q9R Q9R;exact Q50
theorem jfx(n:Int)(h1 : -9223372036854775808<=n)(h2:n<9223372036854775808):IntKind.i64.wrap n=n:=by rw[yu];omega
theorem q9v{a c:Int}(k:Int)(h0:0<=a)(hc:0<c)(h:a<=k*c):0<=a / c/\a / c<=k:=
 ⟨Int.ediv_nonneg h0 Q9R,by
  have:=Int.ediv_le_ediv hc h;rwa[Int.mul_ediv_cancel _ Q9R] at this⟩
def jg0(d x:Int):Int:=max 0 (d-1)*1000000 / (1000000+x)
def jg1(d x:Int):Int:=-(-((d+1)*1000000) / (1000000-x))
theorem q4s{a c k:Int}(h0:0<=a)(hc:0<c)(h:a<=k*c):0<=-(-a / c)/\-(-a / c)<=k:=by
 have h1 : -k<=-a / c:=Int.le_ediv_of_mul_le hc (by rw[Int.neg_mul];omega);have h2 : -a / c<=0:=by
  have:=Int.ediv_le_ediv hc (by omega : -a<=0);rwa[Int.zero_ediv] at this
 omega
theorem ql3(d x:Int)(hd:0<=d/\d<=70368744177664)(hx:0<=x/\x<=1000):0<=jg0 d x/\jg0 d x<=70368744177664:=by
 unfold jg0;exact q9v _ (yi Q9R Q9R) Q9R (yQ Q9R Q9R Q9R Q9R)
theorem ql4(d x:Int)(hd:0<=d/\d<=70368744177664)(hx:0<=x/\x<=1000):0<=jg1 d x/\jg1 d x<=140737488355330:=by
 unfold jg1;exact q4s (yi Q9R Q9R) Q9R Q9R
theorem jpp(d x:Int)(h:Hp)(hd:0<=d/\d<=70368744177664)(hx:0<=x/\x<=1000):qae prog 171 [xc (max 0 (IntKind.i64.wrap (d-1))),xc 1000000,xc (IntKind.i64.wrap (1000000+x))] h (.tuple #[xc (jg0 d x),xc 0]) [] []:=by
 rw[jfx (1000000+x) Q9R Q9R,jfx (d-1) Q9R Q9R];have:=ql3 d x hd hx;exact mdv _ _ _ _ Q9R Q9R Q9R Q9R Q9R Q9R _ rfl Q9R Q9R
theorem jpq(d x:Int)(h:Hp)(hd:0<=d/\d<=70368744177664)(hx:0<=x/\x<=1000):qae prog 172 [xc (IntKind.i64.wrap (d+1)),xc 1000000,xc (IntKind.i64.wrap (1000000-x))] h (.tuple #[xc (jg1 d x),xc 0]) [] []:=by
 rw[jfx (1000000-x) Q9R Q9R,jfx (d+1) Q9R Q9R];have:=ql4 d x hd hx;exact jqv _ _ _ _ Q9R Q9R Q9R Q9R Q9R Q9R _ rfl Q9R Q9R
def qd7(d x:Int):Prop:=(0<=d/\d<=70368744177664)/\(0<=x/\x<=1000)
instance(a b:Int):Decidable (qd7 a b):=by unfold qd7;infer_instance
def jho(d x:Int):Value:=.tuple #[xc (if qd7 d x then jg0 d x else 0),xc (if qd7 d x then jg1 d x else 0),xc (if qd7 d x then 0 else 1)]
theorem jdl(d x:Int)(w:World):xa 169 #[xc d,xc x] w (jho d x):=by
 refine qac (G:=tys) w tysOK mixed func169 Q9S Q9U Q9T ?_;repeat' (refine Ba ?_;first|refine Q5P ?_|with_reducible (first|refine Bb (cIn _ _ _ _) ?_|refine Bb (jpp _ _ _ Qak Qak) ?_|refine Bb (jpq _ _ _ Qak Qak) ?_)|refine Q6S ?_|refine Q66 ?_|with_reducible refine Bj (λhb=>?_) (λhb=>?_)|fail)
 all_goals simp only[zN,zr,xh,xm] at *
 .unfold jho;rw[if_neg (λh=>hb h.1),if_neg (λh=>hb h.1),if_neg (λh=>hb h.1)]
 .unfold jho;rw[if_neg (λh=>hb h.2),if_neg (λh=>hb h.2),if_neg (λh=>hb h.2)]
 .rename_i h1;have ho:qd7 d x:=⟨h1,hb⟩;unfold jho;rw[if_pos ho,if_pos ho,if_pos ho]
theorem jmx(a b:Int)(h:Hp):qae prog 169 [xc a,xc b] h (jho a b) [] []:=
 qai rfl rfl (call169 _) (jdl a b)
theorem q4t{d x:Int}(h:qd7 d x):jho d x=.tuple #[xc (jg0 d x),xc (jg1 d x),xc 0]:=by unfold jho;rw[if_pos h,if_pos h,if_pos h]
theorem qrk(a b:Int)(h:Hp)(ho:qd7 a b):qae prog 169 [xc a,xc b] h (.tuple #[xc (jg0 a b),xc (jg1 a b),xc 0]) [] []:=by
 rw[<-q4t ho];exact jmx a b h
open Go Go.RowKit Sx
theorem q4u(p q r s:Int)(w:World):xa 170 #[.agg #[xc p,xc q],.agg #[xc r,xc s]] w (.agg #[xc (IntKind.i64.wrap (p-s)),xc (IntKind.i64.wrap (q-r))]):=by
 refine qac (G:=tys) w tysOK mixed func170 Q9S Q9U Q9T ?_;repeat' (refine Ba ?_;first|refine Q5V ?_|refine Q5R ?_|fail)
 all_goals rfl
theorem jdm(p q r s:Int)(h:Hp):qae prog 170 [.agg #[xc p,xc q],.agg #[xc r,xc s]] h (.agg #[xc (IntKind.i64.wrap (p-s)),xc (IntKind.i64.wrap (q-r))]) [] []:=
 qai rfl rfl (call170 _) (q4u p q r s)
theorem jdn(n:Int)(h:Hp)(h1 : -4611686018427387904<=n)(h2:n<=4611686018427387904):qae prog 171 [xc n,xc 1,xc 2] h (.tuple #[xc (n / 2),xc 0]) [] []:=
 mdv _ _ _ _ Q9R Q9R Q9R Q9R Q9R Q9R _ (by rw[Int.mul_one]) Q9R Q9R
theorem q4v(n:Int)(h:Hp)(h1 : -4611686018427387904<=n)(h2:n<=4611686018427387904):qae prog 172 [xc n,xc 1,xc 2] h (.tuple #[xc (-(-n / 2)),xc 0]) [] []:=
 jqv _ _ _ _ Q9R Q9R Q9R Q9R Q9R Q9R _ (by rw[Int.mul_one]) Q9R Q9R
theorem ql5(a b:Int)(h:Hp)(ho:¬ qd7 a b):qae prog 169 [xc a,xc b] h (.tuple #[xc 0,xc 0,xc 1]) [] []:=by
 have:=jmx a b h;unfold jho at this;rwa[if_neg ho,if_neg ho,if_neg ho] at this
def jmy(ra db da rb dr sl:Int):Prop:=(0<=sl/\sl<=4194304)/\qd7 ra dr/\qd7 db dr/\qd7 rb dr/\qd7 da dr
instance(ra db da rb dr sl:Int):Decidable (jmy ra db da rb dr sl):=by unfold jmy;infer_instance
def jkh(ra db da rb dr sl:Int):Int:=max 0 (max (jg0 ra dr-jg1 db dr) (jg0 rb dr-jg1 da dr) / 2-sl)
def jki(ra db da rb dr sl:Int):Int:=-(-min (jg1 ra dr-jg0 db dr) (jg1 rb dr-jg0 da dr) / 2)+1+sl
def rgE(ra db da rb dr sl:Int):Int:=if jmy ra db da rb dr sl then (if jki ra db da rb dr sl<jkh ra db da rb dr sl then 3 else if jki ra db da rb dr sl > 4194304 then 2 else 0) else 1
def rgV(ra db da rb dr sl:Int):Value:=.tuple #[xc (if rgE ra db da rb dr sl=0 then jkh ra db da rb dr sl else 0),xc (if rgE ra db da rb dr sl=0 then jki ra db da rb dr sl else 0),xc (rgE ra db da rb dr sl)]
theorem qg3{ra db da rb dr sl:Int}(h:¬ jmy ra db da rb dr sl):Value.tuple ⟨[xc 0,xc 0,xc 1]⟩=rgV ra db da rb dr sl:=by
 have:rgE ra db da rb dr sl=1:=by unfold rgE;rw[if_neg h]
 unfold rgV;rw[this];rfl
theorem q1a(ra db da rb dr sl:Int)(w:World):xa 147 #[.agg #[xc ra,xc db,xc da,xc rb],xc dr,xc sl] w (rgV ra db da rb dr sl):=by
 refine qac (G:=tys) w tysOK mixed func147 Q9S Q9U Q9T ?_;repeat' (refine Ba ?_;first|refine Q5V ?_|refine Q5R ?_|with_reducible refine Bj (λhb=>?_) (λhb=>?_)|fail)
 .exact qg3 (λh=>by have:=h.2.1.2;simp at hb;omega)
 .exact qg3 (λh=>by have:=h.2.1.2;simp at hb;omega)
 .exact qg3 (λh=>by have:=h.1;simp at hb;omega)
 .exact qg3 (λh=>by have:=h.1;simp at hb;omega)
 .simp only[xh,xm] at *;rename_i g1 g2 g3;by_cases h0:qd7 ra dr
  .skip;by_cases h1:qd7 db dr
   .skip;by_cases h2:qd7 rb dr
    .skip;by_cases h3:qd7 da dr
     .skip;have s1:=ql3 ra dr h0.1 h0.2;have s2:=ql4 ra dr h0.1 h0.2;have s3:=ql3 db dr h1.1 h1.2;have s4:=ql4 db dr h1.1 h1.2;have s5:=ql3 rb dr h2.1 h2.2;have s6:=ql4 rb dr h2.1 h2.2;have s7:=ql3 da dr h3.1 h3.2;have s8:=ql4 da dr h3.1 h3.2;repeat' (refine Ba ?_;first|refine Q5V ?_|refine Q5R ?_|refine Bp 5 ?_|refine Q71 ?_|refine Q6f ?_|refine Q7P ?_|refine Q6S ?_|with_reducible (first|refine Bb (jdm _ _ _ _ _) ?_|refine Bb (jdn _ _ QaF QaF) ?_|refine Bb (q4v _ _ QaF QaF) ?_)|refine Q66 ?_|refine Q6c ?_|with_reducible refine Bj (λhb=>?_) (λhb=>?_)|fail)
      all_goals have ho:jmy ra db da rb dr sl:=⟨⟨by omega,by omega⟩,h0,h1,h2,h3⟩
      all_goals have w1:=jfx (jg1 ra dr-jg0 db dr) Q9R Q9R
      all_goals have w2:=jfx (jg1 rb dr-jg0 da dr) Q9R Q9R
      all_goals have w3:=jfx (jg0 ra dr-jg1 db dr) Q9R Q9R
      all_goals have w4:=jfx (jg0 rb dr-jg1 da dr) Q9R Q9R
      all_goals have eLo:max 0 (IntKind.i64.wrap (max (IntKind.i64.wrap (jg0 ra dr-jg1 db dr)) (IntKind.i64.wrap (jg0 rb dr-jg1 da dr)) / 2-sl))=jkh ra db da rb dr sl:=by rw[w3,w4,jfx _ Q9R Q9R];rfl
      all_goals have eHi:IntKind.i64.wrap (IntKind.i64.wrap (-(-min (IntKind.i64.wrap (jg1 ra dr-jg0 db dr)) (IntKind.i64.wrap (jg1 rb dr-jg0 da dr)) / 2)+1)+sl)=jki ra db da rb dr sl:=by rw[w1,w2,jfx (-(-min (jg1 ra dr-jg0 db dr) (jg1 rb dr-jg0 da dr) / 2)+1) Q9R Q9R,jfx _ Q9R Q9R];rfl
      all_goals rw[eHi] at hb
      .rw[eLo,xh] at hb;have e:rgE ra db da rb dr sl=3:=by unfold rgE;rw[if_pos ho,if_pos hb]
       unfold rgV;rw[e];rfl
      .rename_i k;rw[eHi,eLo,xm] at k;rw[xh] at hb;have e:rgE ra db da rb dr sl=2:=by unfold rgE;rw[if_pos ho,if_neg k,if_pos hb]
       unfold rgV;rw[e];rfl
      .rename_i k;rw[eHi,eLo,xm] at k;rw[xm] at hb;have e:rgE ra db da rb dr sl=0:=by unfold rgE;rw[if_pos ho,if_neg k,if_neg hb]
       rw[eLo,eHi];unfold rgV;rw[e];rfl
     .refine Q0E ?_;exact qg3 (λh=>h3 h.2.2.2.2)
    .refine Q0E ?_;exact qg3 (λh=>h2 h.2.2.2.1)
   .refine Q0E ?_;exact qg3 (λh=>h1 h.2.2.1)
  .refine Q0E ?_;exact qg3 (λh=>h0 h.2.1)
theorem q6q(ra db da rb dr sl:Int)(h:Hp):qae prog 147 [.agg #[xc ra,xc db,xc da,xc rb],xc dr,xc sl] h (rgV ra db da rb dr sl) [] []:=
 qai rfl rfl (call147 _) (q1a ra db da rb dr sl)
structure jpr(c:Chunk)(i:Nat)(now fine:Int):Prop where
 n:3<=c.n
 f:∀j,j<3->c.f j=(sdV i now fine).f j
theorem jdo(i:Nat)(now fine:Int)(o:Value):jpr (sdC i now fine o) i now fine:=⟨xT rfl,lt3 rfl rfl rfl⟩
theorem jdp{c:Chunk}{i i':Nat}{now fine:Int}(h:jpr c i now fine)(hi:ixK ix i'=some i):qbg ix c (sdV i' now fine):=λj hj=>by
 have hj:j<3:=hj;rw[h.f j hj];exact lt3 (p:=λj=>Re1 ix ((sdV i now fine).f j) ((sdV i' now fine).f j)) (.ptr hi) (.plain rfl) (.plain rfl) j hj
abbrev hdV(f:Frm)(at_:Int)(i:Nat):Value:=.agg ⟨[xc f.k,xc f.s,xc f.b,xc f.q,xc f.st,xc f.ds,xc f.t1,xc f.t2,xc f.wh,xc f.wn,xc f.x,xc f.y,xc f.a,xc f.c,xc f.d,xc at_,xd i]⟩
abbrev Frm.el(f:Frm):El:=⟨f.x,f.y,f.a,f.c,f.d⟩
def qb6(D:NdS)(F:Flr)(T:Tbl)(f:Frm)(now:Int):Flr×Tbl:=
 if f.wh=D.id then (if (qcq f.el f.wn now (D.C 2) (D.C 4)).2=0 then F.meet (qcq f.el f.wn now (D.C 2) (D.C 4)).1 else F,T)
 else (F,match dGet T.E f.wh with|some _=>ji4 D.C T f.wh f.el f.wn now|none=>T)
def qjd(D:NdS)(stamp now:Int):Int:=2*D.C 2*qfb stamp now (D.C 4)
def qcx(D:NdS)(F:Flr)(T:Tbl)(k ra db da rb stamp now:Int):Flr:=
 if (qdf D.C T k now).2=true/\qjd D stamp now<=4194304/\rgE ra db da rb (D.C 5) (qjd D stamp now)=0 then F.range (qdf D.C T k now).1 (jkh ra db da rb (D.C 5) (qjd D stamp now)) (jki ra db da rb (D.C 5) (qjd D stamp now)) else F
theorem q4w(w now k:Int):qfb w now k<=3000001:=by
 unfold qfb;split
 .rename_i h;have a1:=h.1.1;have a2:=h.2.1.2;have a3:=h.2.2.2;have a4:=h.2.2.1;omega
 .omega
theorem qws{D:NdS}(hC:0<=D.C 2/\D.C 2<=1000)(stamp now:Int):IntKind.i64.wrap (IntKind.i64.wrap (2*D.C 2)*qfb stamp now (D.C 4))=qjd D stamp now:=by
 have h1:=qre stamp now (D.C 4);have h2:=q4w stamp now (D.C 4);have h3:2*D.C 2*qfb stamp now (D.C 4)<=2000*3000001:=yQ Q9R h2 h1 Q9V;have h4:0<=2*D.C 2*qfb stamp now (D.C 4):=yi Q9R h1;rw[je5 (2*D.C 2) Q9R Q9R,je5 _ Q9R Q9R];rfl
theorem jdq{ra db da rb dr sl:Int}(h:rgE ra db da rb dr sl=0):jhr (jkh ra db da rb dr sl) (jki ra db da rb dr sl):=by
 unfold rgE at h;split at h
 .split at h
  .exact absurd h Q9V
  .split at h
   .exact absurd h Q9V
   .exact⟨by unfold jkh;omega,by omega,by omega⟩
 .exact absurd h Q9V
theorem q9w(ra db da rb dr sl sl':Int)(h:Hp)(e:sl'=sl)(ho:rgE ra db da rb dr sl=0):qae prog 147 [.agg #[xc ra,xc db,xc da,xc rb],xc dr,xc sl'] h (.tuple #[xc (jkh ra db da rb dr sl),xc (jki ra db da rb dr sl),xc 0]) [] []:=by
 subst e;have:=q6q ra db da rb dr sl' h;unfold rgV at this;rw[if_pos ho,if_pos ho,ho] at this;exact this
theorem q9x(ra db da rb dr sl sl':Int)(h:Hp)(e:sl'=sl)(ho:¬ rgE ra db da rb dr sl=0):qae prog 147 [.agg #[xc ra,xc db,xc da,xc rb],xc dr,xc sl'] h (.tuple #[xc 0,xc 0,xc (rgE ra db da rb dr sl)]) [] []:=by
 subst e;have:=q6q ra db da rb dr sl' h;unfold rgV at this;rw[if_neg ho,if_neg ho] at this;exact this
theorem qwt(D:NdS)(F:Flr)(T:Tbl)(c0 c1:Chunk)(f:Frm)(at_ now fine:Int)(hF:F.valid=true->F.e.may)(hw:0<=f.wh/\f.wh<64)(i0 i1 i2 i3:Nat)(hs:jpr c0 i1 now fine)(hc:jj1 c1 D i2 i3)(h:Hp)(h0:h[i0]?=some (some c0))(h1:h[i1]?=some (some c1))(h2:h[i2]?=some (some (fiF F)))(h3:h[i3]?=some (some (tblC T)))(hne:[i0,i1,i2,i3].Nodup):
  qae prog 86 [xd i1,hdV f at_ i0] h (.tuple #[]) [(i2,fiF (qb6 D F T f now).1),(i3,tblC (qb6 D F T f now).2)] [i0,i1]:=by
 refine qar (G:=tys) (h:=h) (vs:=[xd i1,hdV f at_ i0]) (λ_:Unit=>True) (λ_=>_) [⟨i0,_,sdV 1 now fine,noC⟩,⟨i1,_,ndV D 2 3,noC⟩,⟨i2,fiF F,fiF F,fiF (qb6 D F T f now).1⟩,⟨i3,tblC T,tblC T,tblC (qb6 D F T f now).2⟩] [] [xd 1,hdV f at_ 0] tysOK mixed func86 Q9S (call86) ⟨h0,h1,h2,h3,xb⟩
  ⟨⟨λh=>Qaa,hs.n,jdp hs Q9S⟩,Q8T,Q8t,Q7X,xb⟩ (by
   simp only[xL,xj,xK,not_or,xI,or_false,and_true] at hne;simp[Apart];omega) ⟨.inl rfl,.inl rfl,.inl rfl,.inr ⟨rfl,rfl⟩,xb⟩ xb ⟨.ptr Q9S,.agg ⟨.plain rfl,.plain rfl,.plain rfl,.plain rfl,.plain rfl,.plain rfl,.plain rfl,.plain rfl,.plain rfl,.plain rfl,.plain rfl,.plain rfl,.plain rfl,.plain rfl,.plain rfl,.plain rfl,.ptr Q9S,xb⟩,xb⟩ Opens.same ?_
 rintro⟨⟩ -
 by_cases hid:f.wh=D.id
 .by_cases hz:(qcq f.el f.wn now (D.C 2) (D.C 4)).2=0
  .have hz2:=qrf hz;rw[show qb6 D F T f now=(F.meet (qcq f.el f.wn now (D.C 2) (D.C 4)).1,T) by unfold qb6;rw[if_pos hid,if_pos hz]];repeat' (refine Ba ?_;first|refine Q5P ?_|refine Bg (ei hid) ?_|refine Bb (jj2 D 2 3 _ (qj9 D 2 3) f.el f.wn now 1 _ Q9S) ?_|refine Bg (ei hz) ?_|refine Bb (q9e F _ hF hz2.2 2 _ Q9S) ?_|fail)
   exact Q2C
  .rw[show qb6 D F T f now=(F,T) by unfold qb6;rw[if_pos hid,if_neg hz]];repeat' (refine Ba ?_;first|refine Q5P ?_|refine Bg (ei hid) ?_|refine Bb (jj2 D 2 3 _ (qj9 D 2 3) f.el f.wn now 1 _ Q9S) ?_|refine Bf (en hz) ?_|fail)
   exact Q2C
 .cases hd:dGet T.E f.wh with
  | none=>
   rw[show qb6 D F T f now=(F,T) by unfold qb6;rw[if_neg hid,hd]];repeat' (refine Ba ?_;first|refine Q5P ?_|refine Bf (en hid) ?_|refine Bb (jk2 T f.wh hd 3 _ Q9S) ?_|fail)
   exact Q2C
  | some e=>
   rw[show qb6 D F T f now=(F,ji4 D.C T f.wh f.el f.wn now) by unfold qb6;rw[if_neg hid,hd]];repeat' (refine Ba ?_;first|refine Q5P ?_|refine Bf (en hid) ?_|refine Bb (jk1 T f.wh e hd 3 _ Q9S) ?_|refine Bb (q6l D T _ _ f.wh f.el f.wn now Q9R 1 2 3 (qj9 D 2 3) _ Q9S Q9S Q9S Q9V) ?_|fail)
   exact Q2C
theorem qs1(D:NdS)(F:Flr)(T:Tbl)(c1:Chunk)(k ra db da rb stamp now:Int)(hF:F.valid=true->F.e.may)(hC:0<=D.C 2/\D.C 2<=1000)(i1 i2 i3:Nat)(hc:jj1 c1 D i2 i3)(h:Hp)(h1:h[i1]?=some (some c1))(h2:h[i2]?=some (some (fiF F)))(h3:h[i3]?=some (some (tblC T)))(hne:[i1,i2,i3].Nodup):
  qae prog 126 [xd i1,xc k,.agg #[xc ra,xc db,xc da,xc rb],xc stamp,xc now] h (.tuple #[]) [(i2,fiF (qcx D F T k ra db da rb stamp now)),(i3,tblC T)] [i1]:=by
 refine qar (G:=tys) (h:=h) (vs:=[xd i1,xc k,.agg #[xc ra,xc db,xc da,xc rb],xc stamp,xc now]) (λ_:Unit=>True) (λ_=>_) [⟨i1,_,ndV D 1 2,noC⟩,⟨i2,fiF F,fiF F,fiF (qcx D F T k ra db da rb stamp now)⟩,⟨i3,tblC T,tblC T,tblC T⟩] [] [xd 0,xc k,.agg #[xc ra,xc db,xc da,xc rb],xc stamp,xc now] tysOK mixed func126 Q9S (call126) ⟨h1,h2,h3,xb⟩
  ⟨Q8T,Q8t,Q7X,xb⟩ (by
   simp only[xL,xj,xK,not_or,xI,or_false,and_true] at hne;simp[Apart];omega) ⟨.inl rfl,.inl rfl,.inr ⟨rfl,rfl⟩,xb⟩ xb ⟨.ptr Q9S,.plain rfl,.plain rfl,.plain rfl,.plain rfl,xb⟩ Opens.same ?_
 rintro⟨⟩ -
 have hw:=qws hC stamp now
 repeat' (refine Ba ?_;first|refine Q5P ?_|fail)
 refine Ba ?_
 refine Bb Q9J ?_
 repeat' (refine Ba ?_;first|refine Q5P ?_|fail)
 refine Ba ?_
 refine Bb (q6k stamp now _ _) ?_
 rcases qdb (qdf D.C T k now).2 with hb|hb
 .rw[show qcx D F T k ra db da rb stamp now=F from if_neg (λh=>by rw[hb] at h;exact absurd h.1 Q9V)];exact Q2g
 .by_cases hsl:qjd D stamp now<=4194304;rotate_left
  .rw[show qcx D F T k ra db da rb stamp now=F from if_neg (λh=>hsl h.2.1)];exact Q2g
  .by_cases hz:rgE ra db da rb (D.C 5) (qjd D stamp now)=0
   .rw[show qcx D F T k ra db da rb stamp now=F.range (qdf D.C T k now).1 (jkh ra db da rb (D.C 5) (qjd D stamp now)) (jki ra db da rb (D.C 5) (qjd D stamp now)) from if_pos ⟨hb,hsl,hz⟩];repeat' (refine Ba ?_;first|refine Q5P ?_|refine Q7U ?_|refine Bf (by rw[hb];rfl) ?_|refine Bb (q9w ra db da rb (D.C 5) _ _ _ hw hz) ?_|refine Q6c ?_|refine Bb (q4e F _ _ _ hF (qho hb) (jdq hz) 1 _ Q9S) ?_|fail)
    refine Q19 ?_;exact Q1V
   .rw[show qcx D F T k ra db da rb stamp now=F from if_neg (λh=>hz h.2.2)];repeat' (refine Ba ?_;first|refine Q5P ?_|refine Q7U ?_|refine Bf (by rw[hb];rfl) ?_|refine Bb (q9x ra db da rb (D.C 5) _ _ _ hw hz) ?_|refine Bf (en hz) ?_|fail)
    refine Q19 ?_;exact Q1V
open Go Go.RowKit Sx
theorem qrl{q:Nat×Nat}{k:Nat}:∀vs:List Value,All2 (AtRe q k) vs vs
 | []=>trivial
 | v::vs=>⟨.same v,qrl vs⟩
theorem qh0{g:FuncId}{rest:List Value}{V:Value}(gg:Rz)(S:Nat->Ses)(m:Nat)(hm:m<64)(s':Ses)(i k:Nat){o:Bool}(hV:qam V=true){h:Hp}(hi:h[i]?=some (some (@Chunk.mk (jfb jfo 64 gg S) o n ps)))(hk:h[k]?=some none)
  (hc:∀(k:Nat)(h:Hp),h[k]?=some (some (sesP (S m)))->qae prog g (xd k::rest) h V [(k,sesP s')] []) :
  CallAll prog g (jfd (gg m)::rest) h λv ms=>v=V/\ms=[(i,@Chunk.mk (jfb jfo 64 gg (upd S m s')) o n ps)]:=by
 have hkl:=(xe.1 hk).1
 have key:=hc k ((h.set i (some (@Chunk.mk (wandX (λa=>jfb jfo 64 gg (upd S m a)) jfo (gg m)) o n ps))).set k (some (@Chunk.mk (jfo (S m)) true 0 []))) (xw QaG)
 rw[<-qut S m] at hi
 refine qzt (vs':=xd k::rest) (Y:=λa=>jfb jfo 64 gg (upd S m a)) (Z:=jfo) (q:=gg m) (a:=S m) i k hi hk (qzv jfo gg S hm (S m) rfl) qco ⟨.ptr,qrl rest⟩ (qc1 key) λv ms hR=>?_
 obtain⟨rfl,rfl⟩:=hR
 refine⟨s',[],?_,(λm hm=>by cases hm),(λr r' _=>by rw[qa5 hV,qa5 hV]),rfl,rfl⟩
 show List.set _ _ _=List.set _ _ _
 rw[zm]
theorem jps(gg:Rz)(S:Nat->Ses)(m:Nat)(hm:m<64)(t p:Int)(i k:Nat){o:Bool}{h:Hp}(hi:h[i]?=some (some (@Chunk.mk (jfb jfo 64 gg S) o n ps)))(hk:h[k]?=some none):CallAll prog 75 [jfd (gg m),xc t,xc p] h λv ms=>v=.tuple #[]/\ms=[(i,@Chunk.mk (jfb jfo 64 gg (upd S m ((S m).poll t p))) o n ps)]:=
 qh0 gg S m hm _ i k rfl hi hk λk h hk=>q3m (S m) t p k h hk
theorem qoy(gg:Rz)(S:Nat->Ses)(m:Nat)(hm:m<64)(t p:Int)(i k:Nat){o:Bool}{h:Hp}(hi:h[i]?=some (some (@Chunk.mk (jfb jfo 64 gg S) o n ps)))(hk:h[k]?=some none):CallAll prog 121 [jfd (gg m),xc t,xc p] h λv ms=>v=.tuple #[]/\ms=[(i,@Chunk.mk (jfb jfo 64 gg (upd S m ((S m).gotPoll t p))) o n ps)]:=
 qh0 gg S m hm _ i k rfl hi hk λk h hk=>qsr (S m) t p k h hk
theorem ql6(gg:Rz)(S:Nat->Ses)(m:Nat)(hm:m<64)(t p:Int)(hP:(S m).gotRespP t p)(i k:Nat){o:Bool}{h:Hp}(hi:h[i]?=some (some (@Chunk.mk (jfb jfo 64 gg S) o n ps)))(hk:h[k]?=some none):CallAll prog 123 [jfd (gg m),xc t,xc p] h λv ms=>v=.bool true/\ms=[(i,@Chunk.mk (jfb jfo 64 gg (upd S m ⟨⟨2,(S m).a.fr,t,(S m).a.mr,(S m).a.sp⟩,(S m).b⟩)) o n ps)]:=
 qh0 gg S m hm _ i k rfl hi hk λk h hk=>qqy (S m) t p hP k h hk
theorem q1b(gg:Rz)(S:Nat->Ses)(m:Nat)(hm:m<64)(t p:Int)(hP:¬ (S m).gotRespP t p)(i k:Nat){o:Bool}{h:Hp}(hi:h[i]?=some (some (@Chunk.mk (jfb jfo 64 gg S) o n ps)))(hk:h[k]?=some none):CallAll prog 123 [jfd (gg m),xc t,xc p] h λv ms=>v=.bool false/\ms=[(i,@Chunk.mk (jfb jfo 64 gg (upd S m (S m))) o n ps)]:=
 qh0 gg S m hm _ i k rfl hi hk λk h hk=>qqz (S m) t p hP k h hk
theorem q1c(gg:Rz)(S:Nat->Ses)(m:Nat)(hm:m<64)(t:Int)(hP:(S m).a.endP t)(i k:Nat){o:Bool}{h:Hp}(hi:h[i]?=some (some (@Chunk.mk (jfb jfo 64 gg S) o n ps)))(hk:h[k]?=some none):CallAll prog 124 [jfd (gg m),xc t] h λv ms=>v=.tuple #[xc (IntKind.i64.wrap ((S m).a.to-(S m).a.fr)),xc (IntKind.i64.wrap (t-(S m).a.to)),.bool true]/\ms=[(i,@Chunk.mk (jfb jfo 64 gg (upd S m ⟨Half.o,(S m).b⟩)) o n ps)]:=
 qh0 gg S m hm _ i k rfl hi hk λk h hk=>qwe (S m) t hP k h hk
theorem q9y(gg:Rz)(S:Nat->Ses)(m:Nat)(hm:m<64)(t:Int)(hP:¬ (S m).a.endP t)(i k:Nat){o:Bool}{h:Hp}(hi:h[i]?=some (some (@Chunk.mk (jfb jfo 64 gg S) o n ps)))(hk:h[k]?=some none):CallAll prog 124 [jfd (gg m),xc t] h λv ms=>v=.tuple #[xc 0,xc 0,.bool false]/\ms=[(i,@Chunk.mk (jfb jfo 64 gg (upd S m (S m))) o n ps)]:=
 qh0 gg S m hm _ i k rfl hi hk λk h hk=>qwf (S m) t hP k h hk
theorem jdr(gg:Rz)(S:Nat->Ses)(m:Nat)(hm:m<64)(t p:Int)(hP:(S m).b.ansP t)(i k:Nat){o:Bool}{h:Hp}(hi:h[i]?=some (some (@Chunk.mk (jfb jfo 64 gg S) o n ps)))(hk:h[k]?=some none):CallAll prog 122 [jfd (gg m),xc t,xc p] h λv ms=>v=.bool true/\ms=[(i,@Chunk.mk (jfb jfo 64 gg (upd S m ⟨(S m).a,⟨2,(S m).b.fr,t,p,(S m).b.sp⟩⟩)) o n ps)]:=
 qh0 gg S m hm _ i k rfl hi hk λk h hk=>qzr (S m) t p hP k h hk
theorem jds(gg:Rz)(S:Nat->Ses)(m:Nat)(hm:m<64)(t p:Int)(hP:¬ (S m).b.ansP t)(i k:Nat){o:Bool}{h:Hp}(hi:h[i]?=some (some (@Chunk.mk (jfb jfo 64 gg S) o n ps)))(hk:h[k]?=some none):CallAll prog 122 [jfd (gg m),xc t,xc p] h λv ms=>v=.bool false/\ms=[(i,@Chunk.mk (jfb jfo 64 gg (upd S m (S m))) o n ps)]:=
 qh0 gg S m hm _ i k rfl hi hk λk h hk=>qzs (S m) t p hP k h hk
theorem qwu(gg:Rz)(S:Nat->Ses)(m:Nat)(hm:m<64)(t r d p:Int)(hP:(S m).gotFinalP t p)(i k:Nat){o:Bool}{h:Hp}(hi:h[i]?=some (some (@Chunk.mk (jfb jfo 64 gg S) o n ps)))(hk:h[k]?=some none):CallAll prog 125 [jfd (gg m),xc t,xc r,xc d,xc p] h λv ms=>v=.tuple #[.agg #[xc r,xc (IntKind.i64.wrap ((S m).b.to-(S m).b.fr)),xc d,xc (IntKind.i64.wrap (t-(S m).b.to))],xc (S m).b.sp,.bool true]/\ms=[(i,@Chunk.mk (jfb jfo 64 gg (upd S m ⟨(S m).a,Half.o⟩)) o n ps)]:=
 qh0 gg S m hm _ i k rfl hi hk λk h hk=>qoj (S m) t r d p hP k h hk
theorem qwv(gg:Rz)(S:Nat->Ses)(m:Nat)(hm:m<64)(t r d p:Int)(hP:¬ (S m).gotFinalP t p)(i k:Nat){o:Bool}{h:Hp}(hi:h[i]?=some (some (@Chunk.mk (jfb jfo 64 gg S) o n ps)))(hk:h[k]?=some none):CallAll prog 125 [jfd (gg m),xc t,xc r,xc d,xc p] h λv ms=>v=.tuple #[.agg #[xc 0,xc 0,xc 0,xc 0],xc 0,.bool false]/\ms=[(i,@Chunk.mk (jfb jfo 64 gg (upd S m (S m))) o n ps)]:=
 qh0 gg S m hm _ i k rfl hi hk λk h hk=>qok (S m) t r d p hP k h hk
end Go.Proofs.YtfkngpmgcimdbaaGreat
