/-
  The walks of clock: in, between, Local, Fine, Span.
-/
import Derived.Test.YtfkngpmgcimdbaaGreatRows
import Derived.Laws.BytesArg
import Derived.Laws.OwnMore
import Derived.Laws.IdiomCopy
import Derived.Test.YtfkngpmgcimdbaaGreatM8
set_option linter.unusedVariables false
set_option linter.unusedSimpArgs false
set_option maxRecDepth 100000
set_option maxHeartbeats 20000000
open Go.IntKind
theorem Go.Proofs.zx:type_of% @List.append_assoc:=@List.append_assoc
open Go.Proofs.Tryz
namespace Go.Proofs
section
variable {Z Y:Prop}
theorem Q04(h:Z:=by
 refine qac (G:=tys) w tysOK mixed func59 Q8I Q8I Q8I ?_
 repeat' (refine Bb ?_;first|refine Q55 ?_|refine Bc (qgw f _) ?_|refine Bc (qcp _ _) ?_|refine Bc (jl1 _ _ _) ?_|refine B6 _ (qgx _ _ _ _ _ _ _ _ _ _ _ _) ?_|refine Bf (xi g_own) ?_|refine Be (xf n_own) ?_|refine Bf (xi g_s) ?_|refine Be (xf n_s) ?_|refine Bf (xi g_b) ?_|refine Be (xf n_b) ?_|refine Bf (xi g_q) ?_|refine Be (xf n_q) ?_|refine Bf (xi g_st) ?_|refine Be (xf n_st) ?_|refine Bf (kY g_ds) ?_|refine Be (kN n_ds) ?_|refine Bf (kY g_t1) ?_|refine Be (kN n_t1) ?_|refine Bf (kY g_t2) ?_|refine Be (kN n_t2) ?_|refine Bf (kY g_wh) ?_|refine Be (kN n_wh) ?_|refine Bf (kY g_wn) ?_|refine Be (kN n_wn) ?_|fail)
 all_goals rfl):Z:=h
theorem Q0a(h:Z:=by
 refine qac (G:=tys) w tysOK mixed func91 Q8I Q8K Q8J ?_;repeat' (refine Bb ?_;first|refine Q55 ?_|refine Q5b ?_|with_reducible refine Bp (fun hb=>?_) (fun hb=>?_)|refine Bc (qcp _ _) ?_|refine Bc (jl1 _ _ _) ?_|refine Bc (jd6 _ _ _ _ _ _) ?_|fail)
 all_goals
  refine jqy ?_
  simp only[xh,xk,xJ,false_iff,true_iff,iff_true,iff_false,reduceCtorEq,yq,xK,yr,yb,bne_iff_ne,ne_eq,bne_eq_false_iff_eq] at *
  try first|omega|exact⟨fun hh=>⟨by assumption,by assumption,by assumption,hh⟩,fun hh=>hh.2.2.2⟩):Z:=h
theorem Q0u(k:Y)(h:Wr Y->Z:=by
 intro kQ;repeat' (refine Bb ?_;first|refine Q56 ?_|refine Q5F ?_|refine Q5f ?_|with_reducible (first|refine Bc (qrg _ _ _ Q92) ?_|refine Bc (qlz _ _ _ Q92) ?_)|refine Q5b ?_|fail)
 exact kQ.o):Z:=h ⟨k⟩
theorem Q0H(h:Z:=by repeat' (refine Bb ?_;first|refine Q55 ?_|exact Bg|refine Q5q ?_|refine Ba (qc3 (qcb ek) rfl) ?_|refine Ba (qc3 (qcb es) rfl) ?_|refine Ba qfj ?_|refine Ba (.one .quo) ?_|fail)):Z:=h
theorem Q0O(k:Y)(h:Wr Y->Z:=by
 intro kQ;refine Bb ?_;refine Bq ?_;refine Q3D ?_;refine Ba ⟨⟨_,rfl,id,nlr _,re7⟩,⟨_,rfl,id,nlr _,nzj⟩,xb⟩ ?_;refine Ba xb ?_;exact kQ.o):Z:=h ⟨k⟩
theorem Q0W(h:Z:=by
 repeat' (refine Bb ?_;first|refine Q55 ?_|refine Bf ho ?_|refine Be (eq_false_of_ne_true ho) ?_|refine Q6i ?_|fail)
 refine Bb ?_;refine N.next (α:=Nat) (m+1) ⟨hm8,by show 8-(m+1)<8-m;omega⟩ ?_;exact Q1V):Z:=h
theorem Q19(h:Z:=by
 refine⟨Evo.refl _ _,fun i hi=>⟨⟨_,by
   have hi:i<1:=hi;obtain rfl:i=0:=by omega
   rfl⟩,rfl⟩,fun k d hk=>hW,fun k d hk j hj=>?_,fun k d hk ho j hj=>?_,fun k d l e hk ho hl hne=>?_,fun i b=>i=0/\b<W.heap.size,fun k d hk=>?_,fun k d b hk hS=>?_,fun k d b l e hk hS hl hne=>?_⟩
 ·exact Q54
 ·exact Q54
 ·exact absurd ((one k d hk).1.trans (one l e hl).1.symm) hne
 ·obtain⟨rfl,rfl⟩:=one k d hk;refine⟨yz,(fun r hr=>by cases hr),fun W' hW'=>?_⟩;rw[hz] at hW';obtain rfl:=Option.some.inj hW';exact⟨hW,nlr _,fun b hb=>⟨⟨rfl,hb⟩,rfl⟩⟩
 ·obtain⟨rfl,rfl⟩:=one k d hk;exact⟨.inl rfl,hS.2,.inr ⟨hS.2,fun _=>hS.2⟩⟩
 ·exact absurd ((one l e hl).1.trans (one k d hk).1.symm) hne):Z:=h
theorem Q1i(k:Y)(h:Wr Y->Z:=by
 intro kQ;repeat' (refine Bb ?_;first|refine Q55 ?_|refine Q6i ?_|refine Q61 ?_|fail)
 refine Bb ?_;exact kQ.o):Z:=h ⟨k⟩
theorem Q1B(h:Z:=by
 repeat' (refine Bb ?_;first|refine Q55 ?_|with_reducible refine Bp (fun hb=>?_) (fun hb=>?_)|fail)
 all_goals
  refine jfk ?_
  simp only[xh,xk,xJ,false_iff,true_iff,iff_true,iff_false,reduceCtorEq,yq,xK,yr,yb] at *
  omega):Z:=h
theorem Q1G(h:Z:=by
 repeat' (refine Bb ?_;first|refine Q55 ?_|refine Bf (by rw[hw,xh];omega) ?_|refine Bf (by rw[hb];rfl) ?_|refine Be (by rw[hb];rfl) ?_|fail)
 refine Q0O ?_;exact Q4k):Z:=h
theorem Q1Q(h:Z:=by repeat' (refine Bb ?_;first|refine Q55 ?_|exact Bg|refine Q5q ?_|refine Ba (qc3 (qcb ek) rfl) ?_|refine Ba qfj ?_|refine Ba (.one .quo) ?_|refine Ba (.one (.any (fun _ _=>rfl) fun _ _=>rfl)) ?_|fail)):Z:=h
theorem Q1V(h:Z:=by repeat' (refine Bb ?_;first|refine Q55 ?_|exact Bg|refine Ba (congrArg (Value.int .u32) es) ?_|refine Ba (congrArg (Value.int .i64) em) ?_|refine Ba (ChunkLe.refl _) ?_|fail)):Z:=h
theorem Q25(h:Z:=by repeat' (refine Bb ?_;first|refine Q55 ?_|exact Bg|refine Q5q ?_|refine Ba (qc3 (qcb ek) rfl) ?_|refine Ba qfj ?_|refine Ba (.one .quo) ?_|fail)):Z:=h
theorem Q2g(h:Z:=by
 refine Q0O ?_;refine Ba ⟨⟨.inl rfl,.inl rfl,.inl rfl,.inr ⟨_,rfl,rfl⟩,xb⟩,xb⟩ ?_;exact Bg):Z:=h
theorem Q2i(k:Y)(h:Wr Y->Z:=by
 intro kQ;repeat' (refine Bb ?_;first|refine Q55 ?_|refine Q6i ?_|refine Ba (by rw[e8];omega) ?_|fail)
 refine Bb ?_;exact kQ.o):Z:=h ⟨k⟩
theorem Q2l(h:Z:=by
 intro X ρ w2 xs H hx;rcases key X ρ w2 xs H hx with ⟨v,w',hr',u,ms,ρ',⟨κ,hκ,rfl,rfl⟩,ha⟩|⟨hr',hcl⟩
 ·exact .inl ⟨v,w',hr',_,_,ρ',⟨κ,hκ,rfl,rfl⟩,ha⟩
 ·refine .inr ⟨hr',hcl.mono ?_⟩;rintro e w' ⟨y,he,u,ms,ρ',⟨κ,hκ,rfl,rfl⟩,ha⟩;exact⟨y,he,_,_,ρ',⟨κ,hκ,rfl,rfl⟩,ha⟩):Z:=h
theorem Q2t(h:Z:=by
 refine CallAll.soft key fun v ms hR=>?_
 obtain⟨κ,_,rfl,rfl⟩:=hR;refine⟨i,rvX (κ::R),rvX R,true,0,[],[(i,rvC R)],?_,q0x (List.sublist_cons_self ..),?_,rfl,rfl⟩
 ·show(h.set i _)[i]?=_;rw[xx hil]
 ·show(h.set i _).set i _=h.set i _;rw[yZ]):Z:=h
theorem Q2K(h:Z:=by
 match k,h with
 | 0,_=>rfl
 | 1,_=>rfl
 | 2,_=>rfl
 | 3,_=>rfl
 | 4,_=>rfl
 | 5,_=>rfl
 | 6,_=>rfl
 | 7,_=>rfl
 | 8,_=>rfl
 | 9,_=>rfl
 | 10,_=>rfl
 | 11,_=>rfl
 | 12,_=>rfl
 | 13,_=>rfl
 | 14,_=>rfl
 | 15,_=>rfl
 | k+16,h=>exact absurd h Q8G):Z:=h
theorem Q3q(h:Z:=by
 obtain⟨b1,b2,b3⟩:=V.base W hW;exact⟨b1,xF b2 hB.size,fun b hb=>⟨.inl (b3 b hb).1,(hB.block b (xj hb b2)).trans (b3 b hb).2⟩⟩):Z:=h
theorem Q3G(h:Z:=by
 simp[execOp,ho,resolve,invoke,builtin,hx',uR,uN,Builtin.len_,Sem.run_bind,Sem.run_pure,Result.andThen_ok,run_underlying he,Builtin.lenOf];rfl):Z:=h
theorem Q3H(h:Z:=by
 obtain⟨κ,hκ,rfl,rfl⟩:=hR;cases κ with
 | none=>exact⟨rfl,.inl ⟨hκ,rfl⟩⟩
 | some κ=>exact⟨rfl,.inr ⟨κ,hκ,rfl⟩⟩):Z:=h
theorem Q3W(h:Z:=by
 refine Bb ?_;refine Br (α:=Nat) (k+1) [(0,0)] ⟨hkl,by show bs.length-(k+1)<bs.length-k;omega⟩ ?_;exact Q0H):Z:=h
theorem Q45(h:Z:=by
 refine⟨v,?_,fun r _=>?_⟩
 ·exact Q2s
 ·cases v<;>first|exact qbe (by exact hp) r|(simp[qbd] at hp)):Z:=h
theorem Q4m(h:Z:=by
 subst hq;obtain⟨e1,e2⟩:=qmu ⟨q1,q2⟩;unfold e64 at this;rw[e1,e2] at this;exact this):Z:=h
theorem Q4B(h:Z:=by
 cases k with
 | zero=>exact⟨rfl,by simpa using hk.symm⟩
 | succ k=>simp at hk):Z:=h
theorem Q4W(h:Z:=by unfold World.freeze;rw[if_neg Q8H]):Z:=h
theorem Q4X(h:Z:=by
 unfold jg0;rw[xT,List.getElem?_range Q8G];rfl):Z:=h
theorem Q54(h:Z:=by obtain⟨rfl,rfl⟩:=one k d hk;exact absurd hj (xZ j)):Z:=h
theorem Q5f(k:Y)(h:Wr Y->Z:=by intro kQ;(first|refine Bm 1 0 Q8H Q8H ?_|refine Bm 2 0 Q8H Q8H ?_|refine Bm 3 0 Q8H Q8H ?_|fail);exact kQ.o):Z:=h ⟨k⟩
theorem Q5j(k:Y)(h:Wr Y->Z:=by intro kQ;(first|refine Bm 1 0 Q8H Q8H ?_|refine Bm 2 0 Q8H Q8H ?_|fail);exact kQ.o):Z:=h ⟨k⟩
theorem Q5F(k:Y)(h:Wr Y->Z:=by intro kQ;(first|refine Bu 5 ?_|refine Bm 0 0 Q8H Q8H ?_|fail);exact kQ.o):Z:=h ⟨k⟩
theorem Q5P(k:Y)(h:Wr Y->Z:=by intro kQ;(first|refine Bv (qfi rfl rfl ⟨_,rfl,_,underlying37⟩) ?_|fail);exact kQ.o):Z:=h ⟨k⟩
theorem Q6i(k:Y)(h:Wr Y->Z:=by intro kQ;(first|refine Bf (xi Q8G) ?_|fail);exact kQ.o):Z:=h ⟨k⟩
theorem Q6k(k:Y)(h:Wr Y->Z:=by intro kQ;(first|refine Bf (xi (show _<_ from by rw[hlt,ex];exact x1)) ?_|refine Bv (qfi rfl rfl ⟨_,rfl,_,underlying87⟩) ?_|fail);exact kQ.o):Z:=h ⟨k⟩
theorem Q6L(h:Z:=by first|exact ⟨⟨fun h=>⟨rfl,nlr _⟩,nlr _,qcm⟩,xb⟩|fail):Z:=h
theorem Q6Z(h:Z:=by first|exact ⟨⟨_,rfl,fun h=>h,nlr _,qcm⟩,xb⟩|fail):Z:=h
theorem Q7w(h:Z:=by first|exact ⟨⟨xO rfl,qi6 Q8G rfl⟩,xb⟩|fail):Z:=h
theorem Q85(h:Z:=by first|exact ⟨fun _=>⟨rfl,xm _⟩,nlr _,lt4 (.ptr Q8I) (.plain rfl) (.plain rfl) (.slice Q8I)⟩|fail):Z:=h
theorem Q8b(h:Z:=by first|exact (hh 0 Q8R).trans rfl|fail):Z:=h
theorem Q8m(h:Z:=by first|exact ⟨.inl rfl,.inr ⟨_,rfl,rfl⟩,.inl rfl,.inl rfl,.inl rfl,.inl rfl,.inl rfl,xb⟩|fail):Z:=h
theorem Q8r(h:Z:=by first|exact fun ρ=>by rw[qd3];rfl|fail):Z:=h
theorem Q8v(h:Z:=by first|exact ⟨⟨hK,rfl,.inl (by show 0<κ*16;have:1<=κ:=hκ;omega),by simp⟩,xb⟩|fail):Z:=h
theorem Q8M(h:Z:=by simp only[xt,qa7,xQ,x5];omega):Z:=h
theorem Q9c(h:Z:=by simp only[zC,xh] at *;omega):Z:=h
theorem Q9n(h:Z:=by exact rfl):Z:=h
theorem Q9z(h:Z:=by simp only[xN];omega):Z:=h
theorem Qa2(h:Z:=by rw[h2];decide):Z:=h
theorem Qag(h:Z:=by show 0<κ*16;have:S.length+1<=κ:=hκ;omega):Z:=h
end
end Go.Proofs

namespace Go.Proofs.YtfkngpmgcimdbaaGreat
open Go Go.RowKit Sx
theorem jqt (n a b:Int)  (w:World):xa 193 #[xc n,xc a,xc b] w (.bool (decide (a<=n/\n<=b))):=by
 refine qac (G:=tys) w tysOK mixed func193 Q8I Q8K Q8J ?_;repeat' (refine Bb ?_;first|refine Q55 ?_|with_reducible refine Bp (fun hb=>?_) (fun hb=>?_)|fail)
 all_goals
  congr 1
  simp only[xh,xk,yr] at hb
  simp[hb]
theorem cIn (n a b:Int) (h:Hp):qaf prog 193 [xc n,xc a,xc b] h (.bool (decide (a<=n/\n<=b))) [] []:=
 qai rfl rfl (call193 _) (jqt n a b)
def q6p (drift off g:Int):Prop:=(-1000<=drift/\drift<=1000)/\(0<=off/\off<=70368744177664)/\(0<=g/\g<=70368744177664)
instance (a b c:Int):Decidable (q6p a b c):=by unfold q6p;infer_instance
theorem mdv (a b c:Int) (h:Hp) (ha : -9223372036854775808<=a) (ha':a<9223372036854775808) (hb : -9223372036854775808<=b) (hb':b<9223372036854775808) (hc:0<c) (hcc:c<9223372036854775808) (q:Int) (hq:a*b / c=q) (q1 : -9223372036854775808<=q) (q2:q<9223372036854775808):qaf prog 171 [xc a,xc b,xc c] h (.tuple #[xc q,xc 0]) [] []:=by
 obtain⟨n,rfl⟩:=yV (by omega:0<=c);have:=qsr a b n h ha ha' hb hb' Q8G Q8G;exact Q4m
theorem jpw (a b c:Int) (h:Hp) (ha : -9223372036854775808<=a) (ha':a<9223372036854775808) (hb : -9223372036854775808<=b) (hb':b<9223372036854775808) (hc:0<c) (hcc:c<9223372036854775808) (q:Int) (hq : -(-(a*b) / c)=q) (q1 : -9223372036854775808<=q) (q2:q<9223372036854775808):qaf prog 172 [xc a,xc b,xc c] h (.tuple #[xc q,xc 0]) [] []:=by
 obtain⟨n,rfl⟩:=yV (by omega:0<=c);have:=qll a b n h ha ha' hb hb' Q8G Q8G;exact Q4m
theorem jex (n:Int) (h1 : -9223372036854775808<=n) (h2:n<9223372036854775808):IntKind.i64.wrap n=n:=by rw[xN];omega
theorem q9g {a c:Int} (k:Int) (h0:0<=a) (hc:0<c) (h:a<=k*c):0<=a / c/\a / c<=k:=
 ⟨Int.ediv_nonneg h0 Q8G,by
  have:=Int.ediv_le_ediv hc h;rwa[Int.mul_ediv_cancel _ Q8G] at this⟩
def jfq (d x:Int):Int:=max 0 (d-1)*1000000 / (1000000+x)
def jfr (d x:Int):Int:=-(-((d+1)*1000000) / (1000000-x))
theorem q4h {a c k:Int} (h0:0<=a) (hc:0<c) (h:a<=k*c):0<=-(-a / c)/\-(-a / c)<=k:=by
 have h1 : -k<=-a / c:=Int.le_ediv_of_mul_le hc (by rw[Int.neg_mul];omega);have h2 : -a / c<=0:=by
  have:=Int.ediv_le_ediv hc (by omega : -a<=0);rwa[Int.zero_ediv] at this
 omega
theorem qlx (d x:Int) (hd:0<=d/\d<=70368744177664) (hx:0<=x/\x<=1000):0<=jfq d x/\jfq d x<=70368744177664:=by
 unfold jfq;exact q9g _ (xy Q8G Q8G) Q8G (xS Q8G Q8G Q8G Q8G)
theorem qly (d x:Int) (hd:0<=d/\d<=70368744177664) (hx:0<=x/\x<=1000):0<=jfr d x/\jfr d x<=140737488355330:=by
 unfold jfr;exact q4h (xy Q8G Q8G) Q8G Q8G
theorem jop (d x:Int) (h:Hp) (hd:0<=d/\d<=70368744177664) (hx:0<=x/\x<=1000):qaf prog 171 [xc (max 0 (IntKind.i64.wrap (d-1))),xc 1000000,xc (IntKind.i64.wrap (1000000+x))] h (.tuple #[xc (jfq d x),xc 0]) [] []:=by
 rw[jex (1000000+x) Q8G Q8G,jex (d-1) Q8G Q8G];have:=qlx d x hd hx;exact mdv _ _ _ _ Q8G Q8G Q8G Q8G Q8G Q8G _ rfl Q8G Q8G
theorem joq (d x:Int) (h:Hp) (hd:0<=d/\d<=70368744177664) (hx:0<=x/\x<=1000):qaf prog 172 [xc (IntKind.i64.wrap (d+1)),xc 1000000,xc (IntKind.i64.wrap (1000000-x))] h (.tuple #[xc (jfr d x),xc 0]) [] []:=by
 rw[jex (1000000-x) Q8G Q8G,jex (d+1) Q8G Q8G];have:=qly d x hd hx;exact jpw _ _ _ _ Q8G Q8G Q8G Q8G Q8G Q8G _ rfl Q8G Q8G
def qdi (d x:Int):Prop:=(0<=d/\d<=70368744177664)/\(0<=x/\x<=1000)
instance (a b:Int):Decidable (qdi a b):=by unfold qdi;infer_instance
def jgw (d x:Int):Value:=.tuple #[xc (if qdi d x then jfq d x else 0),xc (if qdi d x then jfr d x else 0),xc (if qdi d x then 0 else 1)]
theorem jcx (d x:Int)  (w:World):xa 169 #[xc d,xc x] w (jgw d x):=by
 refine qac (G:=tys) w tysOK mixed func169 Q8I Q8K Q8J ?_;repeat' (refine Bb ?_;first|with_reducible (first|refine Ba Q8H ?_|refine Ba (qab _ _ _) ?_|refine Ba (qaa _ _) ?_|refine Bk ?_|refine Ba rfl ?_|refine Ba ⟨by kernel_rfl,by kernel_rfl⟩ ?_|refine Bj ?_|refine Bh ?_|refine Bi ?_|refine Bc (cIn _ _ _ _) ?_|refine Bc (jop _ _ _ Q9c Q9c) ?_|refine Bc (joq _ _ _ Q9c Q9c) ?_|refine B8 ?_|refine N.max2 ?_)|refine Q5d ?_|with_reducible refine Bp (fun hb=>?_) (fun hb=>?_)|fail)
 all_goals simp only[zC,zp,xh,xk] at *
 ·unfold jgw;rw[if_neg (fun h=>hb h.1),if_neg (fun h=>hb h.1),if_neg (fun h=>hb h.1)]
 ·unfold jgw;rw[if_neg (fun h=>hb h.2),if_neg (fun h=>hb h.2),if_neg (fun h=>hb h.2)]
 ·rename_i h1;have ho:qdi d x:=⟨h1,hb⟩;unfold jgw;rw[if_pos ho,if_pos ho,if_pos ho]
theorem jl0 (a b:Int) (h:Hp):qaf prog 169 [xc a,xc b] h (jgw a b) [] []:=
 qai rfl rfl (call169 _) (jcx a b)
theorem ok2 {d x:Int} (h1:0<=d) (h2:d<=70368744177664) (h3:0<=x) (h4:x<=1000):qdi d x:=⟨⟨h1,h2⟩,⟨h3,h4⟩⟩
theorem q4i {d x:Int} (h:qdi d x):jgw d x=.tuple #[xc (jfq d x),xc (jfr d x),xc 0]:=by unfold jgw;rw[if_pos h,if_pos h,if_pos h]
theorem qrg (a b:Int) (h:Hp) (ho:qdi a b):qaf prog 169 [xc a,xc b] h (.tuple #[xc (jfq a b),xc (jfr a b),xc 0]) [] []:=by
 rw[<-q4i ho];exact jl0 a b h
open Go Go.RowKit Sx
theorem q4j (p q r s:Int)  (w:World):xa 170 #[.agg #[xc p,xc q],.agg #[xc r,xc s]] w (.agg #[xc (IntKind.i64.wrap (p-s)),xc (IntKind.i64.wrap (q-r))]):=by
 refine qac (G:=tys) w tysOK mixed func170 Q8I Q8K Q8J ?_;repeat' (refine Bb ?_;first|refine Q56 ?_|fail)
 all_goals rfl
theorem jcy (p q r s:Int) (h:Hp):qaf prog 170 [.agg #[xc p,xc q],.agg #[xc r,xc s]] h (.agg #[xc (IntKind.i64.wrap (p-s)),xc (IntKind.i64.wrap (q-r))]) [] []:=
 qai rfl rfl (call170 _) (q4j p q r s)
theorem jcz (n:Int) (h:Hp) (h1 : -4611686018427387904<=n) (h2:n<=4611686018427387904):qaf prog 171 [xc n,xc 1,xc 2] h (.tuple #[xc (n / 2),xc 0]) [] []:=
 mdv _ _ _ _ Q8G Q8G Q8G Q8G Q8G Q8G _ (by rw[Int.mul_one]) Q8G Q8G
theorem q4k (n:Int) (h:Hp) (h1 : -4611686018427387904<=n) (h2:n<=4611686018427387904):qaf prog 172 [xc n,xc 1,xc 2] h (.tuple #[xc (-(-n / 2)),xc 0]) [] []:=
 jpw _ _ _ _ Q8G Q8G Q8G Q8G Q8G Q8G _ (by rw[Int.mul_one]) Q8G Q8G
theorem qlz (a b:Int) (h:Hp) (ho:¬ qdi a b):qaf prog 169 [xc a,xc b] h (.tuple #[xc 0,xc 0,xc 1]) [] []:=by
 have:=jl0 a b h;unfold jgw at this;rwa[if_neg ho,if_neg ho,if_neg ho] at this
def jkr (ra db da rb dr sl:Int):Prop:=(0<=sl/\sl<=4194304)/\qdi ra dr/\qdi db dr/\qdi rb dr/\qdi da dr
instance (ra db da rb dr sl:Int):Decidable (jkr ra db da rb dr sl):=by unfold jkr;infer_instance
def rgLo (ra db da rb dr sl:Int):Int:=max 0 (max (jfq ra dr-jfr db dr) (jfq rb dr-jfr da dr) / 2-sl)
def rgHi (ra db da rb dr sl:Int):Int:=-(-min (jfr ra dr-jfq db dr) (jfr rb dr-jfq da dr) / 2)+1+sl
def rgE (ra db da rb dr sl:Int):Int:=if jkr ra db da rb dr sl then (if rgHi ra db da rb dr sl<rgLo ra db da rb dr sl then 3 else if rgHi ra db da rb dr sl > 4194304 then 2 else 0) else 1
def rgV (ra db da rb dr sl:Int):Value:=.tuple #[xc (if rgE ra db da rb dr sl=0 then rgLo ra db da rb dr sl else 0),xc (if rgE ra db da rb dr sl=0 then rgHi ra db da rb dr sl else 0),xc (rgE ra db da rb dr sl)]
theorem qgv {ra db da rb dr sl:Int} (h:¬ jkr ra db da rb dr sl):Value.tuple ⟨[xc 0,xc 0,xc 1]⟩=rgV ra db da rb dr sl:=by
 have:rgE ra db da rb dr sl=1:=by unfold rgE;rw[if_neg h]
 unfold rgV;rw[this];rfl
theorem q0u (ra db da rb dr sl:Int)  (w:World):xa 147 #[.agg #[xc ra,xc db,xc da,xc rb],xc dr,xc sl] w (rgV ra db da rb dr sl):=by
 refine qac (G:=tys) w tysOK mixed func147 Q8I Q8K Q8J ?_;repeat' (refine Bb ?_;first|refine Q56 ?_|with_reducible refine Bp (fun hb=>?_) (fun hb=>?_)|fail)
 ·exact qgv (fun h=>by have:=h.2.1.2;simp at hb;omega)
 ·exact qgv (fun h=>by have:=h.2.1.2;simp at hb;omega)
 ·exact qgv (fun h=>by have:=h.1;simp at hb;omega)
 ·exact qgv (fun h=>by have:=h.1;simp at hb;omega)
 ·simp only[xh,xk] at *;rename_i g1 g2 g3;by_cases h0:qdi ra dr
  ·skip;by_cases h1:qdi db dr
   ·skip;by_cases h2:qdi rb dr
    ·skip;by_cases h3:qdi da dr
     ·skip;have s1:=qlx ra dr h0.1 h0.2;have s2:=qly ra dr h0.1 h0.2;have s3:=qlx db dr h1.1 h1.2;have s4:=qly db dr h1.1 h1.2;have s5:=qlx rb dr h2.1 h2.2;have s6:=qly rb dr h2.1 h2.2;have s7:=qlx da dr h3.1 h3.2;have s8:=qly da dr h3.1 h3.2;repeat' (refine Bb ?_;first|refine Q56 ?_|refine Q5F ?_|refine Q5f ?_|with_reducible (first|refine Bc (qrg _ _ _ Q92) ?_|refine Bc (qlz _ _ _ Q92) ?_|refine B8 ?_|refine N.max2 ?_|refine Bc (jcy _ _ _ _ _) ?_|refine Bc (jcz _ _ Q9z Q9z) ?_|refine Bc (q4k _ _ Q9z Q9z) ?_)|refine Q5b ?_|with_reducible refine Bp (fun hb=>?_) (fun hb=>?_)|fail)
      all_goals have ho:jkr ra db da rb dr sl:=⟨⟨by omega,by omega⟩,h0,h1,h2,h3⟩
      all_goals have w1:=jex (jfr ra dr-jfq db dr) Q8G Q8G
      all_goals have w2:=jex (jfr rb dr-jfq da dr) Q8G Q8G
      all_goals have w3:=jex (jfq ra dr-jfr db dr) Q8G Q8G
      all_goals have w4:=jex (jfq rb dr-jfr da dr) Q8G Q8G
      all_goals have eLo:max 0 (IntKind.i64.wrap (max (IntKind.i64.wrap (jfq ra dr-jfr db dr)) (IntKind.i64.wrap (jfq rb dr-jfr da dr)) / 2-sl))=rgLo ra db da rb dr sl:=by rw[w3,w4,jex _ Q8G Q8G];rfl
      all_goals have eHi:IntKind.i64.wrap (IntKind.i64.wrap (-(-min (IntKind.i64.wrap (jfr ra dr-jfq db dr)) (IntKind.i64.wrap (jfr rb dr-jfq da dr)) / 2)+1)+sl)=rgHi ra db da rb dr sl:=by rw[w1,w2,jex (-(-min (jfr ra dr-jfq db dr) (jfr rb dr-jfq da dr) / 2)+1) Q8G Q8G,jex _ Q8G Q8G];rfl
      all_goals rw[eHi] at hb
      ·rw[eLo,xh] at hb;have e:rgE ra db da rb dr sl=3:=by unfold rgE;rw[if_pos ho,if_pos hb]
       unfold rgV;rw[e];rfl
      ·rename_i k;rw[eHi,eLo,xk] at k;rw[xh] at hb;have e:rgE ra db da rb dr sl=2:=by unfold rgE;rw[if_pos ho,if_neg k,if_pos hb]
       unfold rgV;rw[e];rfl
      ·rename_i k;rw[eHi,eLo,xk] at k;rw[xk] at hb;have e:rgE ra db da rb dr sl=0:=by unfold rgE;rw[if_pos ho,if_neg k,if_neg hb]
       rw[eLo,eHi];unfold rgV;rw[e];rfl
     ·refine Q0u ?_;exact qgv (fun h=>h3 h.2.2.2.2)
    ·refine Q0u ?_;exact qgv (fun h=>h2 h.2.2.2.1)
   ·refine Q0u ?_;exact qgv (fun h=>h1 h.2.2.1)
  ·refine Q0u ?_;exact qgv (fun h=>h0 h.2.1)
theorem q6q (ra db da rb dr sl:Int) (h:Hp):qaf prog 147 [.agg #[xc ra,xc db,xc da,xc rb],xc dr,xc sl] h (rgV ra db da rb dr sl) [] []:=
 qai rfl rfl (call147 _) (q0u ra db da rb dr sl)
open Go.RowKit
end Go.Proofs.YtfkngpmgcimdbaaGreat


namespace Go.Proofs.YtfkngpmgcimdbaaGreat.Sx
open Go Go.RowKit
structure Sl where
 b:Nat
 o:Nat
 n:Nat
 c:Nat
 sp:Option Nat
def uR:Option Sl->Value
 | none=>.slice none 0 0
 | some s=>.slice (some ⟨s.b,s.o,s.sp⟩) s.n s.c
abbrev uV (u:Option Sl):Value:=.iface 99999999 (uR u)
theorem jor (u:Option Sl):∃ a l c,uR u=.slice a l c:=by cases u with
 | none=>exact⟨_,_,_,rfl⟩
 | some s=>exact⟨_,_,_,rfl⟩
theorem qsy (u:Option Sl) (ρ:Rz):den0 ρ (uV u)=uR u:=by
 obtain⟨a,l,c,e⟩:=jor u;rw[uV,e];rfl
theorem qd3 (u:Option Sl) (ρ:Rz):den ρ (uV u)=uR u:=qsy u ρ
def uN:Option Sl->Nat
 | none=>0
 | some s=>s.n
structure By where
 b:Nat
 c:Nat
 bs:List Int
abbrev By.s (e:By):Option Sl:=some ⟨e.b,0,e.bs.length,e.c,none⟩
def jqu (w:World) (u:Option Sl) (bs:List Int):Prop:=bs.length=uN u/\∀ s,u=some s->(s.sp=none\/s.n=0)/\∀ j,j<bs.length->w.cell? ⟨s.b,s.o+j,none⟩=some (.int .u8 (bs.getD j 0))
structure ByAt (w:World) (e:By):Prop where
 lt:e.b<w.heap.size
 cell:∀ j,j<e.bs.length->w.cell? ⟨e.b,j,none⟩=some (.int .u8 (e.bs.getD j 0))
 own:∀ j,j<e.bs.length->w.frozen? ⟨e.b,j,none⟩=false
variable {w:World} {b:Nat}
theorem qfr {w':World} {o:Nat} (h:w'.heap[b]?=w.heap[b]?):w'.cell? ⟨b,o,none⟩=w.cell? ⟨b,o,none⟩:=by
 simp only[World.cell?,h]
theorem qwr {w':World} {o:Nat} (h:w'.heap[b]?=w.heap[b]?):w'.frozen? ⟨b,o,none⟩=w.frozen? ⟨b,o,none⟩:=by
 simp only[World.frozen?,h]
theorem qot {w':World} (hl:b<w.heap.size) (h:w'.heap[b]?=w.heap[b]?):b<w'.heap.size:=by
 have:w.heap[b]?=some (w.heap[b]'hl):=zz hl;rw[this] at h;exact(xV.1 h).1
theorem qou {o:Nat} {v:Value} (h:w.cell? ⟨b,o,none⟩=some v):b<w.heap.size:=World.block_lt_of_cell? _ _ h
theorem ByAt.keep {w':World} {e:By} (h:ByAt w e) (hb:w'.heap[e.b]?=w.heap[e.b]?):ByAt w' e:=
 ⟨qot h.lt hb,fun j hj=>(qfr hb).trans (h.cell j hj),fun j hj=>(qwr hb).trans (h.own j hj)⟩
structure MemOK (W:World) (F:List By) (p:Nat×Nat) (S:Nat->Prop) (w:World):Prop where
 at_:0<W.heap.size->p.1<W.heap.size
 dom:∀ b,S b↔b<W.heap.size\/∃ e∈F,e.b=b
 size:W.heap.size<=w.heap.size
 old:∀ b,b<W.heap.size->w.heap[b]?=W.heap[b]?
 nodup:(F.map By.b).Nodup
 cell:∀ e∈F,W.heap.size<=e.b/\ByAt w e
abbrev jqv (W:World) (F:List By):Ext where
 inv:=fun p S w=>MemOK W F p S w
 keep:=fun {p S w w'} h hb=>⟨h.at_,h.dom,by
   rcases yO W.heap.size with h0|h0
   ·omega
   have h1:=h.at_ h0;have h2:=hb (W.heap.size-1) ((h.dom _).2 (.inl Q8G));have h3:=qot (b:=W.heap.size-1) (w:=w) (by have:=h.size;omega) h2;omega,fun b hl=>(hb b ((h.dom b).2 (.inl hl))).trans (h.old b hl),h.nodup,fun e he=>⟨(h.cell e he).1,(h.cell e he).2.keep (hb _ ((h.dom _).2 (.inr ⟨e,he,rfl⟩)))⟩⟩
abbrev memC (W:World) (F:List By):Chunk:=@Chunk.mk (jqv W F) true 0 []
inductive Src (W:World) (F:List By):Option Sl->List Int->Prop
 | nil:Src W F none []
 | own {e:By} (he:e∈F):Src W F e.s e.bs
 | old {s:Sl} {bs:List Int} (hn:bs.length=s.n) (hs:s.sp=none\/s.n=0) (hc:∀ j,j<bs.length->W.cell? ⟨s.b,s.o+j,none⟩=some (.int .u8 (bs.getD j 0))):Src W F (some s) bs
variable {W:World} {u:Option Sl} {bs:List Int}
theorem MemOK.src {F:List By} {p:Nat×Nat} {S:Nat->Prop} (M:MemOK W F p S w) (h:Src W F u bs):jqu w u bs:=by
 cases h with
 | nil=>exact⟨rfl,fun s hs=>by cases hs⟩
 | own he=>
  refine⟨rfl,fun s hs=>⟨?_,fun j hj=>?_⟩⟩
  ·cases hs;exact .inl rfl
  cases hs
  show w.cell? ⟨_,0+j,none⟩=_;rw[xn];exact(M.cell _ he).2.cell j hj
 | old hn hsp hc=>
  refine⟨hn,fun s hs=>⟨?_,fun j hj=>?_⟩⟩
  ·cases hs;exact hsp
  cases hs
  have h1:=hc j hj;rw[<-h1];exact qfr (M.old _ (qou h1))
theorem Src.more {F F':List By} (hF:∀ e∈F,e∈F') (h:Src W F u bs):Src W F' u bs:=by
 cases h with
 | nil=>exact .nil
 | own he=>exact .own (hF _ he)
 | old hn hsp hc=>exact .old hn hsp hc
inductive Made (F:List By) (bs:List Int):Option Sl->List By->Prop
 | nil:bs=[]->Made F bs none F
 | new {b c:Nat} (hb:b∉F.map By.b):Made F bs (By.mk b c bs).s (⟨b,c,bs⟩::F)
theorem Made.src {F F':List By} (h:Made F bs u F'):Src W F' u bs:=by
 cases h with
 | nil h=>subst h;exact .nil
 | new hb=>exact .own (yJ ..)
theorem Made.sub {F F':List By} (h:Made F bs u F'):∀ e∈F,e∈F':=by
 cases h with
 | nil h=>exact fun e he=>he
 | new hb=>exact fun e he=>yn _ he
section
variable {X:Ctx} {ρ:Rz} {h:Hp} {w w':World}
theorem q4l {i:Nat} {W:World} {F:List By} {e:By} (H:HOK X ρ h w) (hi:h[i]?=some (some (memC W F))) (hB:Below w.heap.size w w') (he:ByAt w' e) (hge:w.heap.size<=e.b):e.b∉F.map By.b/\HOK X ρ (h.set i (some (memC W (e::F)))) w':=by
 obtain⟨S,E⟩:=H.ext;have M:MemOK W F (ρ i) (S i) w:=E.inv i _ hi;have hno:e.b∉F.map By.b:=fun hm=>by
  obtain⟨x,hx,hxb⟩:=xw.1 hm;have:=(M.cell x hx).2.lt;omega
 refine⟨hno,H.turnX E hi (d:=memC W (e::F)) (S':=fun b=>S i b\/b=e.b) id (nlr _) (nzj) hB.os hB.tape hB.output hB.size (fun b hb _=>hB.block b hb) (fun b hb=>?_) ?_⟩
 ·rcases hb with hb|rfl
  ·exact⟨xj (E.mine i _ b hi hb).2.1 hB.size,.inl rfl,.inl hb⟩
  ·exact⟨he.lt,.inl rfl,.inr hge⟩
 ·refine⟨M.at_,fun b=>⟨fun hb=>?_,fun hb=>?_⟩,xF M.size hB.size,fun b hb=>(hB.block b (xj hb M.size)).trans (M.old b hb),?_,fun x hx=>?_⟩
  ·rcases hb with hb|rfl
   ·rcases(M.dom b).1 hb with hb|⟨x,hx,hxb⟩
    ·exact .inl hb
    ·exact .inr ⟨x,yn _ hx,hxb⟩
   ·exact .inr ⟨e,yJ ..,rfl⟩
  ·rcases hb with hb|⟨x,hx,rfl⟩
   ·exact .inl ((M.dom b).2 (.inl hb))
   ·rcases xg.1 hx with rfl|hx
    ·exact .inr rfl
    ·exact .inl ((M.dom _).2 (.inr ⟨x,hx,rfl⟩))
  ·rw[xp,xL];exact⟨hno,M.nodup⟩
  ·rcases xg.1 hx with rfl|hx
   ·exact⟨xF M.size hge,he⟩
   ·exact⟨(M.cell x hx).1,(M.cell x hx).2.keep (hB.block _ (M.cell x hx).2.lt)⟩
end
section
variable {X:Ctx} {ρ:Rz} {h:Hp} {w:World}
end
section
variable {P:Program} {G:Tys} {o:Oper} {st:St}
variable {x:Operand} {v:Value}
theorem qsz {X:Ctx} {ρ:Rz} {st:St} {a:Act} {w:World} (h:EvTo x st v) (hp:qap v=true) (R:Rel X ρ st a w):a.eval x=v:=by
 rw[<-(h.den R).self,qbe hp]
theorem Bv {slot:Nat} {K:Value->Mz->List Nat->Prop} {ms:Mz} {rh:List Nat} (h:OKs P o st v ms rh) (k:K v ms rh):N (OpN P o st slot K):=N.mk ⟨v,ms,rh,h,k⟩
theorem ql0 {t:TypeId} {y:Operand} {b f l c sz g:Nat} {a:Int} {k:IntKind} (hG:jef P G) (ho:o.op=.indexAddr t x y) (hx:EvTo x st v) (hxv:∀ ρ,den ρ v=.slice (some ⟨b,f,none⟩) l c) (hy:EvTo y st (.int k a))
  (ht:jd2 G t fun _ d=>match d with|.slice e=>jd2 G e fun ei _=>ei.size=sz|_=>False) (h0:0<=a) (hn:a<l) (hg:f+a.toNat*sz=g):OKs P o st (.pointer (some ⟨b,g,none⟩)) [] []:=fun st₂ hs _ _=>
 qa0 fun X ρ act w R=>by
  subst hg;have hx':act.eval x=.slice (some ⟨b,f,none⟩) l c:=by rw[<-((hs x Q8P _ hx).den R).self,hxv]
  have hy':=qsz (hs y Q8P _ hy) rfl R;obtain⟨i,d,_,h1,hd⟩:=qao hG ht;split at hd
  ·obtain⟨ei,ed,h2,_,rfl⟩:=qao hG hd;refine⟨_,?_,Den.plain rfl⟩;exact Q3m
  ·exact hd.elim
theorem qfi {ts:Array TypeId} {u:Option Sl} (ho:o.op=.call ⟨.builtin .len,⟨[x]⟩,ts⟩) (hx:EvTo x st (uV u)) (ht:∃ t,ts = #[t]/\∃ e,P.underlying t=some (.slice e)):OKs P o st (xc (uN u:Nat)) [] []:=fun st₂ hs2 hh _=>
 qa0 fun X ρ a w R=>by
  have hx':a.eval x=uR u:=by rw[<-((hs2 x Q8Y _ hx).den R).self,qd3]
  obtain⟨t,rfl,e,he⟩:=ht;refine⟨xc (uN u:Nat),?_,Den.plain rfl⟩;cases u with
  | none=>
   exact Q3G
  | some s=>
   exact Q3G
end
structure Rw where
 w:Bool
 e:TypeId
 k:Nat
 b:Nat
 o:Nat
 c:Nat
 n:Nat
 xs:List Value
abbrev Rw.sl (r:Rw):Sl:=⟨r.b,r.o,r.n,r.c,none⟩
structure RwAt (w:World) (r:Rw):Prop where
 lt:r.b<w.heap.size
 len:r.xs.length=r.n*r.k
 cap:r.n<=r.c
 cell:∀ j,j<r.xs.length->w.cell? ⟨r.b,r.o+j,none⟩=r.xs[j]?
 own:r.w=true->r.o=0/\∃ cur z,w.heap[r.b]?=some (.cells cur r.e z)/\(z.1=z.2\/cur.size<=z.1)/\cur.size=r.c*r.k
theorem RwAt.keep {w':World} {r:Rw} (h:RwAt w r) (hb:w'.heap[r.b]?=w.heap[r.b]?):RwAt w' r:=
 ⟨qot h.lt hb,h.len,h.cap,fun j hj=>(qfr hb).trans (h.cell j hj),fun hw=>⟨(h.own hw).1,by rw[hb];exact(h.own hw).2⟩⟩
variable {e:TypeId} {xs:List Value} {cur:Array Value} {z:Nat×Nat}
theorem RwAt.row {k n c:Nat} (hh:w.heap[b]?=some (.cells cur e z)) (hz:z.1=z.2\/cur.size<=z.1) (hs:cur.size=c*k) (hx:cur.toList.take (n*k)=xs) (hl:xs.length=n*k) (hn:n<=c):RwAt w ⟨true,e,k,b,0,c,n,xs⟩:=by
 have hc:∀ j,w.cell? ⟨b,j,none⟩=cur[j]?:=fun j=>by simp[World.cell?,hh]
 refine⟨(xV.1 hh).1,hl,hn,fun j hj=>?_,fun _=>⟨rfl,cur,z,hh,hz,hs⟩⟩;have hj:j<xs.length:=hj;show w.cell? ⟨b,0+j,none⟩=xs[j]?;rw[xn,hc,<-hx,yK,if_pos Q8G,zn]
theorem qu9 (hh:w.heap[b]?=some (.cells cur e z)) (hz:z.1=z.2\/cur.size<=z.1) (j:Nat) (hj:j<cur.size):(w.cell? ⟨b,j,none⟩).isSome=true/\w.frozen? ⟨b,j,none⟩=false:=by
 refine⟨by simp[World.cell?,hh,hj],?_⟩;simp only[World.frozen?,hh,Bool.and_eq_false_iff,xk];omega
theorem qj4 (b:Nat):∀ (vs:List Value) (o:Nat) (w:World) (cur:Array Value) (e:TypeId) (z:Nat×Nat),w.heap[b]?=some (.cells cur e z)->∃ cur',(w.setCells b o vs).heap[b]?=some (.cells cur' e z)/\cur'.size=cur.size
 | [],_,_,cur,_,_,h=>⟨cur,h,rfl⟩
 | v::r,o,w,cur,e,z,h=>by
  have h1:(w.setCell ⟨b,o,none⟩ v).heap[b]?=some (.cells (cur.setIfInBounds o v) e z):=by
   have:=setCell_eq_setRow w b o cur e z v h;rw[this];exact setRow_heap w b cur _ e z h
  obtain⟨cur',h2,h3⟩:=qj4 b r (o+1) _ _ e z h1;exact⟨cur',h2,by rw[h3,Array.size_setIfInBounds]⟩
theorem RwAt.of {k n c:Nat} (h:w.ownsRow 0 e k (.slice (some ⟨b,0,none⟩) n c) n xs):RwAt w ⟨true,e,k,b,0,c,n,xs⟩:=by
 rcases h.2 with ⟨h1,_⟩|⟨g,cap,cur,h1,h2,h3,h4,h5,h6,h7⟩
 ·cases h1
 ·have e1:b=g/\c=cap:=by injection h1 with h1 h8 h9;injection h1 with h1;injection h1 with h1;exact⟨h1,h9⟩
  obtain⟨rfl,rfl⟩:=e1;exact .row h3 (.inl rfl) h6 h7 h.1 h4
theorem qi5 (b:Nat):∀ (vs:List Value) (o:Nat) (w:World),(w.setCells b o vs).os=w.os/\(w.setCells b o vs).tape=w.tape/\(w.setCells b o vs).output=w.output/\(w.setCells b o vs).heap.size=w.heap.size/\∀ k,k≠b->(w.setCells b o vs).heap[k]?=w.heap[k]?
 | [],_,_=>⟨rfl,rfl,rfl,rfl,fun _ _=>rfl⟩
 | v::r,o,w=>by
  obtain⟨h1,h2,h3,h4,h5⟩:=qi5 b r (o+1) (w.setCell ⟨b,o,none⟩ v);refine⟨h1,h2,h3,h4.trans (World.size_setCell ..),fun k hk=>(h5 k hk).trans (heap_setCell_other w ⟨b,o,none⟩ k v hk)⟩
class ZW where
 z:Option World
structure RvOK [ZW] (R:List Rw) (p:Nat×Nat) (S:Nat->Prop) (w:World):Prop where
 nodup:(R.map Rw.b).Nodup
 at_:∀ r∈R,S r.b/\RwAt w r/\∀ W,ZW.z=some W->W.heap.size<=r.b
 base:∀ W,ZW.z=some W->p.1<W.heap.size/\W.heap.size<=w.heap.size/\∀ b,b<W.heap.size->S b/\w.heap[b]?=W.heap[b]?
abbrev rvX [ZW] (R:List Rw):Ext where
 inv:=fun p S w=>RvOK R p S w
 keep:=fun {p S w w'} h hb=>⟨h.nodup,fun r hr=>⟨(h.at_ r hr).1,(h.at_ r hr).2.1.keep (hb _ (h.at_ r hr).1),(h.at_ r hr).2.2⟩,fun W hW=>by
  obtain⟨h1,h2,h3⟩:=h.base W hW;refine⟨h1,?_,fun b hb'=>⟨(h3 b hb').1,(hb b (h3 b hb').1).trans (h3 b hb').2⟩⟩;have h4:=qot (b:=W.heap.size-1) (w:=w) (w':=w') Q8G (hb _ (h3 (W.heap.size-1) Q8G).1);omega⟩
abbrev rvC [ZW] (R:List Rw):Chunk:=@Chunk.mk (rvX R) true 0 []
def rowO:Option Rw->Option Sl
 | none=>none
 | some r=>some r.sl
def rowL:Option Rw->List Rw->List Rw
 | none,R=>R
 | some r,R=>r::R
def rowN:Option Rw->Nat
 | none=>0
 | some r=>r.n
def jib:Option Rw->List Value
 | none=>[]
 | some r=>r.xs
theorem qva (o:Option Rw) (R:List Rw):∀ r∈R,r∈rowL o R:=fun r hr=>by
 cases o with
 | none=>exact hr
 | some q=>exact yn _ hr
theorem qh2 (r:Rw) (R:List Rw):r∈rowL (some r) R:=yJ ..
structure Grew (o o':Option Rw) (e:TypeId) (k m:Nat) (news:List Value):Prop where
 n:rowN o'=rowN o+m
 xs:jib o'=jib o++news
 ty:∀ r,o'=some r->r.e=e/\r.k=k/\r.w=true
 nil:o'=none↔o=none/\m=0
 cap:∀ r,o'=some r->r.n<=r.c
def SrcR (w:World) (v:Value) (m k:Nat) (news:List Value):Prop:=
 (v=.slice none 0 0/\m=0/\news=[])\/∃ a c,v=.slice (some a) m c/\news.length=m*k/\∀ j u,news[j]?=some u->w.cell? (a.add j)=some u
theorem q9h {size n m cap:Nat} {z:Value} {olds news:List Value} (ho:olds.length=n*size) (hn:news.length=m*size) (hz:z.cells.size=size) (hge:n+m<=cap) (hcm:cap<=maxLen) :
  (w.drew.alloc (.cells (olds.toArray++news.toArray++Builtin.zeroCells z.cells (cap-(n+m))) e)).ownsRow 0 e size (.slice (some ⟨w.heap.size,0,none⟩) (n+m) cap) (n+m) (olds++news):=by
 have hlen:(olds++news).length=(n+m)*size:=by rw[xt,ho,hn,xA]
 refine⟨hlen,.inr ⟨w.heap.size,_,_,rfl,xm _,heap_alloc_new w.drew _,hge,hcm,?_,?_⟩⟩
 ·simp only[Array.size_append,List.size_toArray,size_zeroCells,hz,ho,hn,<-xA];congr 1;omega
 ·simp only[Array.toList_append,zx];rw[<-zx,<-hlen];exact List.take_left
section
variable {P:Program} {G:Tys} {o:Oper} {st:St}
variable {x:Operand} {ei:TypeInfo} {own:Bool} {n:Nat} {ps:Pz} {K:Value->Mz->Prop}
theorem q4m [ZW] {y:Operand} {t e:TypeId} {z p:Value} {i:Nat} (oe:Option Rw) (R:List Rw) (m:Nat) (news:List Value)
  (ho:o.op=.call ⟨.builtin .append,#[x,y],#[t,t]⟩) (hx:EvTo x st p) (hp:∀ ρ,den ρ p=uR (rowO oe))
  (h1:P.underlying t=some (.slice e)) (h2:P.info? e=some ei) (hz:ei.zero=some z) (hzs:z.cells.size=ei.size) (hs0:0<ei.size)
  (hi:st.h[i]?=some (some (@Chunk.mk (rvX (rowL oe R)) own n ps))) (hoe:∀ r,oe=some r->r.e=e/\r.k=ei.size/\r.w=true)
  (hsrc:∀ X ρ a w,Rel X ρ st a w->SrcR w (a.eval y) m ei.size news) (hone:∀ u∈news,u.oneCell'=true)
  (h63:rowN oe+m<=35184372088831) (hb:(rowN oe+m)*ei.bytes<=140737488355328)
  (hK:∀ oe',Grew oe oe' e ei.size m news->K (uV (rowO oe')) [(i,@Chunk.mk (rvX (rowL oe' R)) own n ps)]):EffAll P o st K:=fun X ρ a w Rl next Q hn=>by
 have hx':a.eval x=uR (rowO oe):=by rw[<-(hx.den Rl).self,hp]
 obtain⟨S,E⟩:=Rl.heap.ext
 have V:RvOK (rowL oe R) (ρ i) (S i) w:=E.inv i _ hi
 have hpi:=Rl.heap.lt i _ hi
 have fin:∀ oe' w',(Builtin.append_ #[t,t] o.type #[a.eval x,a.eval y]).run P w=.ok (uR (rowO oe')) w'->HOK X ρ (st.h.set i (some (@Chunk.mk (rvX (rowL oe' R)) own n ps))) w'->Grew oe oe' e ei.size m news->o.wp P a w next Q:=fun oe' w' hr H' hg=>by
  have hrun2:=qch (P:=P) (o:=o) (x:=x) (y:=y) (t:=t) (a:=a) ho hr;unfold Oper.wp;rw[hrun2];exact hn _ _ ρ _ _ (hK oe' hg) ⟨AgreeOn.refl _ _,H',fun r _=>qd3 _ r⟩
 have hcm:∀ q old,q<=35184372088831->grownCap w q old e<=maxLen:=fun q old hq=>grownCap_le_maxLen w q old e (by simp only[maxLen];omega)
 have turn:∀ oe' w',RvOK (rowL oe' R) (ρ i) (fun b=>S i b\/∃ r',oe'=some r'/\b=r'.b) w'->w'.os=w.os->w'.tape=w.tape->w'.output=w.output->w.heap.size<=w'.heap.size->(∀ b,b<w.heap.size->¬ S i b->w'.heap[b]?=w.heap[b]?)->(∀ r',oe'=some r'->S i r'.b\/w.heap.size<=r'.b)->
   HOK X ρ (st.h.set i (some (@Chunk.mk (rvX (rowL oe' R)) own n ps))) w':=fun oe' w' hv e1 e2 e3 e4 e5 e6=>by
  refine Rl.heap.turnX E hi (d:=@Chunk.mk (rvX (rowL oe' R)) own n ps) (S':=fun b=>S i b\/∃ r',oe'=some r'/\b=r'.b) id (nlr _) (fun j hj=>rfl) e1 e2 e3 e4 e5 (fun b hb=>?_) hv
  rcases hb with hb|⟨r',hr',rfl⟩
  ·obtain⟨m1,m2,m3⟩:=E.mine i _ b hi hb;exact⟨xj m2 e4,m1,.inl hb⟩
  ·have hlt:r'.b<w'.heap.size:=by
    subst hr';exact((hv.at_ r' (qh2 r' R)).2.1).lt
   rcases e6 r' hr' with h|h
   ·exact⟨hlt,(E.mine i _ _ hi h).1,.inl h⟩
   ·exact⟨hlt,.inr Q8G,.inr h⟩
 by_cases hm0:m=0
 ·subst hm0;have hnews:news=[]:=by
   rcases hsrc X ρ a w Rl with ⟨_,_,h⟩|⟨_,_,_,h,_⟩
   ·exact h
   ·exact yS.1 Q9P
  subst hnews;have hset:st.h.set i (some (@Chunk.mk (rvX (rowL oe R)) own n ps))=st.h:=by
   refine yg fun j=>?_
   by_cases e:i=j
   ·subst e;rw[xx (xe.1 hi).1,hi]
   ·rw[xu e]
  have same:(Builtin.append_ #[t,t] o.type #[uR (rowO oe),a.eval y]).run P w=.ok (uR (rowO oe)) w:=by
   have hf0:=fun ad c=>run_firstCells_some (P:=P) w ei.size 0 ad 0 c [] Q8R Q8R
   rcases hsrc X ρ a w Rl with ⟨hv,_,_⟩|⟨ad,c,hv,_,_⟩
   ·rw[hv];cases oe with
    | none=>simp[rowO,uR,Builtin.append_,run_underlying h1,sizeOf,typeInfo,h2,Builtin.lenOf,run_firstCells_none]
    | some r=>
     have hc:=((V.at_ r (qh2 r R)).2.1).cap;simp[rowO,uR,Builtin.append_,run_underlying h1,sizeOf,typeInfo,h2,Builtin.lenOf,hc,run_firstCells_none,storeCells]
   ·rw[hv];cases oe with
    | none=>
     simp[rowO,uR,Builtin.append_,run_underlying h1,sizeOf,typeInfo,h2,Builtin.lenOf,hf0,storeCells]
    | some r=>
     have hc:=((V.at_ r (qh2 r R)).2.1).cap;simp[rowO,uR,Builtin.append_,run_underlying h1,sizeOf,typeInfo,h2,Builtin.lenOf,hc,hf0,storeCells]
  refine fin oe w (by rw[hx'];exact same) (by rw[hset];exact Rl.heap) ⟨rfl,by simp,hoe,by simp,fun r hr=>by subst hr;exact((V.at_ r (qh2 r R)).2.1).cap⟩
 obtain⟨ad,c,hv,hnl,hnc⟩:∃ ad c,a.eval y=.slice (some ad) m c/\news.length=m*ei.size/\∀ j u,news[j]?=some u->w.cell? (ad.add j)=some u:=by
  rcases hsrc X ρ a w Rl with ⟨_,h,_⟩|h
  ·exact absurd h hm0
  ·exact h
 have fresh:∀ (olds:List Value) (q old:Nat),oe=none/\q=0/\olds=[]\/(∃ r,oe=some r/\q=r.n/\olds=r.xs)->old<q+m->
   (Builtin.append_ #[t,t] o.type #[uR (rowO oe),a.eval y]).run P w=.ok (.slice (some ⟨w.heap.size,0,none⟩) (q+m) (grownCap w (q+m) old e)) (w.drew.alloc (.cells (olds.toArray++news.toArray++Builtin.zeroCells z.cells (grownCap w (q+m) old e-(q+m))) e))->olds.length=q*ei.size->q=rowN oe->o.wp P a w next Q:=fun olds q old hq hold hr hol hqn=>by
  have hge:=grownCap_ge w (q+m) old e
  have hcap:=hcm (q+m) old Q8G
  have hrow:=q9h (w:=w) (e:=e) hol hnl hzs hge hcap
  generalize hcc:grownCap w (q+m) old e=cap at hr hge hcap hrow
  have hB:Below w.heap.size w (w.drew.alloc (.cells (olds.toArray++news.toArray++Builtin.zeroCells z.cells (cap-(q+m))) e)):=((Below.refl _ _).drew).alloc (nlr _) _
  have hxs:jib oe=olds:=by rcases hq with ⟨rfl,_,rfl⟩|⟨r,rfl,_,rfl⟩<;>rfl
  refine fin (some ⟨true,e,ei.size,w.heap.size,0,cap,q+m,olds++news⟩) _ (by rw[hx',hr];rfl) (turn _ _ ?_ hB.os hB.tape hB.output hB.size (fun b hb _=>hB.block b hb) (fun r' hr'=>by obtain rfl:=Option.some.inj hr';exact .inr (nlr _))) ⟨by rw[<-hqn];rfl,by rw[hxs];rfl,fun r hr=>by obtain rfl:=Option.some.inj hr;exact⟨rfl,rfl,rfl⟩,⟨(fun h=>by cases h),fun h=>absurd h.2 hm0⟩,fun r hr=>by obtain rfl:=Option.some.inj hr;exact hge⟩
  have hR:∀ r∈R,S i r.b/\RwAt w r/\∀ W,ZW.z=some W->W.heap.size<=r.b:=fun r hr=>V.at_ r (qva oe R r hr)
  have hnd:(R.map Rw.b).Nodup:=by
   cases oe with
   | none=>exact V.nodup
   | some r=>have:=V.nodup;rw[show rowL (some r) R=r::R from rfl,xp,xL] at this;exact this.2
  refine⟨?_,fun r hr=>?_,fun W hW=>?_⟩
  rotate_left 2
  ·exact Q3q
  ·rw[show ∀ r,rowL (some r) R=r::R from fun _=>rfl,xp,xL];refine⟨fun hm=>?_,hnd⟩;obtain⟨r,hr,e'⟩:=xw.1 hm;have:=(hR r hr).2.1.lt;have e':r.b=w.heap.size:=e';omega
  ·rcases xg.1 hr with rfl|hr
   ·exact⟨.inr ⟨_,rfl,rfl⟩,.of hrow,fun W hW=>(V.base W hW).2.1⟩
   ·exact⟨.inl (hR r hr).1,(hR r hr).2.1.keep (hB.block _ (hR r hr).2.1.lt),(hR r hr).2.2⟩
 cases oe with
 | none=>
  have hr:=run_append_nil (P:=P) w t o.type e ei z h1 h2 hz ad m c news hnl hnc Q8G (by simp only[rowN] at h63;omega) (by simp only[rowN,xn] at hb;omega);refine fresh [] 0 0 (.inl ⟨rfl,rfl,rfl⟩) Q8G ?_ Q8R rfl;rw[hv];simpa[rowO,uR] using hr
 | some r=>
  obtain⟨q1,q2,q3⟩:=hoe r rfl;have A:=(V.at_ r (qh2 r R)).2.1;obtain⟨q4,hat⟩:=A.own q3;have hu:uR (rowO (some r))=.slice (some ⟨r.b,0,none⟩) r.n r.c:=by show Value.slice (some ⟨r.b,r.o,none⟩) r.n r.c=_;rw[q4]
  have hS:=(V.at_ r (qh2 r R)).1;have hxl:r.xs.length=r.n*ei.size:=by rw[A.len,q2]
  have hcel:∀ j,j<r.xs.length->w.cell? ⟨r.b,j,none⟩=r.xs[j]?:=fun j hj=>by have:=A.cell j hj;rw[q4,xn] at this;exact this
  obtain⟨cur,z0,hh,hz0,hcs⟩:=hat;rw[q2] at hcs;have hat:=qu9 hh hz0;by_cases hroom:r.n+m<=r.c
  ·have hin:∀ j,j<news.length->r.n*ei.size+j<cur.size:=fun j hj=>by
    have h3:(r.n+m)*ei.size<=r.c*ei.size:=xX _ hroom;rw[xA] at h3;omega
   have hst:=run_storeCells_cells (P:=P) r.b (r.n*ei.size) news 0 w (fun j hj=>(hat _ (by have:=hin j hj;omega)).1) (fun j hj=>(hat _ (by have:=hin j hj;omega)).2) hone;rw[yu] at hst;obtain⟨z1,z2,z3,z4,z5⟩:=qi5 r.b news (r.n*ei.size) w;have zf:=fun x=>World.frozen?_setCells r.b news (r.n*ei.size) w x
   have zi:=World.cell?_setCells_in r.b news (r.n*ei.size) w (fun j hj=>(hat _ (hin j hj)).1);have zo:∀ j,j<r.n*ei.size\/r.n*ei.size+news.length<=j->(w.setCells r.b (r.n*ei.size) news).cell? ⟨r.b,j,none⟩=w.cell? ⟨r.b,j,none⟩:=fun j hj=>World.cell?_setCells_out r.b news (r.n*ei.size) w ⟨r.b,j,none⟩ fun _ _=>hj
   have hr:(Builtin.append_ #[t,t] o.type #[.slice (some ⟨r.b,0,none⟩) r.n r.c,.slice (some ad) m c]).run P w=.ok (.slice (some ⟨r.b,0,none⟩) (r.n+m) r.c) (w.setCells r.b (r.n*ei.size) news):=by
    have hf:=run_firstCells_some (P:=P) w ei.size m ad m c news hnl hnc;simp[Builtin.append_,run_underlying h1,sizeOf,typeInfo,h2,Builtin.lenOf,hroom,hf,Addr.add_lit,hst]
   generalize hw':w.setCells r.b (r.n*ei.size) news=w' at *;have hrow:RwAt w' ⟨true,e,ei.size,r.b,0,r.c,r.n+m,r.xs++news⟩:=by
    refine⟨by rw[z4];exact A.lt,by show(r.xs++news).length=(r.n+m)*ei.size;rw[xt,hxl,hnl,xA],hroom,fun j hj=>?_,fun _=>⟨rfl,?_⟩⟩
    ·have hj:j<(r.xs++news).length:=hj;show w'.cell? ⟨r.b,0+j,none⟩=(r.xs++news)[j]?;rw[xn];by_cases hlt:j<r.xs.length
     ·rw[zo j (.inl Q8G),hcel j hlt,yF hlt]
     ·rw[xt] at hj;have hk:j-r.n*ei.size<news.length:=by omega
      have:=zi (j-r.n*ei.size) hk;rw[show r.n*ei.size+(j-r.n*ei.size)=j by omega] at this;rw[this,y7 Q8G,hxl,xr hk]
    ·obtain⟨cur',g1,g2⟩:=qj4 r.b news (r.n*ei.size) w cur r.e z0 hh;rw[hw'] at g1;show ∃ cur z,w'.heap[r.b]?=some (.cells cur e z)/\(z.1=z.2\/cur.size<=z.1)/\cur.size=r.c*ei.size;rw[q1] at g1;exact⟨cur',z0,g1,by rw[g2];exact hz0,by rw[g2];exact hcs⟩
   refine fin (some ⟨true,e,ei.size,r.b,0,r.c,r.n+m,r.xs++news⟩) w' (by rw[hx',hv,hu];exact hr) (turn _ _ ?_ z1 z2 z3 (yY z4.symm) (fun b hb hnS=>z5 b (fun e'=>hnS (e'▸hS))) (fun r' hr'=>by obtain rfl:=Option.some.inj hr';exact .inl hS)) ⟨rfl,rfl,fun r' hr'=>by obtain rfl:=Option.some.inj hr';exact⟨rfl,rfl,rfl⟩,⟨(fun h=>by cases h),fun h=>absurd h.2 hm0⟩,fun r' hr'=>by obtain rfl:=Option.some.inj hr';exact hroom⟩;have hnd:r.b∉R.map Rw.b/\(R.map Rw.b).Nodup:=by have:=V.nodup;rw[show rowL (some r) R=r::R from rfl,xp,xL] at this;exact this
   have hrb:=(V.at_ r (qh2 r R)).2.2;refine⟨?_,fun r' hr'=>?_,fun W hW=>?_⟩;rotate_left 2
   ·obtain⟨b1,b2,b3⟩:=V.base W hW;have:=hrb W hW;exact⟨b1,by omega,fun b hb=>⟨.inl (b3 b hb).1,(z5 b fun e'=>by omega).trans (b3 b hb).2⟩⟩
   ·rw[show ∀ r,rowL (some r) R=r::R from fun _=>rfl,xp,xL];exact hnd
   ·rcases xg.1 hr' with rfl|hr'
    ·exact⟨.inl hS,hrow,hrb⟩
    ·obtain⟨g1,g2,g3⟩:=V.at_ r' (qva _ _ _ hr');exact⟨.inl g1,g2.keep (z5 _ fun e'=>hnd.1 (xw.2 ⟨r',hr',e'⟩)),g3⟩
  ·have holds:∀ j u,r.xs[j]?=some u->w.cell? ((⟨r.b,0,none⟩:Addr).add j)=some u:=fun j u hju=>by
    rw[qej,xn,hcel j (xe.1 hju).1];exact hju
   have hr:=run_append_grow (P:=P) w t o.type e ei z h1 h2 hz ⟨r.b,0,none⟩ r.n r.c r.xs hxl holds ad m c news hnl hnc Q8G (by simp only[rowN] at h63;omega) (growslice_fits Q8G hb);refine fresh r.xs r.n r.c (.inr ⟨r,rfl,rfl,rfl⟩) Q8G ?_ hxl rfl;rw[hv,hu];exact hr
def jmq (y:Operand) (st:St) (hs:List Nat) (m k:Nat) (news:List Value):Prop:=
 ∀ st₂:St,(∀ u,EvTo y st u->EvTo y st₂ u)->(∀ i∈hs,st₂.h[i]?=st.h[i]?)->∀ X ρ a w,Rel X ρ st₂ a w->SrcR w (a.eval y) m k news
theorem q0v [ZW] {y:Operand} {t e:TypeId} {z p:Value} (oe:Option Rw) (R:List Rw) (i m:Nat) (news:List Value)
  (ho:o.op=.call ⟨.builtin .append,#[x,y],#[t,t]⟩) (hx:EvTo x st p) (hp:∀ ρ,den ρ p=uR (rowO oe))
  (h1:P.underlying t=some (.slice e)) (h2:P.info? e=some ei) (hz:ei.zero=some z) (hzs:z.cells.size=ei.size) (hs0:0<ei.size)
  (hi:st.h[i]?=some (some (@Chunk.mk (rvX (rowL oe R)) own n ps))) (hoe:∀ r,oe=some r->r.e=e/\r.k=ei.size/\r.w=true) (hs:List Nat) (hsrc:jmq y st hs m ei.size news) (hone:∀ u∈news,u.oneCell'=true)
  (h63:rowN oe+m<=35184372088831) (hb:(rowN oe+m)*ei.bytes<=140737488355328)
  (hK:∀ oe',Grew oe oe' e ei.size m news->K (uV (rowO oe')) [(i,@Chunk.mk (rvX (rowL oe' R)) own n ps)]):N (EffAll P o st K):=
 N.mk (q4m oe R m news ho hx hp h1 h2 hz hzs hs0 hi hoe (hsrc st (fun _ h=>h) fun _ _=>rfl) hone h63 hb hK)
theorem qrh {y:Operand} {j g u m q k:Nat} {cj:Chunk} {cs:List Value} (hs:List Nat) (hjs:j∈hs) (hy:EvTo y st (.slice (some ⟨j,g,some u⟩) m q)) (hj:st.h[j]?=some (some cj)) (hr:Reads cj g true (m*k) (.agg ⟨cs⟩)) (hp:cs.all qbd=true) :
  jmq y st hs m k cs:=fun st₂ ha hh X ρ a w Rl=>by
 have hj:=(hh j hjs).trans hj
 have hy:=ha _ hy
 have hy':a.eval y=.slice (some ⟨(ρ j).1,(ρ j).2+g,none⟩) m q:=(hy.den Rl).self.symm
 obtain⟨cs',e,hcl,hcc,hcd⟩:=qhv Rl.heap hj hr
 obtain rfl:cs=cs':=by simpa using e
 refine .inr ⟨_,q,hy',hcl,fun l v hv=>hcc l v ?_⟩
 have hl:=(xe.1 hv).1
 rw[xT,hv]
 have:qbd v=true:=xU.1 hp v (xG hv)
 show some (den1 ρ v)=some v
 rw[qby this]
theorem qov [ZW] {t:TypeId} {f i:Nat} {R:List Rw} (r:Rw) {v:Value} (p:Nat) (hG:jef P G) (ho:o.op=.load t x) (hx:EvTo x st (.pointer (some ⟨r.b,f,none⟩))) (hf:f=r.o+p) (hi:st.h[i]?=some (some (@Chunk.mk (rvX R) own n ps))) (hr:r∈R)
  (ht:jd2 G t fun _ d=>qd7 d=false) (hp:qbd v=true) (hk:r.xs[p]?=some v):OKs P o st v [] [i]:=fun st₂ hs hh _=>
 qa0 fun X ρ a w R'=>by
  have hi2:=(hh i Q8R).trans hi;have hx':=qsz (hs x Q8P _ hx) rfl R';obtain⟨ti,d,_,h2,hd⟩:=qao hG ht;obtain⟨S,E⟩:=R'.heap.ext;have V:RvOK R (ρ i) (S i) w:=E.inv i _ hi2;have hy:=((V.at_ r hr).2.1.cell p (xe.1 hk).1).trans hk;rw[<-hf] at hy;exact Q45
theorem q0w {t e:TypeId} {lo hi:Option Operand} {vl vh:Option Value} {b f l c p q:Nat} (ho:o.op=.slice t x lo hi none) (hx:EvTo x st (uV (some ⟨b,f,l,c,none⟩))) (hl:OptTo st lo vl) (hh:OptTo st hi vh) (h1:P.underlying t=some (.slice e)) (h2:P.info? e=some ei)
  (hq:Bnd vh l c q) (hp:Bnd vl 0 q p):OKs P o st (uV (some ⟨b,f+(if c=p then 0 else p*ei.size),q-p,c-p,none⟩)) [] []:=fun st₂ hs _ _=>
 qa0 fun X ρ a w R=>by
  have hx':a.eval x=.slice (some ⟨b,f,none⟩) l c:=by rw[<-((hs x Q8P _ hx).den R).self,qd3];rfl
  have e1:=qgb R hl (fun y hy=>hs y Q97);have e2:=qgb R hh (fun y hy=>hs y Q97);refine⟨uR (some ⟨b,f+(if c=p then 0 else p*ei.size),q-p,c-p,none⟩),?_,fun r _=>qd3 _ r⟩;refine Q3B ?_;by_cases hc:c=p<;>simp[hc,uR]
end
open Go Go.RowKit
theorem qri:∀ {l:List Rw},(l.map Rw.b).Nodup->∀ {q r:Rw},q∈l->r∈l->q.b=r.b->q=r
 | [],_,q,r,hq,_,_=>by cases hq
 | x::l,h,q,r,hq,hr,e=>by
  rw[xp,xL] at h;rcases xg.1 hq with hq2|hq2<;>rcases xg.1 hr with hr2|hr2
  ·rw[hq2,hr2]
  ·exact absurd (xw.2 ⟨r,hr2,by rw[<-e,hq2]⟩) h.1
  ·exact absurd (xw.2 ⟨q,hq2,by rw[e,hr2]⟩) h.1
  ·exact qri h.2 hq2 hr2 e
variable {ρ:Rz} {h:Hp} {ps:Pz}
theorem jc0 [ZW] {X:Ctx} {w':World} {i:Nat} {R:List Rw} {r:Rw} {own:Bool} {n:Nat} (H:HOK X ρ h w) (hi:h[i]?=some (some (@Chunk.mk (rvX R) own n ps))) (hB:Below w.heap.size w w') (he:RwAt w' r) (hge:w.heap.size<=r.b):HOK X ρ (h.set i (some (@Chunk.mk (rvX (r::R)) own n ps))) w':=by
 obtain⟨S,E⟩:=H.ext;have V:RvOK R (ρ i) (S i) w:=E.inv i _ hi;have hpi:=H.lt i _ hi;refine H.turnX E hi (d:=@Chunk.mk (rvX (r::R)) own n ps) (S':=fun b=>S i b\/b=r.b) id (nlr _) (fun j hj=>rfl) hB.os hB.tape hB.output hB.size (fun b hb _=>hB.block b hb) (fun b hb=>?_) ?_
 ·rcases hb with hb|rfl
  ·obtain⟨m1,m2,m3⟩:=E.mine i _ b hi hb;exact⟨xj m2 hB.size,m1,.inl hb⟩
  ·exact⟨he.lt,.inr Q8G,.inr hge⟩
 ·refine⟨?_,fun q hq=>?_,fun W hW=>?_⟩
  ·rw[xp,xL];refine⟨fun hm=>?_,V.nodup⟩;obtain⟨q,hq,e'⟩:=xw.1 hm;have:=(V.at_ q hq).2.1.lt;omega
  ·rcases xg.1 hq with rfl|hq
   ·exact⟨.inr rfl,he,fun W hW=>xF (V.base W hW).2.1 hge⟩
   ·exact⟨.inl (V.at_ q hq).1,(V.at_ q hq).2.1.keep (hB.block _ (V.at_ q hq).2.1.lt),(V.at_ q hq).2.2⟩
  ·exact Q3q
section
variable {P:Program} {G:Tys} {o:Oper} {st:St}
variable {R:List Rw} {ps:Pz}
theorem qws [ZW] {t e:TypeId} {m i:Nat} {pp:Array (Nat×Operand)} {vs:Vz} {ei:TypeInfo} {z:Value} {out:List Value} {own:Bool} {n:Nat} {K:Value->Mz->Prop}
  (ho:o.op=.buildSlice t m pp) (hx:qe7 st pp.toList vs) (h2:P.underlying t=some (.slice e)) (h3:P.info? e=some ei) (hz:ei.zero=some z) (hp:qap z=true) (hfz:flatB z ei.size=true) (hs0:0<ei.size) (hn:m*ei.size<=16777216)
  (hout:jfh (fun i=>some (i*ei.size,ei.size)) (segL (m*ei.size) (jfi ei.size z)) vs=some out) (hlen:out.length=m*ei.size) (hpl:out.all qbd=true) (hm0:0<m*ei.size)
  (hi:st.h[i]?=some (some (@Chunk.mk (rvX R) own n ps)))
  (hK:∀ b,K (uV (some ⟨b,0,m,m,none⟩)) [(i,@Chunk.mk (rvX (⟨true,e,ei.size,b,0,m,m,out⟩::R)) own n ps)]):EffAll P o st K:=fun X ρ a w Rl next Q hk=>by
 obtain⟨e1,e2⟩:=qga Rl _ _ hx (fun p hp=>fun u hu=>hu)
 have hzv:(zeroValue e).run P w=.ok z w:=by simp[zeroValue,typeInfo,Sem.run_bind,run_program,Result.andThen_ok,h3,hz]
 have hcells:((Array.range (m*ei.size)).map (z.cells[· % z.cells.size]!))=⟨(segL (m*ei.size) (jfi ei.size z)).map (den1 ρ)⟩:=Q3O
 have hr:=qed (ρ:=ρ) vs _ _ hout
 rw[<-e1] at hr
 have hmap:out.map (den1 ρ)=out:=(yk fun v hv=>qby (xU.1 hpl v hv) ρ).trans (List.map_id _)
 have hf:Instr.fill (fun i=>some (i*ei.size,ei.size)) ⟨(segL (m*ei.size) (jfi ei.size z)).map (den1 ρ)⟩ ((pp.map fun(p:Nat×Operand)=>(p.1,a.eval p.2)).toList)=some ⟨out⟩:=by
  rw[xz,<-hmap];exact hr
 have hrun:(execOp a.eval o).run P w=.ok (.value (.slice (some ⟨w.heap.size,0,none⟩) m m)) (w.alloc (.cells ⟨out⟩ e)):=by
  have g1:¬ m*ei.size > 2^24:=by omega
  have g2:¬ m*ei.size=0:=by omega
  exact Q3v
 have hB:Below w.heap.size w (w.alloc (.cells ⟨out⟩ e)):=(Below.refl _ _).alloc (nlr _) _
 have hrow:RwAt (w.alloc (.cells ⟨out⟩ e)) ⟨true,e,ei.size,w.heap.size,0,m,m,out⟩:=.row (heap_alloc_new w _) (.inl rfl) (by show out.length=m*ei.size;exact hlen) (by show out.take (m*ei.size)=out;rw[<-hlen];exact List.take_length) hlen (nlr _)
 have H':=jc0 Rl.heap hi hB hrow (nlr _)
 unfold Oper.wp
 rw[hrun]
 exact hk _ _ ρ _ _ (hK w.heap.size) ⟨AgreeOn.refl _ _,H',fun r _=>qd3 _ r⟩
theorem q9i [ZW] {s e:TypeId} {x:Operand} {i:Nat} {own:Bool} {n:Nat} (r:Rw) (ho:o.op=.convert s s x) (hx:EvTo x st (uV (some r.sl))) (h1:P.underlying s=some (.slice e)) (h2:P.underlying e=some (.int .u8)) (hw:r.w=true) (hr:r∈R) (hi:st.h[i]?=some (some (@Chunk.mk (rvX R) own n ps))):OKs P o st (uV (some r.sl)) [(i,@Chunk.mk (rvX R) own n ps)] []:=fun st₂ hs _ hh=>
 qdf fun X ρ a w Rl=>by
  have hi:=(hh _ Q6X).trans hi;have hx':a.eval x=uR (some r.sl):=by rw[<-((hs x Q8P _ hx).den Rl).self,qd3]
  obtain⟨S,E⟩:=Rl.heap.ext;have V:RvOK R (ρ i) (S i) w:=E.inv i _ hi;obtain⟨hSb,A,hZ⟩:=V.at_ r hr;obtain⟨q4,cur,z,hhb,hz,hcs⟩:=A.own hw;have hsh:w.shape? r.b=some (r.e,cur.size):=by unfold World.shape?;rw[hhb]
  let z':Nat×Nat:=if z.1==z.2 then (cur.size,cur.size+1) else (min z.1 cur.size,max z.2 (cur.size+1));have hb':(w.freeze ⟨r.b,cur.size,none⟩ 1).heap[r.b]?=some (.cells cur r.e z'):=by
   unfold World.freeze;rw[if_neg Q8H];simp only[zh,if_pos,hhb,yx];rfl
  have hoth:∀ k,k≠r.b->(w.freeze ⟨r.b,cur.size,none⟩ 1).heap[k]?=w.heap[k]?:=fun k hk=>by
   unfold World.freeze;rw[if_neg Q8H];simp only[zh,if_neg (Ne.symm hk)]
  have hsz:(w.freeze ⟨r.b,cur.size,none⟩ 1).heap.size=w.heap.size:=by
   unfold World.freeze;rw[if_neg Q8H];simp
  have hz':z'.1=z'.2\/cur.size<=z'.1:=by
   show(if z.1==z.2 then (cur.size,cur.size+1) else (min z.1 cur.size,max z.2 (cur.size+1))).1=(if z.1==z.2 then (cur.size,cur.size+1) else (min z.1 cur.size,max z.2 (cur.size+1))).2\/cur.size<=(if z.1==z.2 then (cur.size,cur.size+1) else (min z.1 cur.size,max z.2 (cur.size+1))).1;by_cases e:z.1=z.2
   ·rw[if_pos (yj.2 e)];exact .inr (nlr _)
   ·rw[if_neg (by rw[yj];exact e)];rcases hz with hz|hz
    ·exact absurd hz e
    ·exact .inr (by show cur.size<=min z.1 cur.size;omega)
  have hrow:RwAt (w.freeze ⟨r.b,cur.size,none⟩ 1) r:=by
   refine⟨by rw[hsz];exact A.lt,A.len,A.cap,fun j hj=>?_,fun _=>⟨q4,cur,z',hb',hz',hcs⟩⟩;rw[<-A.cell j hj];simp only[World.cell?,hb',hhb]
  refine⟨ρ,uR (some r.sl),w.freeze ⟨r.b,cur.size,none⟩ 1,?_,AgreeOn.refl _ _,?_,fun r' _=>qd3 _ r'⟩
  ·have hrun:(markStringish ⟨r.b,r.o,none⟩).run P w=.ok () (w.freeze ⟨r.b,cur.size,none⟩ 1):=by
    simp only[markStringish,Sem.run_bind,run_shape,Result.andThen_ok,hsh,run_freeze]
   simp only[execOp,ho,hx',convert,underlying,Sem.run_bind,run_program,Result.andThen_ok,h1,h2,Sem.run_pure,uR,beq_self_eq_true,hrun]
  ·refine Rl.heap.turnX E hi (d:=@Chunk.mk (rvX R) own n ps) (S':=S i) id (nlr _) (fun j hj=>rfl) ?_ ?_ ?_ (yY hsz.symm) (fun b _ hnS=>hoth b fun e'=>hnS (e'▸hSb)) (fun b hb=>?_) ?_
   ·exact Q4W
   ·exact Q4W
   ·exact Q4W
   ·obtain⟨m1,m2,m3⟩:=E.mine i _ b hi hb;exact⟨by rw[hsz];exact m2,m1,.inl hb⟩
   ·refine⟨V.nodup,fun q hq=>⟨(V.at_ q hq).1,?_,(V.at_ q hq).2.2⟩,fun W hW=>?_⟩
    ·by_cases e:q.b=r.b
     ·rw[qri V.nodup hq hr e];exact hrow
     ·exact(V.at_ q hq).2.1.keep (hoth _ e)
    ·obtain⟨b1,b2,b3⟩:=V.base W hW;have:=hZ W hW;exact⟨b1,by omega,fun b hb=>⟨(b3 b hb).1,(hoth b fun e'=>by omega).trans (b3 b hb).2⟩⟩
end
theorem HOK.soft {X:Ctx} {i n:Nat} {o:Bool} {x y:Ext} (H:HOK X ρ h w) (hi:h[i]?=some (some (@Chunk.mk x o n ps))) (hxy:∀ p S w,x.inv p S w->y.inv p S w):HOK X ρ (h.set i (some (@Chunk.mk y o n ps))) w:=by
 have hil:=(xe.1 hi).1;obtain⟨S,E⟩:=H.ext;have back:∀ (j:Nat) (d:Chunk),(h.set i (some (@Chunk.mk y o n ps)))[j]?=some (some d)->∃ d0:Chunk,h[j]?=some (some d0)/\d.own=d0.own/\d.n=d0.n/\(∀ l,d.f l=d0.f l)/\(∀ p S w,d0.x.inv p S w->d.x.inv p S w):=fun j d hj=>by
  by_cases e:i=j
  ·subst e;rw[xx hil] at hj;obtain rfl:=Option.some.inj (Option.some.inj hj);exact⟨_,hi,rfl,rfl,fun _=>rfl,hxy⟩
  ·rw[xu e] at hj;exact⟨d,hj,rfl,rfl,fun _=>rfl,fun _ _ _ h=>h⟩
 have fil:∀ j,Sx.Fil h j->Sx.Fil (h.set i (some (@Chunk.mk y o n ps))) j:=fun j hj=>hj.set
 refine⟨H.evo,fun j hj=>⟨fil j (H.base j hj).1,(H.base j hj).2⟩,fun j d hj=>?_,fun j d hj l hl=>?_,fun j d hj ho l hl=>?_,fun j d l e hj ho hl hne=>?_,S,fun j d hj=>?_,fun j d b hj hb=>?_,fun j d b l e hj hb hl hne=>?_⟩
 ·obtain⟨d0,h0,_⟩:=back j d hj;exact H.lt _ _ h0
 ·obtain⟨d0,h0,_,hn,hf,_⟩:=back j d hj;obtain⟨v,hv,hd⟩:=H.cell j d0 h0 l Q8G;exact⟨v,hv,by rw[hf];exact hd.more (AgreeOn.refl _ _) fil⟩
 ·obtain⟨d0,h0,h1,hn,_⟩:=back j d hj;exact H.own j d0 h0 (h1▸ho) l Q8G
 ·obtain⟨d0,h0,h1,_⟩:=back j d hj;obtain⟨e0,g0,_⟩:=back l e hl;exact H.sep _ _ _ _ h0 (h1▸ho) g0 hne
 ·obtain⟨d0,h0,_,_,_,hx⟩:=back j d hj;exact hx _ _ _ (E.inv j d0 h0)
 ·obtain⟨d0,h0,_,hn,_⟩:=back j d hj;rw[hn];exact E.mine j d0 b h0 hb
 ·obtain⟨d0,h0,_⟩:=back j d hj;obtain⟨e0,g0,_⟩:=back l e hl;exact E.apart j d0 b l e0 h0 hb g0 hne
theorem q0x [ZW] {R R2:List Rw} (hs:List.Sublist R R2):∀ p S w,(rvX R2).inv p S w->(rvX R).inv p S w:=fun p S w V=>by
 have V:RvOK R2 p S w:=V;exact⟨(hs.map _).nodup V.nodup,fun r hr=>V.at_ r (hs.subset hr),V.base⟩
theorem CallAll.soft {P:Program} {g:FuncId} {vs:List Value} {R R':Value->Mz->Prop} (k:CallAll P g vs h R) (hR:∀ v ms,R v ms->∃ (i:Nat) (x y:Ext) (o:Bool) (n:Nat) (ps:Pz) (ms':Mz),(modH h ms)[i]?=some (some (@Chunk.mk x o n ps))/\(∀ p S w,x.inv p S w->y.inv p S w)/\(modH h ms).set i (some (@Chunk.mk y o n ps))=modH h ms'/\R' v ms'):CallAll P g vs h R':=by
 intro X ρ w xs H hx;have go:∀ x w',(∃ v ms ρ',R v ms/\AgreeOn (Sx.Fil h) ρ ρ'/\HOK X ρ' (modH h ms) w'/\Den (Sx.Fil (modH h ms)) ρ' v x)->∃ v ms ρ',R' v ms/\AgreeOn (Sx.Fil h) ρ ρ'/\HOK X ρ' (modH h ms) w'/\Den (Sx.Fil (modH h ms)) ρ' v x:=fun x w' ⟨v,ms,ρ',hq,ha,hH,hd⟩=>by
  obtain⟨i,ex,ey,o,n,ps,ms',h1,h2,h3,h4⟩:=hR v ms hq;have hH':=hH.soft h1 h2;rw[h3] at hH';exact⟨v,ms',ρ',h4,ha,hH',hd.more (AgreeOn.refl _ _) fun j hj=>by rw[<-h3];exact hj.set⟩
 rcases k X ρ w xs H hx with ⟨v,w',hr,hq⟩|⟨hr,hcl⟩
 ·exact .inl ⟨v,w',hr,go _ _ hq⟩
 ·exact .inr ⟨hr,hcl.mono fun e w' ⟨y,he,hq⟩=>⟨y,he,go _ _ hq⟩⟩
section
variable {P:Program} {G:Tys}
variable {vs:List Value}
theorem qow {g:FuncId} {h:Hp} {slot:Nat} {C:List Nat->Prop} {K:List Nat->Value->Mz->Prop} (hs:List Nat) (R:Value->Mz->Prop) (hC:C hs) (hc:∀ h₂:Hp,(∀ q∈hs,h₂[q]?=h[q]?)->CallAll P g vs h₂ R) (k:∀ v ms,R v ms->(∀ q∈ms.map (·.1),q∈hs)/\K hs v ms):N (jim P g vs h slot C K):=N.mk ⟨hs,R,hC,hc,k⟩
theorem q0y [ZW] {f:FuncId} {fn:Func} {c:Code} (W:World) (hz:ZW.z=some W) {α:Type} (V:α->Value) (D:α->List Rw) (ok:α->Prop) (hG:jef P G) (hm:P.follows .mixedOrders=true) (hf:P.funcs[f]?=some fn) (hb:fn.body=some c) (hW:0<W.heap.size) (hp:vs.all qap=true) (hV:∀ κ r r',den r (V κ)=den r' (V κ))
  (hwp:initK vs fn.ntmps fun t=>wpC P G 1 c (bodyQ P G fn fun v st=>N (∃ κ,ok κ/\v=V κ/\st.h[0]?=some (some (rvC (D κ))))) ⟨t,[some (rvC [])]⟩):Calls P f ⟨vs⟩ W fun e w'=>∃ κ,ok κ/\e=.returned (den (fun _=>(0,0)) (V κ))/\Below W.heap.size W w'/\∀ r∈D κ,RwAt w' r/\W.heap.size<=r.b:=by
 let X:Ctx:=⟨W,fun a=>a.block<W.heap.size,1,fun _=>(0,0)⟩
 have one:∀ (k:Nat) (d:Chunk),[some (rvC [])][k]?=some (some d)->k=0/\d=rvC []:=fun k d hk=>Q4B
 have H:HOK X (fun _=>(0,0)) [some (rvC [])] W:=Q19
 have hd:∀ {vs:List Value},vs.all qap=true->All2 (Den (Sx.Fil [some (rvC [])]) (fun _=>(0,0))) vs vs:=by
  intro vs
  induction vs with
  | nil=>exact fun _=>trivial
  | cons v r ih=>
   intro hp;simp only[yt,xo] at hp;exact⟨Den.plain hp.1,ih hp.2⟩
 refine(qih (args:=⟨vs⟩) (X:=X) hG hm hf hb H (hd hp) hwp).mono ?_
 rintro e w' ⟨ρ',v,st,x,rfl,H',hdx,hq⟩
 obtain⟨κ,hκ,rfl,hF⟩:=hq.out
 obtain⟨S,E⟩:=H'.ext
 have M:RvOK (D κ) (ρ' 0) (S 0) w':=E.inv 0 _ hF
 refine⟨κ,hκ,?_,⟨H'.evo.os,H'.evo.tape,H'.evo.output,H'.evo.size,fun b hb=>((M.base W hz).2.2 b hb).2⟩,fun r hr=>⟨(M.at_ r hr).2.1,(M.at_ r hr).2.2 W hz⟩⟩
 rw[<-hdx.self,hV κ ρ' fun _=>(0,0)]
end
end Go.Proofs.YtfkngpmgcimdbaaGreat.Sx


namespace Go.Proofs.YtfkngpmgcimdbaaGreat
open Go Go.RowKit Sx
variable {ix:List (Nat×Nat)}
theorem qc3 {v u:Value} (h:v=u) (hp:qan v=true):Re ix v u:=by subst h;exact .plain hp
theorem qcm [ZW] {R R':List Rw}:∀ j,j<0->Re1 ix ((rvC R).f j) ((rvC R').f j):=nzj
theorem qfj [ZW] {R:List Rw}:ChunkReLe ix (rvC R) (rvC R):=⟨id,nlr _,qcm⟩
theorem qcb {k:IntKind} {a b:Int} (h:a=b):Value.int k a=.int k b:=by rw[h]
variable {o:Bool} {n:Nat}
theorem q0z {m:Nat} {l:List Value} (hl:l.length=n) (hm:m=n):Reads ⟨o,n,[(0,n,.agg ⟨l⟩)]⟩ 0 true m (.agg ⟨l⟩):=by
 subst hl hm;refine⟨yY (xn _),_,rfl,rfl,fun j hj=>?_⟩;show qa3 _ _=_;rw[qam,if_pos Q8G,xn,Nat.sub_zero];rfl
def qvb (n:Int) (i:Nat):Int:=n / 256^i%256
def beK (n:Int) (w:Nat):Nat->List Int
 | 0=>[]
 | k+1=>beK n w k++[qvb n (w-1-k)]
abbrev be (n:Int) (w:Nat):List Int:=beK n w w
theorem qs0 (n:Int) (w:Nat):∀ k,(beK n w k).length=k
 | 0=>rfl
 | k+1=>by rw[beK,xt,qs0 n w k];rfl
structure BufOK (r:Rw) (bs:List Int):Prop where
 w:r.w=true
 e:r.e=5
 k:r.k=1
 n:r.n=bs.length
 xs:r.xs=bs.map (Value.int .u8)
theorem BufOK.grew {r r':Rw} {bs cs:List Int} (h:BufOK r bs) (hg:Grew (some r) (some r') 5 1 cs.length (cs.map (Value.int .u8))):BufOK r' (bs++cs):=by
 obtain⟨h1,h2,h3⟩:=hg.ty r' rfl;exact⟨h3,h1,h2,by have:=hg.n;show rowN (some r')=_;rw[this,xt];show r.n+_=_;rw[h.n],by have:=hg.xs;show jib (some r')=_;rw[this,y9];show r.xs++_=_;rw[h.xs]⟩
theorem q00:∃ ei z,prog.info? 5=some ei/\ei.size=1/\ei.bytes<=1000/\ei.zero=some z/\z.cells.size=1:=by
 obtain⟨ei,d,h1,h2,h3⟩:=qao tysOK (t:=5) (K:=fun ei _=>ei.size=1/\ei.bytes<=1000/\∃ z,ei.zero=some z/\z.cells.size=1) ⟨rfl,by decide,_,rfl,rfl⟩;obtain⟨h3,h4,z,h5,h6⟩:=h3;exact⟨ei,z,h1,h3,h4,h5,h6⟩
theorem q4n (n:Int) (m:Nat) (hm:m<=7):IntKind.u8.wrap (n.fdiv (2^sh ((8*m:Nat):Int) IntKind.i64))=qvb n m:=by
 have h1:sh ((8*m:Nat):Int) IntKind.i64=8*m:=by
  unfold sh;rw[y5];show min (8*m) 64=8*m;omega
 have h2:(2:Int)^(8*m)=256^m:=by rw[Int.pow_mul];rfl
 rw[h1,h2,wrap_u8,Int.fdiv_eq_ediv_of_nonneg _ (Int.pow_nonneg Q8H)];rfl
theorem q01 (M:List Int):∀ u∈M.map (Value.int .u8),u.oneCell'=true:=fun u hu=>by
 obtain⟨e,_,rfl⟩:=xw.1 hu;rfl
variable {ps:Pz} {K:Value->Mz->Prop}
theorem jmr [ZW] {o:Oper} {st:St} {x y:Operand} {p:Value} {own:Bool} (r:Rw) (R:List Rw) (bs cs:List Int) (i:Nat) (hs:List Nat) (hr:BufOK r bs)
  (ho:o.op=.call ⟨.builtin .append,#[x,y],#[37,37]⟩) (hx:EvTo x st p) (hp:∀ ρ,den ρ p=uR (some r.sl)) (hi:st.h[i]?=some (some (@Chunk.mk (rvX (r::R)) own n ps)))
  (hsrc:jmq y st hs cs.length 1 (cs.map (Value.int .u8))) (hl:bs.length+cs.length<=100000) (hK:∀ r',BufOK r' (bs++cs)->K (uV (some r'.sl)) [(i,@Chunk.mk (rvX (r'::R)) own n ps)]):N (EffAll prog o st K):=by
 obtain⟨ei,z,h1,h2,h3,h4,h5⟩:=q00
 have hn:rowN (some r)=bs.length:=hr.n
 have hb:(rowN (some r)+cs.length)*ei.bytes<=100000*1000:=yC (by rw[hn];exact hl) h3
 refine q0v (e:=5) (ei:=ei) (z:=z) (some r) R i cs.length (cs.map (Value.int .u8)) ho hx hp underlying37 h1 h4 (by rw[h5,h2]) Qa2 hi (fun q hq=>by cases hq;rw[h2];exact⟨hr.e,hr.k,hr.w⟩) hs (by rw[h2];exact hsrc) (q01 cs) (by rw[hn];omega) Q8G fun oe' hg=>?_
 rw[h2] at hg
 cases oe' with
 | none=>exact absurd (hg.nil.1 rfl).1 Q8R
 | some r'=>exact hK r' (hr.grew hg)
theorem jgz [ZW] (r:Rw) (R:List Rw) (bs:List Int) (hr:BufOK r bs) (n:Int) (hn : -9223372036854775808<=n/\n<=9223372036854775807) (w:Nat) (hw:1<=w/\w<=8) (hl:bs.length<=1000) (i:Nat) (h:Hp) (hi:h[i]?=some (some (rvC (r::R)))) :
  CallAll prog 60 [uV (some r.sl),xc n,xc (w:Nat)] h (fun v ms=>∃ r':Rw,BufOK r' (bs++be n w)/\v=uV (some r'.sl)/\ms=[(i,rvC (r'::R))]):=by
 have key:=qaw (G:=tys) (h:=h) (vs:=[uV (some r.sl),.int .i64 n,.int .i64 (w:Nat)]) (fun _:Unit=>True) (fun _=>_) (α:=Rw) (fun κ=>BufOK κ (bs++be n w)) (fun κ=>uV (some κ.sl)) [⟨i,rvC (r::R),rvC (r::R),rvC (r::R)⟩] (fun κ=>[rvC (κ::R)]) (fun κ=>[]) [uV (some r.sl),.int .i64 n,.int .i64 (w:Nat)] tysOK mixed func60 Q8I (call60) ⟨hi,xb⟩ Q6L (fun κ _=>Q6L) Q8N Q6A (fun κ _=>trivial) ⟨.quo,.plain rfl,.plain rfl,xb⟩ Opens.same ?_
 ·exact Q2l
 rintro⟨⟩ -
 have e0:IntKind.i64.wrap ((w:Int)-1)=(w:Int)-1:=jdx _ Q8G Q8G
 have ek:(w:Int)-1-((0:Nat):Int)=IntKind.i64.wrap ((w:Int)-1):=by rw[e0];omega
 repeat' (refine Bb ?_;first|refine Q55 ?_|fail)
 refine Bb ?_
 refine Bw (α:=Nat×Rw) (fun q=>q.1<=w/\BufOK q.2 (bs++beK n w q.1)) (fun q=>w-q.1) (fun q=>[(0,uV (some q.2.sl)),(7,xc ((w:Int)-1-(q.1:Int)))]) (fun q=>[(0,rvC (q.2::R))]) (0,r) [(0,0)] ⟨xm _,by show BufOK r (bs++[]);rw[zr];exact hr⟩ ?_ ?_
 ·exact Q25
 rintro⟨k,q⟩ ⟨hk,hq⟩
 have hk:k<=w:=hk
 have hq:BufOK q (bs++beK n w k):=hq
 have hql:(bs++beK n w k).length=bs.length+k:=by rw[xt,qs0]
 by_cases hkw:k<w
 ·have e8:IntKind.i64.wrap (8*((w:Int)-1-(k:Int)))=((8*(w-1-k):Nat):Int):=by rw[jdx _ Q8G Q8G];omega
  have ev:=q4n n (w-1-k) Q8G;rw[<-e8] at ev;have ek:(w:Int)-1-((k+1:Nat):Int)=IntKind.i64.wrap ((w:Int)-1-(k:Int)-1):=by rw[jdx _ Q8G Q8G];omega
  refine Q2i ?_;refine jmr q R (bs++beK n w k) [_] 0 [_] hq rfl rfl (fun ρ=>qd3 _ ρ) Q8I (qrh [_] Q6X rfl Q8I (q0z Q8I Q8I) rfl) (by rw[hql];show _+1<=_;omega) fun q' hq'=>?_
  rw[ev,zx] at hq';refine Q2i ?_;refine Br (α:=Nat×Rw) (k+1,q') [(0,0)] ⟨⟨hkw,hq'⟩,by show w-(k+1)<w-k;omega⟩ ?_;exact Q25
 ·obtain rfl:k=w:=by omega
  repeat' (refine Bb ?_;first|refine Q55 ?_|refine Q61 ?_|refine Bq ?_|refine Bo q ⟨hq,?_⟩|refine Ba (.one .quo) ?_|refine Ba Q6Z ?_|refine Q5a ?_|exact Bg|fail)
abbrev jpx (n:Int):Bool:=IntKind.u32.wrap ((BitVec.ofInt IntKind.u32.bits n &&& BitVec.ofInt IntKind.u32.bits 1).toNat:Int)==1
abbrev jfz (a b:Int):Int:=IntKind.u32.wrap ((BitVec.ofInt IntKind.u32.bits a ^^^ BitVec.ofInt IntKind.u32.bits b).toNat:Int)
abbrev jg7 (n k:Int):Int:=n.fdiv (2^sh k IntKind.u32)
def jos (n:Int):Int:=if jpx n=true then jfz (jg7 n 1) 3988292384 else jg7 n 1
def jjp (n:Int):Nat->Int
 | 0=>n
 | k+1=>jos (jjp n k)
def jjq (i:Nat):Int:=jjp (IntKind.u32.wrap (i:Int)) 8
structure TabOK (oe:Option Rw) (l:List Int):Prop where
 n:rowN oe=l.length
 xs:jib oe=l.map (Value.int .u32)
 ty:∀ r,oe=some r->r.e=104/\r.k=1/\r.w=true
theorem TabOK.nil:TabOK none []:=⟨rfl,rfl,(fun r h=>by cases h)⟩
theorem TabOK.grew {oe oe':Option Rw} {M M2:List Int} (h:TabOK oe M) (hg:Grew oe oe' 104 1 M2.length (M2.map (Value.int .u32))):TabOK oe' (M++M2):=
 ⟨by rw[hg.n,h.n,xt],by rw[hg.xs,h.xs,y9],hg.ty⟩
theorem q4o:∃ ei z,prog.info? 104=some ei/\ei.size=1/\ei.bytes<=1000/\ei.zero=some z/\z.cells.size=1:=by
 obtain⟨ei,d,h1,h2,h3⟩:=qao tysOK (t:=104) (K:=fun ei _=>ei.size=1/\ei.bytes<=1000/\∃ z,ei.zero=some z/\z.cells.size=1) ⟨rfl,by decide,_,rfl,rfl⟩;obtain⟨h3,h4,z,h5,h6⟩:=h3;exact⟨ei,z,h1,h3,h4,h5,h6⟩
theorem q4p (M:List Int):∀ u∈M.map (Value.int .u32),u.oneCell'=true:=fun u hu=>by
 obtain⟨e,_,rfl⟩:=xw.1 hu;rfl
theorem jqw [ZW] {o:Oper} {st:St} {x y:Operand} {p:Value} {own:Bool} (oe:Option Rw) (R:List Rw) (M M2:List Int) (i:Nat) (hs:List Nat) (hoe:TabOK oe M)
  (ho:o.op=.call ⟨.builtin .append,#[x,y],#[87,87]⟩) (hx:EvTo x st p) (hp:∀ ρ,den ρ p=uR (rowO oe)) (hi:st.h[i]?=some (some (@Chunk.mk (rvX (rowL oe R)) own n ps)))
  (hsrc:jmq y st hs M2.length 1 (M2.map (Value.int .u32))) (hl:M.length+M2.length<=100000) (hK:∀ oe',TabOK oe' (M++M2)->K (uV (rowO oe')) [(i,@Chunk.mk (rvX (rowL oe' R)) own n ps)]):N (EffAll prog o st K):=by
 obtain⟨ei,z,h1,h2,h3,h4,h5⟩:=q4o
 have hb:(rowN oe+M2.length)*ei.bytes<=100000*1000:=yC (by rw[hoe.n];exact hl) h3
 exact q0v (e:=104) (ei:=ei) (z:=z) oe R i M2.length (M2.map (Value.int .u32)) ho hx hp underlying87 h1 h4 (by rw[h5,h2]) Qa2 hi (fun r hr=>by rw[h2];exact hoe.ty r hr) hs (by rw[h2];exact hsrc) (q4p M2) (by rw[hoe.n];omega) Q8G fun oe' hg=>hK oe' (hoe.grew (by rw[h2] at hg;exact hg))
def jg0 (k:Nat):List Int:=(List.range k).map jjq
theorem qkj (k:Nat):(jg0 k).length=k:=by unfold jg0;rw[yH,List.length_range]
theorem q6r [ZW] (R:List Rw) (i:Nat) (h:Hp) (hi:h[i]?=some (some (rvC R))) :
  CallAll prog 95 [] h (fun v ms=>∃ r:Rw,TabOK (some r) (jg0 256)/\v=uV (some r.sl)/\ms=[(i,rvC (r::R))]):=by
 have key:=qaw (G:=tys) (h:=h) (vs:=[]) (fun _:Unit=>True) (fun _=>_) (α:=Rw) (fun κ=>TabOK (some κ) (jg0 256)) (fun κ=>uV (some κ.sl)) [⟨i,rvC R,rvC R,rvC R⟩] (fun κ=>[rvC (κ::R)]) (fun κ=>[]) [] tysOK mixed func95 Q8I (call95) ⟨hi,xb⟩ Q6L (fun κ _=>Q6L) Q8N Q6A (fun κ _=>trivial) xb Opens.same ?_
 ·exact Q2l
 rintro⟨⟩ -
 repeat' (refine Bb ?_;first|refine Q55 ?_|refine Q6i ?_|refine Q61 ?_|fail)
 refine Bb ?_
 refine Bw (α:=Nat×Option Rw) (fun q=>q.1<=256/\TabOK q.2 (jg0 q.1)) (fun q=>256-q.1) (fun q=>[(1,uV (rowO q.2)),(5,xc (q.1:Int))]) (fun q=>[(0,rvC (rowL q.2 R))]) (0,none) [(0,0)] ⟨by decide,TabOK.nil⟩ ?_ ?_
 ·exact Q1Q
 rintro⟨k,oe⟩ ⟨hk,hoe⟩
 have hk:k<=256:=hk
 have hoe:TabOK oe (jg0 k):=hoe
 by_cases hkl:k<256
 ·refine Q1i ?_;refine Bt (α:=Nat) (fun m=>m<=8) (fun m=>8-m) (fun m=>[(3,.int .u32 (jjp (IntKind.u32.wrap (k:Int)) m)),(10,xc (m:Int))]) (fun m=>[]) 0 Q8H ?_ ?_
  ·exact Q1V
  intro m hm;have hm:m<=8:=hm;by_cases hm8:m<8
  ·generalize hx:jjp (IntKind.u32.wrap (k:Int)) m=x;have em:IntKind.i64.wrap ((m:Int)+1)=((m+1:Nat):Int):=by rw[jdx _ Q8G Q8G];rfl
   by_cases ho:jpx x=true
   ·have es:jfz (jg7 x 1) 3988292384=jjp (IntKind.u32.wrap (k:Int)) (m+1):=by rw[jjp,hx,jos,if_pos ho]
    exact Q0W
   ·have es:jg7 x 1=jjp (IntKind.u32.wrap (k:Int)) (m+1):=by rw[jjp,hx,jos,if_neg ho]
    exact Q0W
  ·obtain rfl:m=8:=by omega
   have ek:((k+1:Nat):Int)=IntKind.i64.wrap ((k:Int)+1):=by rw[jdx _ Q8G Q8G];rfl
   refine Q1i ?_;refine jqw oe R (jg0 k) [_] 0 [_] hoe rfl rfl (fun ρ=>qd3 _ ρ) Q8I (qrh [_] Q6X rfl Q8I (q0z Q8I Q8I) rfl) (by rw[qkj];show _+1<=_;omega) fun oe' hoe'=>?_
   have hoe2:TabOK oe' (jg0 (k+1)):=by
    unfold jg0;rw[List.range_succ,y9];exact hoe'
   refine Q1i ?_;refine Br (α:=Nat×Option Rw) (k+1,oe') [(0,0)] ⟨⟨hkl,hoe2⟩,by show 256-(k+1)<256-k;omega⟩ ?_;exact Q1Q
 ·obtain rfl:k=256:=by omega
  cases oe with
  | none=>have:=hoe.n;rw[qkj] at this;exact absurd this Q8H
  | some r=>
   repeat' (refine Bb ?_;first|refine Q55 ?_|refine Q61 ?_|refine Bq ?_|refine Bo r ⟨hoe,?_⟩|refine Ba (.one .quo) ?_|refine Ba Q6Z ?_|refine Q5a ?_|exact Bg|fail)
abbrev jf4 (a b:Int):Int:=IntKind.u8.wrap ((BitVec.ofInt IntKind.u8.bits a ^^^ BitVec.ofInt IntKind.u8.bits b).toNat:Int)
theorem q02 (a b:Int):0<=jf4 a b/\jf4 a b<256:=by
 unfold jf4;rw[wrap_u8];omega
def q03 (s c:Int):Int:=jfz (jg7 s 8) (jjq (jf4 (IntKind.u8.wrap s) c).toNat)
def sumK (bs:List Int) (k:Nat):Int:=(bs.take k).foldl q03 4294967295
def jgx (bs:List Int):Int:=jfz 4294967295 (sumK bs bs.length)
theorem N.notU {x:Int} {K:Value->Prop} (h:K (.int .u32 (jfz 4294967295 x))):N (UnN prog .xor (.int .u32 x) K):=N.mk ⟨.int .u32 (jfz 4294967295 x),⟨rfl,rfl,fun w=>by go_simp;rfl⟩,h⟩
theorem qrj {bs:List Int} {k:Nat} {c:Int} (h:bs[k]?=some c):sumK bs (k+1)=q03 (sumK bs k) c:=by
 unfold sumK;rw[List.take_add_one,h,List.foldl_append];rfl
theorem jot [ZW] (rt rb:Rw) (R:List Rw) (bs:List Int) (hT:TabOK (some rt) (jg0 256)) (hB:BufOK rb bs) (hl:bs.length<=1000) (ht:rt∈R) (hb:rb∈R) (i:Nat) (h:Hp) (hi:h[i]?=some (some (rvC R))) :
  qaf prog 94 [uV (some rt.sl),uV (some rb.sl)] h (.int .u32 (jgx bs)) [(i,rvC R)] []:=by
 refine qaq (G:=tys) (fun _:Unit=>True) (fun _=>_) [⟨i,rvC R,rvC R,rvC R⟩] [] [uV (some rt.sl),uV (some rb.sl)] tysOK mixed func94 Q8I (call94) ⟨hi,xb⟩ Q6L Q8N Q6A xb ⟨.quo,.quo,xb⟩ Opens.same ?_
 rintro⟨⟩ -
 have hbn:=hB.n
 have htn:rt.n=256:=by have:=hT.n;rw[qkj] at this;exact this
 have hTx:rt.xs=(jg0 256).map (Value.int .u32):=hT.xs
 have hlb:((uN (some rb.sl):Nat):Int)=((bs.length:Nat):Int):=by show((rb.n:Nat):Int)=_;rw[hbn]
 have hlt:((uN (some rt.sl):Nat):Int)=256:=by show((rt.n:Nat):Int)=_;rw[htn];rfl
 repeat' (refine Bb ?_;first|refine Q55 ?_|refine Q5P ?_|fail)
 refine Bb ?_
 refine Bw (α:=Nat) (fun k=>k<=bs.length) (fun k=>bs.length-k) (fun k=>[(5,.int .u32 (sumK bs k)),(11,xc (k:Int))]) (fun k=>[]) 0 [(0,0)] (xm _) ?_ ?_
 ·exact Q0H
 intro k hk
 have hk:k<=bs.length:=hk
 by_cases hkl:k<bs.length
 ·obtain⟨c,hc⟩:∃ c,bs[k]?=some c:=⟨_,xr hkl⟩;have hs:=qrj hc;generalize sumK bs k=s0 at hs;obtain⟨x0,x1⟩:=q02 (IntKind.u8.wrap s0) c;have es:sumK bs (k+1)=jfz (jg7 s0 8) (jjq (jf4 (IntKind.u8.wrap s0) c).toNat):=hs;have ex:IntKind.i64.wrap (jf4 (IntKind.u8.wrap s0) c)=(jf4 (IntKind.u8.wrap s0) c):=jdx _ Q8G Q8G;have hxe:(jg0 256)[(jf4 (IntKind.u8.wrap s0) c).toNat]?=some (jjq (jf4 (IntKind.u8.wrap s0) c).toNat):=Q4X;have ek:((k+1:Nat):Int)=IntKind.i64.wrap ((k:Int)+1):=by rw[jdx _ Q8G Q8G];rfl
  repeat' (refine Bb ?_;first|refine Q55 ?_|refine Q6k ?_|refine Bv (ql0 (sz:=1) (g:=rb.o+k) tysOK rfl rfl Q8r rfl Q9n Q8G (by show((k:Nat):Int)<((rb.n:Nat):Int);omega) (by show rb.o+((k:Nat):Int).toNat*1=_;rw[y5,yo])) ?_|refine Bv (qov (i:=0) rb (v:=.int .u8 c) k tysOK rfl rfl rfl Q8I hb Q9n rfl (by rw[hB.xs,xT,hc];rfl)) ?_|refine Bv (ql0 (sz:=1) (g:=rt.o+(jf4 (IntKind.u8.wrap s0) c).toNat) tysOK rfl rfl Q8r rfl Q9n (by rw[ex];omega) (by rw[ex];show(jf4 (IntKind.u8.wrap s0) c)<((rt.n:Nat):Int);omega) (by rw[ex,yo])) ?_|refine Bv (qov (i:=0) rt (v:=.int .u32 (jjq (jf4 (IntKind.u8.wrap s0) c).toNat)) (jf4 (IntKind.u8.wrap s0) c).toNat tysOK rfl rfl rfl Q8I ht Q9n rfl (by rw[hTx,xT,hxe];rfl)) ?_|refine Q6i ?_|fail)
  exact Q3W
 ·obtain rfl:k=bs.length:=by omega
  repeat' (refine Bb ?_;first|refine Q55 ?_|refine N.notU ?_|refine Q61 ?_|refine Bq ?_|refine Q5r ?_|refine Ba Q6Z ?_|refine Q5a ?_|exact Bg|fail)
theorem jqx [ZW] (rb:Rw) (R:List Rw) (bs:List Int) (hB:BufOK rb bs) (hl:bs.length<=1000) (hb:rb∈R) (i:Nat) (h:Hp) (hi:h[i]?=some (some (rvC R))) :
  CallAll prog 61 [uV (some rb.sl)] h (fun v ms=>v=.int .u32 (jgx bs)/\ms=[(i,rvC R)]):=by
 have hil:=(xe.1 hi).1
 have key:=qaw (G:=tys) (h:=h) (vs:=[uV (some rb.sl)]) (fun _:Unit=>True) (fun _=>_) (α:=Rw) (fun κ=>True) (fun κ=>.int .u32 (jgx bs)) [⟨i,rvC R,rvC R,rvC R⟩] (fun κ=>[rvC (κ::R)]) (fun κ=>[]) [uV (some rb.sl)] tysOK mixed func61 Q8I (call61) ⟨hi,xb⟩ Q6L (fun κ _=>Q6L) Q8N Q6A (fun κ _=>trivial) ⟨.quo,xb⟩ Opens.same ?_
 ·exact Q2t
 rintro⟨⟩ -
 repeat' (refine Bb ?_;first|refine Q55 ?_|fail)
 refine Bb ?_
 refine Bl (q6r R 0 _ Q8I) fun v ms hR=>?_
 obtain⟨rt,hT,rfl,rfl⟩:=hR
 repeat' (refine Bb ?_;first|refine Q55 ?_|refine Bc (jot rt rb (rt::R) bs hT hB hl (yJ ..) (yn _ hb) 0 _ Q8I) ?_|refine Bq ?_|refine Bo rt ⟨xb,?_⟩|refine Q5r ?_|refine Ba Q6Z ?_|refine Q5a ?_|exact Bg|fail)
theorem jc1 (n m:Int)  (w:World):xa 93 #[xc n,xc m] w (.bool (decide (0<=n/\n<=m))):=by
 refine qac (G:=tys) w tysOK mixed func93 Q8I Q8K Q8J ?_;exact Q1B
theorem jl1 (n m:Int) (h:Hp):qaf prog 93 [xc n,xc m] h (.bool (decide (0<=n/\n<=m))) [] []:=qai rfl rfl (call93 _) (jc1 n m)
theorem q4q (n:Int)  (w:World):xa 92 #[xc n] w (.bool (decide (0<=n/\n<64))):=by
 refine qac (G:=tys) w tysOK mixed func92 Q8I Q8K Q8J ?_;exact Q1B
theorem qcp (n:Int) (h:Hp):qaf prog 92 [xc n] h (.bool (decide (0<=n/\n<64))) [] []:=qai rfl rfl (call92 _) (q4q n)
theorem jqy {v:Value} {b:Bool} {p:Prop} [Decidable p] (h:b=true↔p):Value.tuple #[v,.bool b]=.tuple #[v,.bool (decide p)]:=by
 by_cases hp:p
 ·rw[h.2 hp,xi hp]
 ·rw[xf hp];cases b with
  | false=>rfl
  | true=>exact absurd (h.1 rfl) hp
abbrev frF (k s b q st ds t1 t2 wh wn x y a c d:Int):Value:=.agg ⟨[xc k,xc s,xc b,xc q,xc st,xc ds,xc t1,xc t2,xc wh,xc wn,xc x,xc y,xc a,xc c,xc d]⟩
theorem q9j (s b q st ds t1 t2 wh wn x y a c d:Int)  (w:World):xa 91 #[frF 1 s b q st ds t1 t2 wh wn x y a c d] w (.tuple #[frF 1 s b q st ds t1 t2 wh wn x y a c d,.bool (decide (True))]):=Q0a
theorem q9k (s b q st ds t1 t2 wh wn x y a c d:Int)  (w:World):xa 91 #[frF 7 s b q st ds t1 t2 wh wn x y a c d] w (.tuple #[frF 7 s b q st ds t1 t2 wh wn x y a c d,.bool (decide (True))]):=Q0a
theorem q9l (s b q st ds t1 t2 wh wn x y a c d:Int)  (w:World):xa 91 #[frF 2 s b q st ds t1 t2 wh wn x y a c d] w (.tuple #[frF 2 s b q st 0 t1 t2 wh wn x y a c d,.bool (decide ((0<=ds/\ds<64)/\ds≠s))]):=Q0a
theorem q9m (s b q st ds t1 t2 wh wn x y a c d:Int)  (w:World):xa 91 #[frF 3 s b q st ds t1 t2 wh wn x y a c d] w (.tuple #[frF 3 s b q st 0 0 t2 wh wn x y a c d,.bool (decide ((0<=ds/\ds<64)/\ds≠s/\(0<=t1/\t1<=4294967295)))]):=Q0a
theorem q9n (s b q st ds t1 t2 wh wn x y a c d:Int)  (w:World):xa 91 #[frF 4 s b q st ds t1 t2 wh wn x y a c d] w (.tuple #[frF 4 s b q st 0 0 0 wh 0 x y a c d,.bool (decide ((0<=ds/\ds<64)/\ds≠s/\(0<=t1/\t1<=70368744177664)/\(0<=t2/\t2<=70368744177664)/\(0<=wn/\wn<=4294967295)))]):=Q0a
theorem q9o (s b q st ds t1 t2 wh wn x y a c d:Int)  (w:World):xa 91 #[frF 5 s b q st ds t1 t2 wh wn x y a c d] w (.tuple #[frF 5 s b q st ds t1 t2 wh wn 0 0 0 0 0,.bool (decide (jed x y a c d))]):=Q0a
theorem q9p (s b q st ds t1 t2 wh wn x y a c d:Int)  (w:World):xa 91 #[frF 6 s b q st ds t1 t2 wh wn x y a c d] w (.tuple #[frF 6 s b q st ds t1 t2 0 0 0 0 0 0 0,.bool (decide ((0<=wh/\wh<64)/\wh≠s/\(0<=wn/\wn<=st)/\jed x y a c d))]):=Q0a
theorem q4r:∃ ei,prog.info? 5=some ei/\ei.size=1/\ei.zero=some (.int .u8 0):=by
 obtain⟨ei,d,h1,h2,h3⟩:=qao tysOK (t:=5) (K:=fun ei _=>ei.size=1/\ei.zero=some (.int .u8 0)) ⟨rfl,rfl⟩;exact⟨ei,h1,h3⟩
def jjr (k s b q st ds t1 t2 wh wn x y a c d:Int):List Int:=[97,108,105,49]++be k 1++be s 1++be ds 1++be wh 1++be b 2++be q 2++be st 8++be t1 8++be t2 8++be wn 8++be x 4++be y 4++be a 8++be c 8++be d 8
def ji9 (k s b q st ds t1 t2 wh wn x y a c d:Int):List Int:=jjr k s b q st ds t1 t2 wh wn x y a c d++be (IntKind.i64.wrap (jgx (jjr k s b q st ds t1 t2 wh wn x y a c d))) 4
theorem qa7 (n:Int) (w:Nat):(be n w).length=w:=qs0 n w w
def Fi (n:Int):Prop:=-9223372036854775808<=n/\n<=9223372036854775807
theorem q4s (k s b q st ds t1 t2 wh wn x y a c d:Int) (hk:Fi k) (hs:Fi s) (hb:Fi b) (hq:Fi q) (hst:Fi st) (hds:Fi ds) (ht1:Fi t1) (ht2:Fi t2) (hwh:Fi wh) (hwn:Fi wn) (hx:Fi x) (hy:Fi y) (ha:Fi a) (hc:Fi c) (hd:Fi d) (hM:∀ h,qaf prog 59 [frF k s b q st ds t1 t2 wh wn x y a c d] h (.bool true) [] []) (W:World) (hW:0<W.heap.size) :
  Calls prog 19 #[frF k s b q st ds t1 t2 wh wn x y a c d] W fun e w'=>∃ r:Rw,BufOK r (ji9 k s b q st ds t1 t2 wh wn x y a c d)/\e=.returned (den (fun _=>(0,0)) (.tuple #[uV (some r.sl),xc 0]))/\Below W.heap.size W w'/\∀ q∈[r],RwAt w' q/\W.heap.size<=q.b:=by
 letI:ZW:=⟨some W⟩
 refine q0y (vs:=[frF k s b q st ds t1 t2 wh wn x y a c d]) W rfl (fun(r:Rw)=>.tuple #[uV (some r.sl),xc 0]) (fun r=>[r]) (fun r=>BufOK r (ji9 k s b q st ds t1 t2 wh wn x y a c d)) tysOK mixed func19 Q8I hW rfl (fun(κ:Rw) r r'=>by
  have e:∀ r,den2 r (uV (some κ.sl))=uR (some κ.sl):=fun r=>qsy (some κ.sl) r
  have e2:∀ r,den r (.tuple #[uV (some κ.sl),xc 0])=.tuple #[uR (some κ.sl),xc 0]:=fun r=>by
   show Value.tuple (#[uV (some κ.sl),xc 0].map (den2 r))=_;simp only[zl,xp,yh,e];rfl
  rw[e2,e2]) ?_
 repeat' (refine Bb ?_;first|refine Q57 ?_|refine Bc (hM _) ?_|refine Q5d ?_|fail)
 refine Bb ?_
 refine Bx ?_
 obtain⟨ei,h1,h2,h3⟩:=q4r
 refine qws (ei:=ei) (z:=.int .u8 0) (out:=[.int .u8 97,.int .u8 108,.int .u8 105,.int .u8 49]) (R:=[]) (i:=0) rfl (by exact⟨_,_,rfl,⟨rfl,rfl⟩,_,_,rfl,⟨rfl,rfl⟩,_,_,rfl,⟨rfl,rfl⟩,_,_,rfl,⟨rfl,rfl⟩,rfl⟩) underlying37 h1 h3 rfl Q9R Qa2 Qa2 Q9R Q9R rfl Qa2 Q8I fun bb=>?_
 have hr0:BufOK ⟨true,5,ei.size,bb,0,4,4,[.int .u8 97,.int .u8 108,.int .u8 105,.int .u8 49]⟩ [97,108,105,49]:=⟨rfl,rfl,h2,rfl,rfl⟩
 generalize hg0:(⟨true,5,ei.size,bb,0,4,4,[.int .u8 97,.int .u8 108,.int .u8 105,.int .u8 49]⟩:Rw)=r0 at hr0
 have hg1:(some ⟨bb,0,4,4,none⟩:Option Sl)=some r0.sl:=by rw[<-hg0]
 rw[hg1]
 repeat' (refine Bb ?_;first|refine Q57 ?_|refine Bv (q9i (i:=0) r0 rfl rfl underlying37 underlying5 hr0.w Q6X Q8I) ?_|refine Q5F ?_|refine Q5e ?_|fail)
 refine Bb ?_
 refine Bl (jgz r0 [] _ hr0 k hk 1 Q8H Q8M 0 _ Q8I) fun v ms hR=>?_
 obtain⟨r1,hr1,rfl,rfl⟩:=hR
 repeat' (refine Bb ?_;first|refine Q57 ?_|refine Q5f ?_|refine Q5b ?_|fail)
 refine Bb ?_
 refine Bl (jgz r1 [] _ hr1 s hs 1 Q8H Q8M 0 _ Q8I) fun v ms hR=>?_
 obtain⟨r2,hr2,rfl,rfl⟩:=hR
 repeat' (refine Bb ?_;first|refine Q57 ?_|refine Q5f ?_|refine Q5b ?_|fail)
 refine Bb ?_
 refine Bl (jgz r2 [] _ hr2 ds hds 1 Q8H Q8M 0 _ Q8I) fun v ms hR=>?_
 obtain⟨r3,hr3,rfl,rfl⟩:=hR
 repeat' (refine Bb ?_;first|refine Q57 ?_|refine Q5f ?_|refine Q5b ?_|fail)
 refine Bb ?_
 refine Bl (jgz r3 [] _ hr3 wh hwh 1 Q8H Q8M 0 _ Q8I) fun v ms hR=>?_
 obtain⟨r4,hr4,rfl,rfl⟩:=hR
 repeat' (refine Bb ?_;first|refine Q57 ?_|refine Q5f ?_|refine Q5b ?_|fail)
 refine Bb ?_
 refine Bx ?_
 refine Bz [0,1,2,4,5] [(3,[]),(6,[7])] Q8O ?_
 repeat' (refine Bb ?_;first|refine Q55 ?_|refine Q5F ?_|refine Q5e ?_|fail)
 refine Bb ?_
 refine qow [0] _ Q9e (fun h₂ hh=>jgz r4 [] _ hr4 b hb 2 Q8H Q8M 0 h₂ Q8b) fun v ms hM_=>?_
 obtain⟨r5,hr5,rfl,rfl⟩:=hM_
 refine⟨by simp,?_⟩
 repeat' (refine Bb ?_;first|refine Q55 ?_|refine Q5F ?_|refine Q5e ?_|fail)
 refine Bb ?_
 refine qow [0] _ Q9e (fun h₂ hh=>jgz r5 [] _ hr5 q hq 2 Q8H Q8M 0 h₂ Q8b) fun v ms hM_=>?_
 obtain⟨r6,hr6,rfl,rfl⟩:=hM_
 refine⟨by simp,?_⟩
 repeat' (refine Bb ?_;first|refine Q55 ?_|refine Q5F ?_|refine Q5e ?_|fail)
 repeat' (refine Bb ?_;first|refine Q57 ?_|refine Q5f ?_|refine Q5b ?_|fail)
 refine Bb ?_
 refine Bl (jgz r6 [] _ hr6 st hst 8 Q8H Q8M 0 _ Q8I) fun v ms hR=>?_
 obtain⟨r7,hr7,rfl,rfl⟩:=hR
 repeat' (refine Bb ?_;first|refine Q57 ?_|refine Q5f ?_|refine Q5b ?_|fail)
 refine Bb ?_
 refine Bl (jgz r7 [] _ hr7 t1 ht1 8 Q8H Q8M 0 _ Q8I) fun v ms hR=>?_
 obtain⟨r8,hr8,rfl,rfl⟩:=hR
 repeat' (refine Bb ?_;first|refine Q57 ?_|refine Q5f ?_|refine Q5b ?_|fail)
 refine Bb ?_
 refine Bl (jgz r8 [] _ hr8 t2 ht2 8 Q8H Q8M 0 _ Q8I) fun v ms hR=>?_
 obtain⟨r9,hr9,rfl,rfl⟩:=hR
 repeat' (refine Bb ?_;first|refine Q57 ?_|refine Q5f ?_|refine Q5b ?_|fail)
 refine Bb ?_
 refine Bl (jgz r9 [] _ hr9 wn hwn 8 Q8H Q8M 0 _ Q8I) fun v ms hR=>?_
 obtain⟨r10,hr10,rfl,rfl⟩:=hR
 repeat' (refine Bb ?_;first|refine Q57 ?_|refine Q5f ?_|refine Q5b ?_|fail)
 refine Bb ?_
 refine Bx ?_
 refine Bz [0,1,2,3,4,6,7,8,9] [(5,[]),(10,[11])] Q8O ?_
 repeat' (refine Bb ?_;first|refine Q55 ?_|refine Q5F ?_|refine Q5e ?_|fail)
 refine Bb ?_
 refine qow [0] _ Q9e (fun h₂ hh=>jgz r10 [] _ hr10 x hx 4 Q8H Q8M 0 h₂ Q8b) fun v ms hM_=>?_
 obtain⟨r11,hr11,rfl,rfl⟩:=hM_
 refine⟨by simp,?_⟩
 repeat' (refine Bb ?_;first|refine Q55 ?_|refine Q5F ?_|refine Q5e ?_|fail)
 refine Bb ?_
 refine qow [0] _ Q9e (fun h₂ hh=>jgz r11 [] _ hr11 y hy 4 Q8H Q8M 0 h₂ Q8b) fun v ms hM_=>?_
 obtain⟨r12,hr12,rfl,rfl⟩:=hM_
 refine⟨by simp,?_⟩
 repeat' (refine Bb ?_;first|refine Q55 ?_|refine Q5F ?_|refine Q5e ?_|fail)
 repeat' (refine Bb ?_;first|refine Q57 ?_|refine Q5j ?_|refine Q5b ?_|fail)
 refine Bb ?_
 refine Bl (jgz r12 [] _ hr12 a ha 8 Q8H Q8M 0 _ Q8I) fun v ms hR=>?_
 obtain⟨r13,hr13,rfl,rfl⟩:=hR
 repeat' (refine Bb ?_;first|refine Q57 ?_|refine Q5j ?_|refine Q5b ?_|fail)
 refine Bb ?_
 refine Bl (jgz r13 [] _ hr13 c hc 8 Q8H Q8M 0 _ Q8I) fun v ms hR=>?_
 obtain⟨r14,hr14,rfl,rfl⟩:=hR
 repeat' (refine Bb ?_;first|refine Q57 ?_|refine Q5j ?_|refine Q5b ?_|fail)
 refine Bb ?_
 refine Bl (jgz r14 [] _ hr14 d hd 8 Q8H Q8M 0 _ Q8I) fun v ms hR=>?_
 obtain⟨r15,hr15,rfl,rfl⟩:=hR
 repeat' (refine Bb ?_;first|refine Q57 ?_|refine Q5j ?_|refine Q5b ?_|fail)
 refine Bb ?_
 refine Bl (jqx r15 [r15] _ hr15 Q8M Q6X 0 _ Q8I) fun v ms hR=>?_
 obtain⟨rfl,rfl⟩:=hR
 repeat' (refine Bb ?_;first|refine Q57 ?_|fail)
 have hsum:Fi (IntKind.i64.wrap (jgx (jjr k s b q st ds t1 t2 wh wn x y a c d))):=by
  unfold Fi;rw[xN];omega
 refine Bb ?_
 refine Bl (jgz r15 [] _ hr15 (IntKind.i64.wrap (jgx (jjr k s b q st ds t1 t2 wh wn x y a c d))) hsum 4 Q8H Q8M 0 _ Q8I) fun v ms hR=>?_
 obtain⟨r16,hr16,rfl,rfl⟩:=hR
 repeat' (refine Bb ?_;first|refine Q57 ?_|fail)
 refine Bb ?_
 exact N.mk ⟨r16,hr16,rfl,rfl⟩
open Go Go.RowKit Sx
structure Frm where
 k:Int
 s:Int
 b:Int
 q:Int
 st:Int
 ds:Int
 t1:Int
 t2:Int
 wh:Int
 wn:Int
 x:Int
 y:Int
 a:Int
 c:Int
 d:Int
def Frm.oo:Frm:=⟨0,0,0,0,0,0,0,0,0,0,0,0,0,0,0⟩
abbrev fmV (f:Frm):Value:=frF f.k f.s f.b f.q f.st f.ds f.t1 f.t2 f.wh f.wn f.x f.y f.a f.c f.d
def Frm.rest (f:Frm):Frm:=
 if f.k=2 then {f with ds:=0} else if f.k=3 then {f with ds:=0,t1:=0} else if f.k=4 then {f with ds:=0,t1:=0,t2:=0,wn:=0}
 else if f.k=5 then {f with x:=0,y:=0,a:=0,c:=0,d:=0} else if f.k=6 then {f with wh:=0,wn:=0,x:=0,y:=0,a:=0,c:=0,d:=0} else f
def Frm.own (f:Frm):Prop:=
 if f.k=1 then True else if f.k=7 then True else if f.k=2 then (0<=f.ds/\f.ds<64)/\f.ds≠f.s
 else if f.k=3 then (0<=f.ds/\f.ds<64)/\f.ds≠f.s/\(0<=f.t1/\f.t1<=4294967295)
 else if f.k=4 then (0<=f.ds/\f.ds<64)/\f.ds≠f.s/\(0<=f.t1/\f.t1<=70368744177664)/\(0<=f.t2/\f.t2<=70368744177664)/\(0<=f.wn/\f.wn<=4294967295)
 else if f.k=5 then jed f.x f.y f.a f.c f.d
 else if f.k=6 then (0<=f.wh/\f.wh<64)/\f.wh≠f.s/\(0<=f.wn/\f.wn<=f.st)/\jed f.x f.y f.a f.c f.d
 else False
instance decFrOwn (f:Frm):Decidable f.own:=by unfold Frm.own;infer_instance
def Frm.head (f:Frm):Prop:=(0<=f.s/\f.s<64)/\(0<=f.b/\f.b<=65535)/\(0<=f.q/\f.q<=65535)/\(0<=f.st/\f.st<=1000000)
def Frm.bare (f:Frm):Prop:=f.ds=0/\f.t1=0/\f.t2=0/\f.wh=0/\f.wn=0/\f.x=0/\f.y=0/\f.a=0/\f.c=0/\f.d=0
instance decFrHead (f:Frm):Decidable f.head:=by unfold Frm.head;infer_instance
instance decFrBare (f:Frm):Decidable f.bare:=by unfold Frm.bare;infer_instance
def Frm.may (f:Frm):Prop:=f.own/\f.head/\f.rest.bare
instance decFrMay (f:Frm):Decidable f.may:=by unfold Frm.may;infer_instance
theorem kN {a b:Int} (h:¬ a=b):(a==b)=false:=by simpa using h
theorem kY {a b:Int} (h:a=b):(a==b)=true:=by simpa using h
theorem q9q (f:Frm) (h1:¬ f.k=1) (h2:¬ f.k=2) (h3:¬ f.k=3) (h4:¬ f.k=4) (h5:¬ f.k=5) (h6:¬ f.k=6) (h7:¬ f.k=7) (w:World):xa 91 #[fmV f] w (.tuple #[fmV f,.bool (decide False)]):=by
 refine qac (G:=tys) w tysOK mixed func91 Q8I Q8I Q8I ?_;repeat' (refine Bb ?_;first|refine Q55 ?_|refine Be (kN h1) ?_|refine Be (kN h2) ?_|refine Be (kN h3) ?_|refine Be (kN h4) ?_|refine Be (kN h5) ?_|refine Be (kN h6) ?_|refine Be (kN h7) ?_|fail)
 all_goals rfl
theorem jc2 (f:Frm) (w:World):xa 91 #[fmV f] w (.tuple #[fmV f.rest,.bool (decide f.own)]):=by
 obtain⟨k,s,b,q,st,ds,t1,t2,wh,wn,x,y,a,c,d⟩:=f;by_cases h1:k=1
 ·subst h1;exact q9j s b q st ds t1 t2 wh wn x y a c d w
 by_cases h7:k=7
 ·subst h7;exact q9k s b q st ds t1 t2 wh wn x y a c d w
 by_cases h2:k=2
 ·subst h2;exact q9l s b q st ds t1 t2 wh wn x y a c d w
 by_cases h3:k=3
 ·subst h3;exact q9m s b q st ds t1 t2 wh wn x y a c d w
 by_cases h4:k=4
 ·subst h4;exact q9n s b q st ds t1 t2 wh wn x y a c d w
 by_cases h5:k=5
 ·subst h5;exact q9o s b q st ds t1 t2 wh wn x y a c d w
 by_cases h6:k=6
 ·subst h6;exact q9p s b q st ds t1 t2 wh wn x y a c d w
 have e1:Frm.rest ⟨k,s,b,q,st,ds,t1,t2,wh,wn,x,y,a,c,d⟩=⟨k,s,b,q,st,ds,t1,t2,wh,wn,x,y,a,c,d⟩:=by
  unfold Frm.rest;rw[if_neg h2,if_neg h3,if_neg h4,if_neg h5,if_neg h6]
 have e2:(decide (Frm.own ⟨k,s,b,q,st,ds,t1,t2,wh,wn,x,y,a,c,d⟩))=decide False:=by
  rw[xf (show ¬ Frm.own _ from by unfold Frm.own;rw[if_neg h1,if_neg h7,if_neg h2,if_neg h3,if_neg h4,if_neg h5,if_neg h6];exact id),xf id]
 rw[e1,e2];exact q9q ⟨k,s,b,q,st,ds,t1,t2,wh,wn,x,y,a,c,d⟩ h1 h2 h3 h4 h5 h6 h7 w
theorem qgw (f:Frm) (h:Hp):qaf prog 91 [fmV f] h (.tuple #[fmV f.rest,.bool (decide f.own)]) [] []:=
 qai rfl rfl (call91 _) (jc2 f)
theorem q04 (f:Frm):f.rest.k=f.k/\f.rest.s=f.s/\f.rest.b=f.b/\f.rest.q=f.q/\f.rest.st=f.st:=by
 unfold Frm.rest;repeat' split
 all_goals exact⟨rfl,rfl,rfl,rfl,rfl⟩
theorem jou (r:Frm):(r.x==0&&(r.y==0&&(r.a==0&&(r.c==0&&r.d==0))))=decide (r.x=0/\r.y=0/\r.a=0/\r.c=0/\r.d=0):=by
 by_cases h1:r.x=0<;>by_cases h2:r.y=0<;>by_cases h3:r.a=0<;>by_cases h4:r.c=0<;>by_cases h5:r.d=0<;>simp[h1,h2,h3,h4,h5]
theorem qgx (x y:Operand) (a b c d e p q r s t:Int):BinIs prog .eql 27 x y (.agg ⟨[xc a,xc b,xc c,xc d,xc e]⟩) (.agg ⟨[xc p,xc q,xc r,xc s,xc t]⟩) (.bool (a==p&&(b==q&&(c==r&&(d==s&&e==t))))):=
 Q7d
theorem q4t (f:Frm) (w:World):xa 59 #[fmV f] w (.bool (decide f.may)):=by
 obtain⟨k1,k2,k3,k4,k5⟩:=q04 f;by_cases g_own:f.own;rotate_left
 ·have n_own:=g_own;clear g_own;rw[xf (show ¬ f.may from fun h=>n_own h.1)];exact Q04
 by_cases g_s:0<=f.s/\f.s<64;rotate_left
 ·have n_s:=g_s;clear g_s;rw[xf (show ¬ f.may from fun h=>n_s h.2.1.1)];exact Q04
 by_cases g_b:0<=f.b/\f.b<=65535;rotate_left
 ·have n_b:=g_b;clear g_b;rw[xf (show ¬ f.may from fun h=>n_b h.2.1.2.1)];exact Q04
 by_cases g_q:0<=f.q/\f.q<=65535;rotate_left
 ·have n_q:=g_q;clear g_q;rw[xf (show ¬ f.may from fun h=>n_q h.2.1.2.2.1)];exact Q04
 by_cases g_st:0<=f.st/\f.st<=1000000;rotate_left
 ·have n_st:=g_st;clear g_st;rw[xf (show ¬ f.may from fun h=>n_st h.2.1.2.2.2)];exact Q04
 by_cases g_ds:f.rest.ds=0;rotate_left
 ·have n_ds:=g_ds;clear g_ds;rw[xf (show ¬ f.may from fun h=>n_ds h.2.2.1)];exact Q04
 by_cases g_t1:f.rest.t1=0;rotate_left
 ·have n_t1:=g_t1;clear g_t1;rw[xf (show ¬ f.may from fun h=>n_t1 h.2.2.2.1)];exact Q04
 by_cases g_t2:f.rest.t2=0;rotate_left
 ·have n_t2:=g_t2;clear g_t2;rw[xf (show ¬ f.may from fun h=>n_t2 h.2.2.2.2.1)];exact Q04
 by_cases g_wh:f.rest.wh=0;rotate_left
 ·have n_wh:=g_wh;clear g_wh;rw[xf (show ¬ f.may from fun h=>n_wh h.2.2.2.2.2.1)];exact Q04
 by_cases g_wn:f.rest.wn=0;rotate_left
 ·have n_wn:=g_wn;clear g_wn;rw[xf (show ¬ f.may from fun h=>n_wn h.2.2.2.2.2.2.1)];exact Q04
 rw[show(decide f.may)=decide (f.rest.x=0/\f.rest.y=0/\f.rest.a=0/\f.rest.c=0/\f.rest.d=0) from decide_eq_decide.2 ⟨fun h=>h.2.2.2.2.2.2.2,fun h=>⟨g_own,⟨g_s,g_b,g_q,g_st⟩,g_ds,g_t1,g_t2,g_wh,g_wn,h⟩⟩,<-jou];exact Q04
theorem qs1 (f:Frm) (h:Hp):qaf prog 59 [fmV f] h (.bool (decide f.may)) [] []:=
 qai rfl rfl (call59 _) (q4t f)
structure jov (c:Chunk) (i:Nat) (now fine:Int):Prop where
 n:3<=c.n
 f:∀ j,j<3->c.f j=(sdV i now fine).f j
theorem jc3 (i:Nat) (now fine:Int) (o:Value):jov (sdC i now fine o) i now fine:=⟨xO rfl,lt3 rfl rfl rfl⟩
theorem jc4 {c:Chunk} {i i':Nat} {now fine:Int} (h:jov c i now fine) (hi:ixK ix i'=some i):qbb ix c (sdV i' now fine):=fun j hj=>by
 have hj:j<3:=hj;rw[h.f j hj];exact lt3 (p:=fun j=>Re1 ix ((sdV i now fine).f j) ((sdV i' now fine).f j)) (.ptr hi) (.plain rfl) (.plain rfl) j hj
abbrev hdV (f:Frm) (at_:Int) (i:Nat):Value:=.agg ⟨[xc f.k,xc f.s,xc f.b,xc f.q,xc f.st,xc f.ds,xc f.t1,xc f.t2,xc f.wh,xc f.wn,xc f.x,xc f.y,xc f.a,xc f.c,xc f.d,xc at_,xd i]⟩
abbrev Frm.el (f:Frm):El:=⟨f.x,f.y,f.a,f.c,f.d⟩
def qbp (D:NdS) (F:Fil) (T:Tbl) (f:Frm) (now:Int):Fil×Tbl:=
 if f.wh=D.id then (if (qb2 f.el f.wn now (D.C 2) (D.C 4)).2=0 then F.meet (qb2 f.el f.wn now (D.C 2) (D.C 4)).1 else F,T)
 else (F,match dGet T.E f.wh with|some _=>jhq D.C T f.wh f.el f.wn now|none=>T)
def qhs (D:NdS) (stamp now:Int):Int:=2*D.C 2*qeu stamp now (D.C 4)
def qbj (D:NdS) (F:Fil) (T:Tbl) (k ra db da rb stamp now:Int):Fil:=
 if (qcw D.C T k now).2=true/\qhs D stamp now<=4194304/\rgE ra db da rb (D.C 5) (qhs D stamp now)=0 then F.range (qcw D.C T k now).1 (rgLo ra db da rb (D.C 5) (qhs D stamp now)) (rgHi ra db da rb (D.C 5) (qhs D stamp now)) else F
theorem q4u (w now k:Int):qeu w now k<=3000001:=by
 unfold qeu;split
 ·rename_i h;have a1:=h.1.1;have a2:=h.2.1.2;have a3:=h.2.2.2;have a4:=h.2.2.1;omega
 ·omega
theorem qwt {D:NdS} (hC:0<=D.C 2/\D.C 2<=1000) (stamp now:Int):IntKind.i64.wrap (IntKind.i64.wrap (2*D.C 2)*qeu stamp now (D.C 4))=qhs D stamp now:=by
 have h1:=qlw stamp now (D.C 4);have h2:=q4u stamp now (D.C 4);have h3:2*D.C 2*qeu stamp now (D.C 4)<=2000*3000001:=xS Q8G h2 h1 Q8H;have h4:0<=2*D.C 2*qeu stamp now (D.C 4):=xy Q8G h1;rw[jdx (2*D.C 2) Q8G Q8G,jdx _ Q8G Q8G];rfl
theorem jc5 {ra db da rb dr sl:Int} (h:rgE ra db da rb dr sl=0):jfy (rgLo ra db da rb dr sl) (rgHi ra db da rb dr sl):=by
 unfold rgE at h;split at h
 ·split at h
  ·exact absurd h Q8H
  ·split at h
   ·exact absurd h Q8H
   ·exact⟨by unfold rgLo;omega,by omega,by omega⟩
 ·exact absurd h Q8H
theorem q9r (ra db da rb dr sl sl':Int) (h:Hp) (e:sl'=sl) (ho:rgE ra db da rb dr sl=0):qaf prog 147 [.agg #[xc ra,xc db,xc da,xc rb],xc dr,xc sl'] h (.tuple #[xc (rgLo ra db da rb dr sl),xc (rgHi ra db da rb dr sl),xc 0]) [] []:=by
 subst e;have:=q6q ra db da rb dr sl' h;unfold rgV at this;rw[if_pos ho,if_pos ho,ho] at this;exact this
theorem q9s (ra db da rb dr sl sl':Int) (h:Hp) (e:sl'=sl) (ho:¬ rgE ra db da rb dr sl=0):qaf prog 147 [.agg #[xc ra,xc db,xc da,xc rb],xc dr,xc sl'] h (.tuple #[xc 0,xc 0,xc (rgE ra db da rb dr sl)]) [] []:=by
 subst e;have:=q6q ra db da rb dr sl' h;unfold rgV at this;rw[if_neg ho,if_neg ho] at this;exact this
theorem qwu (D:NdS) (F:Fil) (T:Tbl) (c0 c1:Chunk) (f:Frm) (at_ now fine:Int) (hF:F.valid=true->F.e.may) (hw:0<=f.wh/\f.wh<64) (i0 i1 i2 i3:Nat) (hs:jov c0 i1 now fine) (hc:ji7 c1 D i2 i3) (h:Hp) (h0:h[i0]?=some (some c0)) (h1:h[i1]?=some (some c1)) (h2:h[i2]?=some (some (fiF F))) (h3:h[i3]?=some (some (tblC T))) (hne:[i0,i1,i2,i3].Nodup) :
  qaf prog 86 [xd i1,hdV f at_ i0] h (.tuple #[]) [(i2,fiF (qbp D F T f now).1),(i3,tblC (qbp D F T f now).2)] [i0,i1]:=by
 refine qaq (G:=tys) (h:=h) (vs:=[xd i1,hdV f at_ i0]) (fun _:Unit=>True) (fun _=>_) [⟨i0,_,sdV 1 now fine,noC⟩,⟨i1,_,ndV D 2 3,noC⟩,⟨i2,fiF F,fiF F,fiF (qbp D F T f now).1⟩,⟨i3,tblC T,tblC T,tblC (qbp D F T f now).2⟩] [] [xd 1,hdV f at_ 0] tysOK mixed func86 Q8I (call86) ⟨h0,h1,h2,h3,xb⟩
  ⟨⟨fun h=>Q95,hs.n,jc4 hs Q8I⟩,Q7E,Q76,Q6w,xb⟩ (by
   simp only[xL,xg,xI,not_or,xK,or_false,and_true] at hne;simp[Apart];omega) ⟨.inl rfl,.inl rfl,.inl rfl,.inr ⟨rfl,rfl⟩,xb⟩ xb ⟨.ptr Q8I,.agg ⟨.plain rfl,.plain rfl,.plain rfl,.plain rfl,.plain rfl,.plain rfl,.plain rfl,.plain rfl,.plain rfl,.plain rfl,.plain rfl,.plain rfl,.plain rfl,.plain rfl,.plain rfl,.plain rfl,.ptr Q8I,xb⟩,xb⟩ Opens.same ?_
 rintro⟨⟩ -
 by_cases hid:f.wh=D.id
 ·by_cases hz:(qb2 f.el f.wn now (D.C 2) (D.C 4)).2=0
  ·have hz2:=q0s hz;rw[show qbp D F T f now=(F.meet (qb2 f.el f.wn now (D.C 2) (D.C 4)).1,T) from by unfold qbp;rw[if_pos hid,if_pos hz]];repeat' (refine Bb ?_;first|refine Q55 ?_|refine Bf (ei hid) ?_|refine Bc (ji8 D 2 3 _ (qj3 D 2 3) f.el f.wn now 1 _ Q8I) ?_|refine Bf (ei hz) ?_|refine Bc (q9d F _ hF hz2.2 2 _ Q8I) ?_|fail)
   exact Q2g
  ·rw[show qbp D F T f now=(F,T) from by unfold qbp;rw[if_pos hid,if_neg hz]];repeat' (refine Bb ?_;first|refine Q55 ?_|refine Bf (ei hid) ?_|refine Bc (ji8 D 2 3 _ (qj3 D 2 3) f.el f.wn now 1 _ Q8I) ?_|refine Be (en hz) ?_|fail)
   exact Q2g
 ·cases hd:dGet T.E f.wh with
  | none=>
   rw[show qbp D F T f now=(F,T) from by unfold qbp;rw[if_neg hid,hd]];repeat' (refine Bb ?_;first|refine Q55 ?_|refine Be (en hid) ?_|refine Bc (jkb T f.wh hd 3 _ Q8I) ?_|fail)
   exact Q2g
  | some e=>
   rw[show qbp D F T f now=(F,jhq D.C T f.wh f.el f.wn now) from by unfold qbp;rw[if_neg hid,hd]];repeat' (refine Bb ?_;first|refine Q55 ?_|refine Be (en hid) ?_|refine Bc (jka T f.wh e hd 3 _ Q8I) ?_|refine Bc (q6o D T _ _ f.wh f.el f.wn now Q8G 1 2 3 (qj3 D 2 3) _ Q8I Q8I Q8I Q8H) ?_|fail)
   exact Q2g
theorem qs2 (D:NdS) (F:Fil) (T:Tbl) (c1:Chunk) (k ra db da rb stamp now:Int) (hF:F.valid=true->F.e.may) (hC:0<=D.C 2/\D.C 2<=1000) (i1 i2 i3:Nat) (hc:ji7 c1 D i2 i3) (h:Hp) (h1:h[i1]?=some (some c1)) (h2:h[i2]?=some (some (fiF F))) (h3:h[i3]?=some (some (tblC T))) (hne:[i1,i2,i3].Nodup) :
  qaf prog 126 [xd i1,xc k,.agg #[xc ra,xc db,xc da,xc rb],xc stamp,xc now] h (.tuple #[]) [(i2,fiF (qbj D F T k ra db da rb stamp now)),(i3,tblC T)] [i1]:=by
 refine qaq (G:=tys) (h:=h) (vs:=[xd i1,xc k,.agg #[xc ra,xc db,xc da,xc rb],xc stamp,xc now]) (fun _:Unit=>True) (fun _=>_) [⟨i1,_,ndV D 1 2,noC⟩,⟨i2,fiF F,fiF F,fiF (qbj D F T k ra db da rb stamp now)⟩,⟨i3,tblC T,tblC T,tblC T⟩] [] [xd 0,xc k,.agg #[xc ra,xc db,xc da,xc rb],xc stamp,xc now] tysOK mixed func126 Q8I (call126) ⟨h1,h2,h3,xb⟩
  ⟨Q7E,Q76,Q6w,xb⟩ (by
   simp only[xL,xg,xI,not_or,xK,or_false,and_true] at hne;simp[Apart];omega) ⟨.inl rfl,.inl rfl,.inr ⟨rfl,rfl⟩,xb⟩ xb ⟨.ptr Q8I,.plain rfl,.plain rfl,.plain rfl,.plain rfl,xb⟩ Opens.same ?_
 rintro⟨⟩ -
 have hw:=qwt hC stamp now
 repeat' (refine Bb ?_;first|refine Q55 ?_|fail)
 refine Bb ?_
 refine Bc Q8A ?_
 repeat' (refine Bb ?_;first|refine Q55 ?_|fail)
 refine Bb ?_
 refine Bc (q6n stamp now _ _) ?_
 rcases qcv (qcw D.C T k now).2 with hb|hb
 ·rw[show qbj D F T k ra db da rb stamp now=F from if_neg (fun h=>by rw[hb] at h;exact absurd h.1 Q8H)];exact Q1G
 ·by_cases hsl:qhs D stamp now<=4194304;rotate_left
  ·rw[show qbj D F T k ra db da rb stamp now=F from if_neg (fun h=>hsl h.2.1)];exact Q1G
  ·by_cases hz:rgE ra db da rb (D.C 5) (qhs D stamp now)=0
   ·rw[show qbj D F T k ra db da rb stamp now=F.range (qcw D.C T k now).1 (rgLo ra db da rb (D.C 5) (qhs D stamp now)) (rgHi ra db da rb (D.C 5) (qhs D stamp now)) from if_pos ⟨hb,hsl,hz⟩];repeat' (refine Bb ?_;first|refine Q55 ?_|refine Q6u ?_|refine Be (by rw[hb];rfl) ?_|refine Bc (q9r ra db da rb (D.C 5) _ _ _ hw hz) ?_|refine Q5e ?_|refine Bc (q4e F _ _ _ hF (qjo hb) (jc5 hz) 1 _ Q8I) ?_|fail)
    refine Q0O ?_;exact Q1S
   ·rw[show qbj D F T k ra db da rb stamp now=F from if_neg (fun h=>hz h.2.2)];repeat' (refine Bb ?_;first|refine Q55 ?_|refine Q6u ?_|refine Be (by rw[hb];rfl) ?_|refine Bc (q9s ra db da rb (D.C 5) _ _ _ hw hz) ?_|refine Be (en hz) ?_|fail)
    refine Q0O ?_;exact Q1S
open Go Go.RowKit Sx
theorem qb3:∀ {ss:List jdw},(ss.map fun s=>s.i).Nodup->Apart ss
 | [],_=>trivial
 | s::r,h=>by
  rw[xp,xL] at h;exact⟨fun t ht _ e=>h.1 (by rw[e];exact xw.2 ⟨t,ht,rfl⟩),qb3 h.2⟩
structure Ou where
 f:Frm
 t:Int
def Ou.oo:Ou:=⟨Frm.oo,0⟩
abbrev ouV (x:Ou):Value:=outV x.f.k x.f.s x.f.b x.f.q x.f.st x.f.ds x.f.t1 x.f.t2 x.f.wh x.f.wn x.f.x x.f.y x.f.a x.f.c x.f.d x.t
def je4 (x:Ou):Nat->Value
 | 0=>.int .i64 x.f.k
 | 1=>.int .i64 x.f.s
 | 2=>.int .i64 x.f.b
 | 3=>.int .i64 x.f.q
 | 4=>.int .i64 x.f.st
 | 5=>.int .i64 x.f.ds
 | 6=>.int .i64 x.f.t1
 | 7=>.int .i64 x.f.t2
 | 8=>.int .i64 x.f.wh
 | 9=>.int .i64 x.f.wn
 | 10=>.int .i64 x.f.x
 | 11=>.int .i64 x.f.y
 | 12=>.int .i64 x.f.a
 | 13=>.int .i64 x.f.c
 | 14=>.int .i64 x.f.d
 | _=>.int .i64 x.t
theorem qj5 (x:Ou) (k:Nat):qbd (je4 x k)=true:=by unfold je4;split<;>rfl
theorem ql1 (x:Ou) {k:Nat} (h:k<16):cellIn (ouV x) k=je4 x k:=Q2K
theorem qs3 (j:Nat):jfi 16 (ouV Ou.oo) j=je4 (Ou.oo) (j%16):=by
 unfold jfi;have h:j%16<16:=xv _ Q8H;generalize j%16=k at h;exact Q2K
abbrev ouC (o:Bool) (c:Nat) (T:Nat->Ou):Chunk:=⟨o,c*16,[(0,c*16,.agg ⟨segL (c*16) (fun j=>je4 (T (j / 16)) (j%16))⟩)]⟩
variable {c:Nat} {T:Nat->Ou}
theorem jks {j:Nat} (h:j<c*16):(ouC o c T).f j=je4 (T (j / 16)) (j%16):=qbq h
theorem q05 {o':Bool} {T':Nat->Ou} (h:∀ i,i<c->T i=T' i):qbb ix (ouC o c T) (ouC o' c T'):=fun j hj=>by
 have hj:j<c*16:=hj;rw[qbq hj,qbq hj,h (j / 16) Q8G];exact .plain (qj5 _ _)
variable {hp:Hp}
theorem q4v {T':Nat->Ou} (h:∀ i,i<c->T i=T' i) (hh:hp[n]?=some (some (ouC true c T'))):PostC ix hp n (ouC true c T):=⟨_,hh,id,nlr _,q05 h⟩
theorem jl2 {p:Nat} (i:Nat) (hn:n=16) (h:i<c) (e:p=i*16):Reads (ouC o c T) p true n (ouV (T i)):=by
 subst e hn;refine⟨by show i*16+16<=c*16;omega,_,rfl,rfl,fun j hj=>?_⟩;rw[qbq Q8G,show(i*16+j) / 16=i from by omega,show(i*16+j)%16=j from by omega];exact(ql1 _ hj).symm
def setou (T:Nat->Ou) (l:Nat) (x:Ou) (i:Nat):Ou:=if i=l then x else T i
variable {x:Ou}
theorem jow {l p:Nat} (h:l<c) (e:p=l*16):Writes (ouC true c T) p (1*16) (ouV x) (ouC true c (setou T l x)):=by
 subst e;refine⟨rfl,by show l*16+1*16<=c*16;omega,rfl,fun j hj=>?_⟩;have hj:j<c*16:=hj;rw[qbq hj,qbq hj];unfold setou;by_cases e:l*16<=j/\j<l*16+1*16
 ·rw[if_pos e,if_pos Q8G,ql1 _ Q8G];congr 1;omega
 ·rw[if_neg e,if_neg Q8G]
def growou (T:Nat->Ou) (l:Nat) (x:Ou) (i:Nat):Ou:=if i<l then T i else if i=l then x else Ou.oo
variable {cap:Nat}
theorem q4w {ci:Chunk} {l:Nat} (h:l<cap) (hc:∀ j,j<l*16->ci.f j=je4 (T (j / 16)) (j%16)) {j:Nat} (hj:j<cap*16):(grown ci l 1 16 (ouV x) (ouV Ou.oo) cap).f j=je4 (growou T l x (j / 16)) (j%16):=by
 unfold growou;by_cases h1:j<l*16
 ·exact Q4V
 ·rw[if_neg Q8G];by_cases h2:j<(l+1)*16
  ·have:=qgd (ci:=ci) (l:=l) (m:=1) (size:=16) (cap:=cap) (v:=ouV x) (z:=ouV Ou.oo) (j:=j-l*16) Q8G;rw[show l*16+(j-l*16)=j from by omega] at this;rw[this,if_pos Q8G,ql1 _ Q8G];congr 1;omega
  ·rw[qfk Q8G hj,if_neg Q8G];exact qs3 j
theorem qj6 {ci:Chunk} {l:Nat} (h:l<cap) (hc:∀ j,j<l*16->ci.f j=je4 (T (j / 16)) (j%16)) (hh:hp[n]?=some (some (grown ci l 1 16 (ouV x) (ouV Ou.oo) cap))):PostC ix hp n (ouC true cap (growou T l x)):=
 ⟨_,hh,fun _=>rfl,by show cap*16<=cap*16;omega,fun j hj=>by
  have hj:j<cap*16:=hj;rw[qbq hj,q4w h hc hj];exact .plain (qj5 _ _)⟩
abbrev ouR (S:List Ou) (c:Nat):Chunk:=ouC true c (fun i=>S.getD i Ou.oo)
theorem q9t (S:List Ou) (x:Ou):setou (fun i=>S.getD i Ou.oo) S.length x=fun i=>(S++[x]).getD i Ou.oo:=by
 funext i;unfold setou;split
 ·rename_i h;subst h;simp
 ·rename_i h;rcases Nat.lt_or_gt_of_ne h with h1|h1
  ·simp[xD,yF h1]
  ·show S.getD i Ou.oo=_;rw[xD,xD,ye Q8G,ye Q9j]
theorem qvc (S:List Ou) (x:Ou):growou (fun i=>S.getD i Ou.oo) S.length x=fun i=>(S++[x]).getD i Ou.oo:=by
 funext i;unfold growou;split
 ·rename_i h1;simp[xD,yF h1]
 ·rename_i h1;split
  ·rename_i h;subst h;simp
  ·rw[xD,ye Q9j];rfl
variable {S:List Ou}
theorem qav (hh:hp[n]?=some (some (ouR S c))):PostC ix hp n (ouR S c):=q4v (fun _ _=>rfl) hh
theorem q9u (hh:hp[n]?=some (some (ouC true c (setou (fun i=>S.getD i Ou.oo) S.length x)))):PostC ix hp n (ouR (S++[x]) c):=by
 rw[q9t] at hh;exact qav hh
theorem q4x (h:S.length<cap) (hc:S.length<=c) (hh:hp[n]?=some (some (grown (ouR S c) S.length 1 16 (ouV x) (ouV Ou.oo) cap))):PostC ix hp n (ouR (S++[x]) cap):=by
 have:=qj6 (ix:=ix) h (T:=fun i=>S.getD i Ou.oo) (fun j hj=>jks Q8G) hh;rw[qvc] at this;exact this
theorem qi6 (h:0<cap) (hh:hp[n]?=some (some (grown ⟨true,0,[]⟩ 0 1 16 (ouV x) (ouV Ou.oo) cap))):PostC ix hp n (ouR [x] cap):=by
 have:=qj6 (ix:=ix) (l:=0) h (T:=fun i=>([]:List Ou).getD i Ou.oo) (fun j hj=>absurd hj Q8G) hh;have e:=qvc [] x;rw[show growou (fun i=>([]:List Ou).getD i Ou.oo) 0 x=fun i=>[x].getD i Ou.oo from e] at this;exact this
theorem qj7:qbb ix (ouR S c) (ouR S c):=q05 fun _ _=>rfl
variable {h:Hp}
theorem qa1 {j:Nat} (hj:j<c*16):Safe1 h ((ouR S c).f j):=by
 rw[jks hj];generalize (S.getD (j / 16) Ou.oo)=x;generalize j%16=k;unfold je4;split<;>trivial
def Frm.by (f:Frm) (D:NdS) (now:Int):Frm:={f with s:=D.id,b:=D.boot,q:=D.seq,st:=now}
theorem ql2 (D:NdS) (f:Frm) (now fine:Int) (n l:Int) (hl:0<l/\l<1000) (hs:0<=D.seq/\D.seq<65535) (hb:0<=D.boot/\D.boot<=65535) (i0 i1 i2 i3 i4 i5 K:Nat) (h:Hp) (cf ct cm:Chunk) (h0:h[i0]?=some (some (sdC i1 now fine (.slice none 0 0)))) (h1:h[i1]?=some (some (ndC D i2 i3 i4 i5))) (h2:h[i2]?=some (some cf)) (h3:h[i3]?=some (some ct)) (h4:h[i4]?=some (some (twC n l))) (h5:h[i5]?=some (some cm)) (hK:h[K]?=some none) (hne:[i0,i1,i2,i3,i4,i5].Nodup) :
  CallAll prog 40 [xd i0,fmV f] h (fun v ms=>∃ κ:Nat,1<=κ/\v=.tuple ⟨[xc (D.boot*65536+D.seq),.bool true]⟩/\ms=[(i0,sdC i1 now fine (.slice (some ⟨K,0,some 0⟩) 1 κ)),(i1,ndC {D with seq:=D.seq+1} i2 i3 i4 i5),(i4,twC n (l-1)),(K,ouR [⟨f.by D now,fine⟩] κ)]):=by
 have key:=qaw (G:=tys) (h:=h) (vs:=[xd i0,fmV f]) (fun _:Unit=>True) (fun _=>_) (α:=Nat) (fun κ=>1<=κ) (fun κ=>.tuple ⟨[.int .i64 (D.boot*65536+D.seq),.bool true]⟩) [⟨i0,_,sdC 1 now fine (.slice none 0 0),noC⟩,⟨i1,_,ndC D 2 3 4 5,noC⟩,⟨i2,_,noC,noC⟩,⟨i3,_,noC,noC⟩,⟨i4,_,twC n l,noC⟩,⟨i5,_,noC,noC⟩]
  (fun κ=>[sdC i1 now fine (.slice (some ⟨K,0,some 0⟩) 1 κ),ndC {D with seq:=D.seq+1} i2 i3 i4 i5,noC,noC,twC n (l-1),noC]) (fun κ=>[⟨K,8,ouR [⟨f.by D now,fine⟩] κ⟩]) [xd 0,fmV f] tysOK mixed func40 Q8I (call40) (⟨h0,h1,h2,h3,h4,h5,xb⟩) ?_ ?_ ?_ ⟨.inl rfl,.inr ⟨rfl,rfl⟩,.inl rfl,.inl rfl,.inl rfl,.inl rfl,xb⟩ ?_ ?_ Opens.same ?_
 rotate_left
 ·exact Q29
 ·exact Q2b
 ·exact qb3 hne
 ·exact fun κ hκ=>Q8v
 ·exact Q4T
 ·rintro⟨⟩ -;refine Q2m ?_;refine App0N.mk2 (ouV ⟨f.by D now,fine⟩) Q7y Q8H Q8H Q8H fun κ hκ=>?_
  refine Q2E ?_;refine Ba Q7w ?_;exact Q3Q
 ·exact qat key fun v ms hR=>Q3z
def jox (D:NdS) (now fine:Int) (n l:Int) (S:List Ou) (x:Ou) (cap:Nat) (i0 i1 i2 i3 i4 i5 i6 K:Nat) (v:Value) (ms:Mz):Prop:=
 v=.tuple ⟨[xc (D.boot*65536+D.seq),.bool true]⟩/\((S.length<cap/\ms=[(i0,sdC i1 now fine (.slice (some ⟨i6,0,some 0⟩) (S.length+1) cap)),(i1,ndC {D with seq:=D.seq+1} i2 i3 i4 i5),(i4,twC n (l-1)),(i6,ouR (S++[x]) cap)])\/
  ∃ κ:Nat,S.length+1<=κ/\ms=[(i0,sdC i1 now fine (.slice (some ⟨K,0,some 0⟩) (S.length+1) κ)),(i1,ndC {D with seq:=D.seq+1} i2 i3 i4 i5),(i4,twC n (l-1)),(i6,ouR S cap),(K,ouR (S++[x]) κ)])
theorem q6s (D:NdS) (f:Frm) (now fine:Int) (n l:Int) (S:List Ou) (cap:Nat) (hS:S.length<=cap/\S.length<=1000) (hl:0<l/\l<1000) (hs:0<=D.seq/\D.seq<65535) (hb:0<=D.boot/\D.boot<=65535) (i0 i1 i2 i3 i4 i5 i6 K:Nat) (h:Hp) (cf ct cm:Chunk) (h0:h[i0]?=some (some (sdC i1 now fine (.slice (some ⟨i6,0,some 0⟩) S.length cap)))) (h1:h[i1]?=some (some (ndC D i2 i3 i4 i5))) (h2:h[i2]?=some (some cf)) (h3:h[i3]?=some (some ct)) (h4:h[i4]?=some (some (twC n l))) (h5:h[i5]?=some (some cm)) (h6:h[i6]?=some (some (ouR S cap))) (hK:h[K]?=some none) (hne:[i0,i1,i2,i3,i4,i5,i6].Nodup) :
  CallAll prog 40 [xd i0,fmV f] h (jox D now fine n l S ⟨f.by D now,fine⟩ cap i0 i1 i2 i3 i4 i5 i6 K):=by
 have key:=qaw (G:=tys) (h:=h) (vs:=[xd i0,fmV f]) (fun _:Unit=>True) (fun _=>_) (α:=Option Nat) (fun κ=>match κ with|none=>S.length<cap|some κ=>S.length+1<=κ) (fun κ=>.tuple ⟨[.int .i64 (D.boot*65536+D.seq),.bool true]⟩) [⟨i0,_,sdC 1 now fine (.slice (some ⟨6,0,some 0⟩) S.length cap),noC⟩,⟨i1,_,ndC D 2 3 4 5,noC⟩,⟨i2,_,noC,noC⟩,⟨i3,_,noC,noC⟩,⟨i4,_,twC n l,noC⟩,⟨i5,_,noC,noC⟩,⟨i6,_,ouR S cap,noC⟩]
  (fun κ=>match κ with|none=>[sdC i1 now fine (.slice (some ⟨i6,0,some 0⟩) (S.length+1) cap),ndC {D with seq:=D.seq+1} i2 i3 i4 i5,noC,noC,twC n (l-1),noC,ouR (S++[⟨f.by D now,fine⟩]) cap]|some κ=>[sdC i1 now fine (.slice (some ⟨K,0,some 0⟩) (S.length+1) κ),ndC {D with seq:=D.seq+1} i2 i3 i4 i5,noC,noC,twC n (l-1),noC,ouR S cap]) (fun κ=>match κ with|none=>[]|some κ=>[⟨K,9,ouR (S++[⟨f.by D now,fine⟩]) κ⟩]) [xd 0,fmV f] tysOK mixed func40 Q8I (call40) ⟨h0,h1,h2,h3,h4,h5,h6,xb⟩ ?_ ?_ ?_ ⟨.inl rfl,.inr ⟨rfl,rfl⟩,.inl rfl,.inl rfl,.inl rfl,.inl rfl,.inl rfl,xb⟩ ?_ ?_ Opens.same ?_
 rotate_left
 ·exact⟨Q85,Q7l,Q6B,Q6B,Q7O,Q6B,⟨fun _=>⟨rfl,xm _⟩,nlr _,qj7⟩,xb⟩
 ·intro κ hκ;cases κ with
  | none=>exact⟨⟨fun _=>⟨rfl,nlr _⟩,nlr _,lt4 (.ptr Q8I) (.plain rfl) (.plain rfl) (.slice Q8I)⟩,⟨fun _=>⟨rfl,nlr _⟩,nlr _,jgl Q8I Q8I Q8I Q8I⟩,⟨fun h=>Q95,xm _,nzj⟩,⟨fun h=>Q95,xm _,nzj⟩,⟨fun _=>⟨rfl,nlr _⟩,nlr _,re2⟩,⟨fun h=>Q95,xm _,nzj⟩,⟨fun _=>⟨rfl,nlr _⟩,nlr _,qj7⟩,xb⟩
  | some κ=>exact⟨⟨fun _=>⟨rfl,nlr _⟩,nlr _,lt4 (.ptr Q8I) (.plain rfl) (.plain rfl) (.slice Q8I)⟩,⟨fun _=>⟨rfl,nlr _⟩,nlr _,jgl Q8I Q8I Q8I Q8I⟩,⟨fun h=>Q95,xm _,nzj⟩,⟨fun h=>Q95,xm _,nzj⟩,⟨fun _=>⟨rfl,nlr _⟩,nlr _,re2⟩,⟨fun h=>Q95,xm _,nzj⟩,⟨fun _=>⟨rfl,nlr _⟩,nlr _,qj7⟩,xb⟩
 ·exact qb3 hne
 ·intro κ hκ;cases κ with
  | none=>exact trivial
  | some κ=>exact⟨⟨hK,rfl,.inl Qag,by simp⟩,xb⟩
 ·exact Q4T
 ·rintro⟨⟩ -;refine Q2m ?_;refine qk8 (ouV ⟨f.by D now,fine⟩) Q7y Q8I (by show S.length*16<=cap*16;omega) Q8G (by show(S.length+1)*128<=_;omega) (ouC true cap (setou (fun i=>S.getD i Ou.oo) S.length ⟨f.by D now,fine⟩)) (fun h=>jow Q8G rfl) (fun hr=>?_) (fun hg κ hκ=>?_)
  ·refine Q0f ?_;refine Bq ?_;refine Bo none ⟨hr,?_⟩;refine Q3D ?_;refine Ba ⟨Q7C,Q7K,⟨_,rfl,id,nlr _,re2⟩,q9u rfl,xb⟩ ?_;refine Ba xb ?_;refine Ba ⟨Q8m,xb⟩ ?_;exact Bg
  ·refine Q0f ?_;refine Bq ?_;refine Bo (some κ) ⟨hκ,?_⟩;refine Q3D ?_;refine Ba ⟨Q7C,Q7K,⟨_,rfl,id,nlr _,re2⟩,qav rfl,xb⟩ ?_;refine Ba ⟨⟨xO rfl,q4x Q8G hS.1 rfl⟩,xb⟩ ?_;refine Ba ⟨Q8m,.inl rfl,xb⟩ ?_;exact Bg
 ·exact qat key fun v ms hR=>Q3H
theorem qrk {q:Nat×Nat} {k:Nat}:∀ vs:List Value,All2 (AtRe q k) vs vs
 | []=>trivial
 | v::vs=>⟨.same v,qrk vs⟩
theorem qht {g:FuncId} {rest:List Value} {V:Value} (gg:Rz) (S:Nat->Ses) (m:Nat) (hm:m<64) (s':Ses) (i k:Nat) (hV:qan V=true) (hi:h[i]?=some (some (@Chunk.mk (jd8 jem 64 gg S) o n ps))) (hk:h[k]?=some none)
  (hc:∀ (k:Nat) (h:Hp),h[k]?=some (some (sesP (S m)))->qaf prog g (xd k::rest) h V [(k,sesP s')] []) :
  CallAll prog g (jeb (gg m)::rest) h fun v ms=>v=V/\ms=[(i,@Chunk.mk (jd8 jem 64 gg (upd S m s')) o n ps)]:=by
 have hkl:=(xe.1 hk).1
 have key:=hc k ((h.set i (some (@Chunk.mk (wandX (fun a=>jd8 jem 64 gg (upd S m a)) jem (gg m)) o n ps))).set k (some (@Chunk.mk (jem (S m)) true 0 []))) (xx Q9A)
 rw[<-qup S m] at hi
 refine qzj (vs':=xd k::rest) (Y:=fun a=>jd8 jem 64 gg (upd S m a)) (Z:=jem) (q:=gg m) (a:=S m) i k hi hk (qzl jem gg S hm (S m) rfl) qcq ⟨.ptr,qrk rest⟩ (qc0 key) fun v ms hR=>?_
 obtain⟨rfl,rfl⟩:=hR
 refine⟨s',[],?_,(fun m hm=>by cases hm),(fun r r' _=>by rw[qa8 hV,qa8 hV]),rfl,rfl⟩
 show List.set _ _ _=List.set _ _ _
 rw[yZ]
theorem joy (gg:Rz) (S:Nat->Ses) (m:Nat) (hm:m<64) (t p:Int) (i k:Nat) (hi:h[i]?=some (some (@Chunk.mk (jd8 jem 64 gg S) o n ps))) (hk:h[k]?=some none):CallAll prog 75 [jeb (gg m),xc t,xc p] h fun v ms=>v=.tuple #[]/\ms=[(i,@Chunk.mk (jd8 jem 64 gg (upd S m ((S m).poll t p))) o n ps)]:=
 qht gg S m hm _ i k rfl hi hk fun k h hk=>q3k (S m) t p k h hk
theorem qox (gg:Rz) (S:Nat->Ses) (m:Nat) (hm:m<64) (t p:Int) (i k:Nat) (hi:h[i]?=some (some (@Chunk.mk (jd8 jem 64 gg S) o n ps))) (hk:h[k]?=some none):CallAll prog 121 [jeb (gg m),xc t,xc p] h fun v ms=>v=.tuple #[]/\ms=[(i,@Chunk.mk (jd8 jem 64 gg (upd S m ((S m).gotPoll t p))) o n ps)]:=
 qht gg S m hm _ i k rfl hi hk fun k h hk=>qsq (S m) t p k h hk
theorem ql3 (gg:Rz) (S:Nat->Ses) (m:Nat) (hm:m<64) (t p:Int) (hP:(S m).gotRespP t p) (i k:Nat) (hi:h[i]?=some (some (@Chunk.mk (jd8 jem 64 gg S) o n ps))) (hk:h[k]?=some none):CallAll prog 123 [jeb (gg m),xc t,xc p] h fun v ms=>v=.bool true/\ms=[(i,@Chunk.mk (jd8 jem 64 gg (upd S m ⟨⟨2,(S m).a.fr,t,(S m).a.mr,(S m).a.sp⟩,(S m).b⟩)) o n ps)]:=
 qht gg S m hm _ i k rfl hi hk fun k h hk=>qqw (S m) t p hP k h hk
theorem q06 (gg:Rz) (S:Nat->Ses) (m:Nat) (hm:m<64) (t p:Int) (hP:¬ (S m).gotRespP t p) (i k:Nat) (hi:h[i]?=some (some (@Chunk.mk (jd8 jem 64 gg S) o n ps))) (hk:h[k]?=some none):CallAll prog 123 [jeb (gg m),xc t,xc p] h fun v ms=>v=.bool false/\ms=[(i,@Chunk.mk (jd8 jem 64 gg (upd S m (S m))) o n ps)]:=
 qht gg S m hm _ i k rfl hi hk fun k h hk=>qqx (S m) t p hP k h hk
theorem q07 (gg:Rz) (S:Nat->Ses) (m:Nat) (hm:m<64) (t:Int) (hP:(S m).a.endP t) (i k:Nat) (hi:h[i]?=some (some (@Chunk.mk (jd8 jem 64 gg S) o n ps))) (hk:h[k]?=some none):CallAll prog 124 [jeb (gg m),xc t] h fun v ms=>v=.tuple #[xc (IntKind.i64.wrap ((S m).a.to-(S m).a.fr)),xc (IntKind.i64.wrap (t-(S m).a.to)),.bool true]/\ms=[(i,@Chunk.mk (jd8 jem 64 gg (upd S m ⟨Half.o,(S m).b⟩)) o n ps)]:=
 qht gg S m hm _ i k rfl hi hk fun k h hk=>qwb (S m) t hP k h hk
theorem q9v (gg:Rz) (S:Nat->Ses) (m:Nat) (hm:m<64) (t:Int) (hP:¬ (S m).a.endP t) (i k:Nat) (hi:h[i]?=some (some (@Chunk.mk (jd8 jem 64 gg S) o n ps))) (hk:h[k]?=some none):CallAll prog 124 [jeb (gg m),xc t] h fun v ms=>v=.tuple #[xc 0,xc 0,.bool false]/\ms=[(i,@Chunk.mk (jd8 jem 64 gg (upd S m (S m))) o n ps)]:=
 qht gg S m hm _ i k rfl hi hk fun k h hk=>qwc (S m) t hP k h hk
theorem jc6 (gg:Rz) (S:Nat->Ses) (m:Nat) (hm:m<64) (t p:Int) (hP:(S m).b.ansP t) (i k:Nat) (hi:h[i]?=some (some (@Chunk.mk (jd8 jem 64 gg S) o n ps))) (hk:h[k]?=some none):CallAll prog 122 [jeb (gg m),xc t,xc p] h fun v ms=>v=.bool true/\ms=[(i,@Chunk.mk (jd8 jem 64 gg (upd S m ⟨(S m).a,⟨2,(S m).b.fr,t,p,(S m).b.sp⟩⟩)) o n ps)]:=
 qht gg S m hm _ i k rfl hi hk fun k h hk=>qzh (S m) t p hP k h hk
theorem jc7 (gg:Rz) (S:Nat->Ses) (m:Nat) (hm:m<64) (t p:Int) (hP:¬ (S m).b.ansP t) (i k:Nat) (hi:h[i]?=some (some (@Chunk.mk (jd8 jem 64 gg S) o n ps))) (hk:h[k]?=some none):CallAll prog 122 [jeb (gg m),xc t,xc p] h fun v ms=>v=.bool false/\ms=[(i,@Chunk.mk (jd8 jem 64 gg (upd S m (S m))) o n ps)]:=
 qht gg S m hm _ i k rfl hi hk fun k h hk=>qzi (S m) t p hP k h hk
theorem qwv (gg:Rz) (S:Nat->Ses) (m:Nat) (hm:m<64) (t r d p:Int) (hP:(S m).gotFinalP t p) (i k:Nat) (hi:h[i]?=some (some (@Chunk.mk (jd8 jem 64 gg S) o n ps))) (hk:h[k]?=some none):CallAll prog 125 [jeb (gg m),xc t,xc r,xc d,xc p] h fun v ms=>v=.tuple #[.agg #[xc r,xc (IntKind.i64.wrap ((S m).b.to-(S m).b.fr)),xc d,xc (IntKind.i64.wrap (t-(S m).b.to))],xc (S m).b.sp,.bool true]/\ms=[(i,@Chunk.mk (jd8 jem 64 gg (upd S m ⟨(S m).a,Half.o⟩)) o n ps)]:=
 qht gg S m hm _ i k rfl hi hk fun k h hk=>qoi (S m) t r d p hP k h hk
theorem qww (gg:Rz) (S:Nat->Ses) (m:Nat) (hm:m<64) (t r d p:Int) (hP:¬ (S m).gotFinalP t p) (i k:Nat) (hi:h[i]?=some (some (@Chunk.mk (jd8 jem 64 gg S) o n ps))) (hk:h[k]?=some none):CallAll prog 125 [jeb (gg m),xc t,xc r,xc d,xc p] h fun v ms=>v=.tuple #[.agg #[xc 0,xc 0,xc 0,xc 0],xc 0,.bool false]/\ms=[(i,@Chunk.mk (jd8 jem 64 gg (upd S m (S m))) o n ps)]:=
 qht gg S m hm _ i k rfl hi hk fun k h hk=>qoj (S m) t r d p hP k h hk
end Go.Proofs.YtfkngpmgcimdbaaGreat
