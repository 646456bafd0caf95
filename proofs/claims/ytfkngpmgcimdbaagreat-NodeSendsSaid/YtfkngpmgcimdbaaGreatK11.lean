/-
  A node hears.
-/
import Derived.KernelRfl
import Derived.Test.YtfkngpmgcimdbaaGreatK10
set_option linter.unusedVariables false
set_option linter.unusedSimpArgs false
set_option maxRecDepth 100000
set_option maxHeartbeats 20000000
open Go.IntKind
theorem Go.Proofs.zH:type_of% @Nat.add_mul_div_right:=@Nat.add_mul_div_right
open Go.Proofs.Tryz
namespace Go.Proofs
section
variable{Z Y:Prop}
theorem Q03(h:Z:=by
 obtain⟨rfl,hR⟩:=hR;rw[show askP (s.tl g now fine).D (s.tl g now fine).l (s.T.ev now (s.C 7)) now fine=s.ask g now fine from rfl,qgc] at hR;cases ho2:(s.ask g now fine).o with
 | none=>
  rw[ho2] at hR;obtain rfl:=hR;repeat' (refine Ba ?_;first|refine Q5P ?_|fail)
  have eL:jfr s g now fine=[⟨(estF s).by (s.nd g) now,fine⟩]++[x]++[]:=by unfold jfr;rw[ho,ho2];rfl
  rw[eL];refine Ba ?_;refine qa2 (s.ticked g now fine) g 0 1 2 3 4 [8] qa3 (λi hi=>.inl Qa4) Q9S rfl rfl rfl Q7Z Q9S rfl rfl re7 Q9S Q9S rfl rfl re2 Q9S rfl rfl re2 Q9S (λk hk=>by simp at hk;omega) (λk hk d hd l hl=>?_) Q8V ?_
  .obtain rfl:k=8:=by simpa using hk
   exact Q3y
  refine Bn (κ1,8) ⟨by first|exact hκ|exact hκ1|exact hκ2|(simp only[xv,xS,yh] at *;omega),?_⟩;refine Bc Q8D ?_;refine Bc Q8c ?_;refine Bc Q89 ?_;refine Bc Q87 ?_;exact Be
 | some y=>
  rw[ho2] at hR;rcases hR with ⟨hκ1,rfl⟩|⟨κ2,hκ2,rfl⟩
  .repeat' (refine Ba ?_;first|refine Q5P ?_|fail)
   have eL:jfr s g now fine=[⟨(estF s).by (s.nd g) now,fine⟩]++[x]++[y]:=by unfold jfr;rw[ho,ho2];rfl
   rw[eL];refine Ba ?_;refine qa2 (s.ticked g now fine) g 0 1 2 3 4 [8] qa3 (λi hi=>.inl Qa4) Q9S rfl rfl rfl Q7Z Q9S rfl rfl re7 Q9S Q9S rfl rfl re2 Q9S rfl rfl re2 Q9S (λk hk=>by simp at hk;omega) (λk hk d hd l hl=>?_) Q8V ?_
   .obtain rfl:k=8:=by simpa using hk
    exact Q2Z
   refine Bn (κ1,8) ⟨by first|exact hκ|exact hκ1|exact hκ2|(simp only[xv,xS,yh] at *;omega),?_⟩;refine Bc Q8D ?_;refine Bc Q8c ?_;refine Bc Q89 ?_;refine Bc Q87 ?_;exact Be
  .exact Q17):Z:=h
theorem Q05(h:Z:=by ·exact Q17):Z:=h
theorem Q0d(h:Z:=by
 refine Bh (jij (D:=(s.tl g now fine).D) (T:=s.T.ev now (s.C 7)) (now:=now) (fine:=fine) (n:=s.bn) (l:=(s.tl g now fine).l) (S:=[⟨(estF s).by (s.nd g) now,fine⟩]) (cap:=κ) (i0:=5) (i1:=0) (i2:=1) (i3:=2) (i4:=3) (i5:=4) (i6:=6) (K:=9) (qei ok.E) Q9o tl1 tq tb hT Q8d) λv ms hR=>?_
 obtain⟨rfl,hR⟩:=hR;rw[show askP (s.tl g now fine).D (s.tl g now fine).l (s.T.ev now (s.C 7)) now fine=s.ask g now fine from rfl,qgc] at hR;cases ho2:(s.ask g now fine).o with
 | none=>
  rw[ho2] at hR;obtain rfl:=hR;repeat' (refine Ba ?_;first|refine Q5P ?_|fail)
  have eL:jfr s g now fine=[⟨(estF s).by (s.nd g) now,fine⟩]++[]:=by unfold jfr;rw[ho,ho2];rfl
  rw[eL];refine Ba ?_;refine qa2 (s.ticked g now fine) g 0 1 2 3 4 [6] qa3 (λi hi=>.inl Qa4) Q9S rfl rfl rfl Q7Z Q9S rfl rfl re7 Q9S Q9S rfl rfl re2 Q9S rfl rfl re2 Q9S (λk hk=>by simp at hk;omega) (λk hk d hd l hl=>?_) Q8u ?_
  .obtain rfl:k=6:=by simpa using hk
   exact Q4S
  refine Bn (κ,6) ⟨by first|exact hκ|exact hκ1|exact hκ2|(simp only[xv,xS,yh] at *;omega),?_⟩;refine Bc Q8D ?_;refine Bc Q8c ?_;refine Bc Q89 ?_;refine Bc Q87 ?_;exact Be
 | some y=>
  rw[ho2] at hR;rcases hR with ⟨hκ1,rfl⟩|⟨κ2,hκ2,rfl⟩
  .repeat' (refine Ba ?_;first|refine Q5P ?_|fail)
   have eL:jfr s g now fine=[⟨(estF s).by (s.nd g) now,fine⟩]++[y]:=by unfold jfr;rw[ho,ho2];rfl
   rw[eL];refine Ba ?_;refine qa2 (s.ticked g now fine) g 0 1 2 3 4 [6] qa3 (λi hi=>.inl Qa4) Q9S rfl rfl rfl Q7Z Q9S rfl rfl re7 Q9S Q9S rfl rfl re2 Q9S rfl rfl re2 Q9S (λk hk=>by simp at hk;omega) (λk hk d hd l hl=>?_) Q8u ?_
   .obtain rfl:k=6:=by simpa using hk
    exact Q3H
   refine Bn (κ,6) ⟨by first|exact hκ|exact hκ1|exact hκ2|(simp only[xv,xS,yh] at *;omega),?_⟩;refine Bc Q8D ?_;refine Bc Q8c ?_;refine Bc Q89 ?_;refine Bc Q87 ?_;exact Be
  .exact Q16):Z:=h
theorem Q0e(h:Z:=by
 refine Bh (jij (D:=(s.tl g now fine).D) (T:=s.T.ev now (s.C 7)) (now:=now) (fine:=fine) (n:=s.bn) (l:=(s.tl g now fine).l) (S:=[⟨(estF s).by (s.nd g) now,fine⟩]) (cap:=κ) (i0:=6) (i1:=0) (i2:=1) (i3:=2) (i4:=3) (i5:=4) (i6:=7) (K:=9) (qei ok.E) Q9o tl1 tq tb hT Q8d) λv ms hR=>?_
 obtain⟨rfl,hR⟩:=hR;rw[show askP (s.tl g now fine).D (s.tl g now fine).l (s.T.ev now (s.C 7)) now fine=s.ask g now fine from rfl,qgc] at hR;cases ho2:(s.ask g now fine).o with
 | none=>
  rw[ho2] at hR;obtain rfl:=hR;repeat' (refine Ba ?_;first|refine Q5P ?_|fail)
  have eL:jfr s g now fine=[⟨(estF s).by (s.nd g) now,fine⟩]++[]:=by unfold jfr;rw[ho,ho2];rfl
  rw[eL];refine Ba ?_;refine qa2 (s.ticked g now fine) g 0 1 2 3 4 [7] qa3 (λi hi=>.inl Qa4) Q9S rfl rfl rfl Q7Z Q9S rfl rfl re7 Q9S Q9S rfl rfl re2 Q9S rfl rfl re2 Q9S (λk hk=>by simp at hk;omega) (λk hk d hd l hl=>?_) Q8G ?_
  .obtain rfl:k=7:=by simpa using hk
   exact Q4S
  refine Bn (κ,7) ⟨by first|exact hκ|exact hκ1|exact hκ2|(simp only[xv,xS,yh] at *;omega),?_⟩;refine Bc Q8D ?_;refine Bc Q8c ?_;refine Bc Q89 ?_;refine Bc Q87 ?_;exact Be
 | some y=>
  rw[ho2] at hR;rcases hR with ⟨hκ1,rfl⟩|⟨κ2,hκ2,rfl⟩
  .repeat' (refine Ba ?_;first|refine Q5P ?_|fail)
   have eL:jfr s g now fine=[⟨(estF s).by (s.nd g) now,fine⟩]++[y]:=by unfold jfr;rw[ho,ho2];rfl
   rw[eL];refine Ba ?_;refine qa2 (s.ticked g now fine) g 0 1 2 3 4 [7] qa3 (λi hi=>.inl Qa4) Q9S rfl rfl rfl Q7Z Q9S rfl rfl re7 Q9S Q9S rfl rfl re2 Q9S rfl rfl re2 Q9S (λk hk=>by simp at hk;omega) (λk hk d hd l hl=>?_) Q8G ?_
   .obtain rfl:k=7:=by simpa using hk
    exact Q3H
   refine Bn (κ,7) ⟨by first|exact hκ|exact hκ1|exact hκ2|(simp only[xv,xS,yh] at *;omega),?_⟩;refine Bc Q8D ?_;refine Bc Q8c ?_;refine Bc Q89 ?_;refine Bc Q87 ?_;exact Be
  .exact Q16):Z:=h
theorem Q0H(h:Z:=by
 rw[ho2] at hR;obtain rfl:=hR;repeat' (refine Ba ?_;first|refine Q5P ?_|fail)
 have eL:jfr s g now fine=[⟨(estF s).by (s.nd g) now,fine⟩]++[x]++[]:=by unfold jfr;rw[ho,ho2];rfl
 rw[eL];refine Ba ?_;refine qa2 (s.ticked g now fine) g 0 1 2 3 4 [6] qa3 (λi hi=>.inl Qa4) Q9S rfl rfl rfl Q7Z Q9S rfl rfl re7 Q9S Q9S rfl rfl re2 Q9S rfl rfl re2 Q9S (λk hk=>by simp at hk;omega) (λk hk d hd l hl=>?_) Q8u ?_
 .obtain rfl:k=6:=by simpa using hk
  exact Q3y
 refine Bn (κ,6) ⟨by first|exact hκ|exact hκ1|exact hκ2|(simp only[xv,xS,yh] at *;omega),?_⟩;refine Bc Q8D ?_;refine Bc Q8c ?_;refine Bc Q89 ?_;refine Bc Q87 ?_;exact Be):Z:=h
theorem Q0I(h:Z:=by
 rw[ho2] at hR;obtain rfl:=hR;repeat' (refine Ba ?_;first|refine Q5P ?_|fail)
 have eL:jfr s g now fine=[⟨(estF s).by (s.nd g) now,fine⟩]++[x]++[]:=by unfold jfr;rw[ho,ho2];rfl
 rw[eL];refine Ba ?_;refine qa2 (s.ticked g now fine) g 0 1 2 3 4 [7] qa3 (λi hi=>.inl Qa4) Q9S rfl rfl rfl Q7Z Q9S rfl rfl re7 Q9S Q9S rfl rfl re2 Q9S rfl rfl re2 Q9S (λk hk=>by simp at hk;omega) (λk hk d hd l hl=>?_) Q8G ?_
 .obtain rfl:k=7:=by simpa using hk
  exact Q3y
 refine Bn (κ,7) ⟨by first|exact hκ|exact hκ1|exact hκ2|(simp only[xv,xS,yh] at *;omega),?_⟩;refine Bc Q8D ?_;refine Bc Q8c ?_;refine Bc Q89 ?_;refine Bc Q87 ?_;exact Be):Z:=h
theorem Q0K(k:Y)(h:Wr Y->Z:=by
 intro kQ;repeat' (refine Ba ?_;first|refine Q5P ?_|refine Q7f ?_|refine Q66 ?_|fail)
 refine Ba ?_;exact kQ.o):Z:=h ⟨k⟩
theorem Q0L(h:Z:=by
 repeat' (refine Ba ?_;first|refine Q5P ?_|fail)
 have eL:jfr s g now fine=[⟨(estF s).by (s.nd g) now,fine⟩]++[x]++[y]:=by unfold jfr;rw[ho,ho2];rfl
 rw[eL];refine Ba ?_;refine qa2 (s.ticked g now fine) g 0 1 2 3 4 [6] qa3 (λi hi=>.inl Qa4) Q9S rfl rfl rfl Q7Z Q9S rfl rfl re7 Q9S Q9S rfl rfl re2 Q9S rfl rfl re2 Q9S (λk hk=>by simp at hk;omega) (λk hk d hd l hl=>?_) Q8u ?_
 .obtain rfl:k=6:=by simpa using hk
  exact Q2Z
 refine Bn (κ,6) ⟨by first|exact hκ|exact hκ1|exact hκ2|(simp only[xv,xS,yh] at *;omega),?_⟩;refine Bc Q8D ?_;refine Bc Q8c ?_;refine Bc Q89 ?_;refine Bc Q87 ?_;exact Be):Z:=h
theorem Q0M(h:Z:=by
 repeat' (refine Ba ?_;first|refine Q5P ?_|fail)
 have eL:jfr s g now fine=[⟨(estF s).by (s.nd g) now,fine⟩]++[x]++[y]:=by unfold jfr;rw[ho,ho2];rfl
 rw[eL];refine Ba ?_;refine qa2 (s.ticked g now fine) g 0 1 2 3 4 [7] qa3 (λi hi=>.inl Qa4) Q9S rfl rfl rfl Q7Z Q9S rfl rfl re7 Q9S Q9S rfl rfl re2 Q9S rfl rfl re2 Q9S (λk hk=>by simp at hk;omega) (λk hk d hd l hl=>?_) Q8G ?_
 .obtain rfl:k=7:=by simpa using hk
  exact Q2Z
 refine Bn (κ,7) ⟨by first|exact hκ|exact hκ1|exact hκ2|(simp only[xv,xS,yh] at *;omega),?_⟩;refine Bc Q8D ?_;refine Bc Q8c ?_;refine Bc Q89 ?_;refine Bc Q87 ?_;exact Be):Z:=h
theorem Q13(h:Z:=by
 obtain rfl:=hR;refine Q01 ?_;refine Bh (qvi (D:=(s.nd g).up) (T:=s.T.ev now (s.C 7)) (now:=now) (fine:=fine) (n:=s.bn) (l:=s.bn-1) (S:=[⟨(estF s).by (s.nd g) now,fine⟩]) (cap:=κ) (i0:=5) (i1:=0) (i2:=1) (i3:=2) (i4:=3) (i5:=4) (i6:=6) (K:=8) (qei ok.E) Q9o Q9R (by rw[tks];omega) okb Q8d) λv ms hR=>?_
 obtain⟨rfl,hR⟩:=hR;rw[show tellP (s.nd g).up (s.bn-1) (s.T.ev now (s.C 7)) now fine=s.tl g now fine from rfl] at hR;cases ho:(s.tl g now fine).o with
 | none=>
  rw[ho] at hR;obtain rfl:=hR;refine Q01 ?_;exact Q0d
 | some x=>
  rw[ho] at hR;rcases hR with ⟨hκ0,rfl⟩|⟨κ1,hκ1,rfl⟩
  .refine Q01 ?_;refine Bh (jij (D:=(s.tl g now fine).D) (T:=s.T.ev now (s.C 7)) (now:=now) (fine:=fine) (n:=s.bn) (l:=(s.tl g now fine).l) (S:=[⟨(estF s).by (s.nd g) now,fine⟩]++[x]) (cap:=κ) (i0:=5) (i1:=0) (i2:=1) (i3:=2) (i4:=3) (i5:=4) (i6:=6) (K:=9) (qei ok.E) ⟨by exact hκ0,xT rfl⟩ tl1 tq tb hT Q8d) λv ms hR=>?_
   obtain⟨rfl,hR⟩:=hR;rw[show askP (s.tl g now fine).D (s.tl g now fine).l (s.T.ev now (s.C 7)) now fine=s.ask g now fine from rfl,qgc] at hR;cases ho2:(s.ask g now fine).o with
   | none=>
    exact Q0H
   | some y=>
    rw[ho2] at hR;rcases hR with ⟨hκ1,rfl⟩|⟨κ2,hκ2,rfl⟩
    .exact Q0L
    exact Q05
  .refine Q01 ?_;refine Bh (jij (D:=(s.tl g now fine).D) (T:=s.T.ev now (s.C 7)) (now:=now) (fine:=fine) (n:=s.bn) (l:=(s.tl g now fine).l) (S:=[⟨(estF s).by (s.nd g) now,fine⟩]++[x]) (cap:=κ1) (i0:=5) (i1:=0) (i2:=1) (i3:=2) (i4:=3) (i5:=4) (i6:=8) (K:=9) (qei ok.E) ⟨by exact hκ1,xT rfl⟩ tl1 tq tb hT Q8d) λv ms hR=>?_
   exact Q03):Z:=h
theorem Q14(h:Z:=by
 obtain rfl:=hR;refine Q01 ?_;refine Bh (qvi (D:=(s.nd g).up) (T:=s.T.ev now (s.C 7)) (now:=now) (fine:=fine) (n:=s.bn) (l:=s.bn-1) (S:=[⟨(estF s).by (s.nd g) now,fine⟩]) (cap:=κ) (i0:=6) (i1:=0) (i2:=1) (i3:=2) (i4:=3) (i5:=4) (i6:=7) (K:=8) (qei ok.E) Q9o Q9R (by rw[tks];omega) okb Q8d) λv ms hR=>?_
 obtain⟨rfl,hR⟩:=hR;rw[show tellP (s.nd g).up (s.bn-1) (s.T.ev now (s.C 7)) now fine=s.tl g now fine from rfl] at hR;cases ho:(s.tl g now fine).o with
 | none=>
  rw[ho] at hR;obtain rfl:=hR;refine Q01 ?_;exact Q0e
 | some x=>
  rw[ho] at hR;rcases hR with ⟨hκ0,rfl⟩|⟨κ1,hκ1,rfl⟩
  .refine Q01 ?_;refine Bh (jij (D:=(s.tl g now fine).D) (T:=s.T.ev now (s.C 7)) (now:=now) (fine:=fine) (n:=s.bn) (l:=(s.tl g now fine).l) (S:=[⟨(estF s).by (s.nd g) now,fine⟩]++[x]) (cap:=κ) (i0:=6) (i1:=0) (i2:=1) (i3:=2) (i4:=3) (i5:=4) (i6:=7) (K:=9) (qei ok.E) ⟨by exact hκ0,xT rfl⟩ tl1 tq tb hT Q8d) λv ms hR=>?_
   obtain⟨rfl,hR⟩:=hR;rw[show askP (s.tl g now fine).D (s.tl g now fine).l (s.T.ev now (s.C 7)) now fine=s.ask g now fine from rfl,qgc] at hR;cases ho2:(s.ask g now fine).o with
   | none=>
    exact Q0I
   | some y=>
    rw[ho2] at hR;rcases hR with ⟨hκ1,rfl⟩|⟨κ2,hκ2,rfl⟩
    .exact Q0M
    exact Q05
  .refine Q01 ?_;refine Bh (jij (D:=(s.tl g now fine).D) (T:=s.T.ev now (s.C 7)) (now:=now) (fine:=fine) (n:=s.bn) (l:=(s.tl g now fine).l) (S:=[⟨(estF s).by (s.nd g) now,fine⟩]++[x]) (cap:=κ1) (i0:=6) (i1:=0) (i2:=1) (i3:=2) (i4:=3) (i5:=4) (i6:=8) (K:=9) (qei ok.E) ⟨by exact hκ1,xT rfl⟩ tl1 tq tb hT Q8d) λv ms hR=>?_
   exact Q03):Z:=h
theorem Q16(h:Z:=by
 repeat' (refine Ba ?_;first|refine Q5P ?_|fail)
 have eL:jfr s g now fine=[⟨(estF s).by (s.nd g) now,fine⟩]++[y]:=by unfold jfr;rw[ho,ho2];rfl
 rw[eL];refine Ba ?_;refine qa2 (s.ticked g now fine) g 0 1 2 3 4 [9] qa3 (λi hi=>.inl Qa4) Q9S rfl rfl rfl Q7Z Q9S rfl rfl re7 Q9S Q9S rfl rfl re2 Q9S rfl rfl re2 Q9S (λk hk=>by simp at hk;omega) (λk hk d hd l hl=>?_) Q9N ?_
 .obtain rfl:k=9:=by simpa using hk
  exact Q3H
 refine Bn (κ2,9) ⟨by first|exact hκ|exact hκ1|exact hκ2|(simp only[xv,xS,yh] at *;omega),?_⟩;refine Bc Q8D ?_;refine Bc Q8c ?_;refine Bc Q89 ?_;refine Bc Q87 ?_;exact Be):Z:=h
theorem Q17(h:Z:=by
 repeat' (refine Ba ?_;first|refine Q5P ?_|fail)
 have eL:jfr s g now fine=[⟨(estF s).by (s.nd g) now,fine⟩]++[x]++[y]:=by unfold jfr;rw[ho,ho2];rfl
 rw[eL];refine Ba ?_;refine qa2 (s.ticked g now fine) g 0 1 2 3 4 [9] qa3 (λi hi=>.inl Qa4) Q9S rfl rfl rfl Q7Z Q9S rfl rfl re7 Q9S Q9S rfl rfl re2 Q9S rfl rfl re2 Q9S (λk hk=>by simp at hk;omega) (λk hk d hd l hl=>?_) Q9N ?_
 .obtain rfl:k=9:=by simpa using hk
  exact Q2Z
 refine Bn (κ2,9) ⟨by first|exact hκ|exact hκ1|exact hκ2|(simp only[xv,xS,yh] at *;omega),?_⟩;refine Bc Q8D ?_;refine Bc Q8c ?_;refine Bc Q89 ?_;refine Bc Q87 ?_;exact Be):Z:=h
theorem Q1Y(h:Z:=by
 obtain rfl:k=1:=by simpa using hk
 exact Q5v):Z:=h
theorem Q1Z(h:Z:=by repeat' (refine Ba ?_;first|refine Q5V ?_|refine Q5R ?_|refine Q6U ?_|refine Q64 ?_|refine Q60 ?_|refine Bg Qah ?_|refine Q7S ?_|exact Be|fail)):Z:=h
theorem Q2e(h:Z:=by repeat' (refine Ba ?_;first|refine Q5V ?_|refine Q5R ?_|refine Q64 ?_|refine Q60 ?_|refine Bg Qah ?_|refine Q7S ?_|exact Be|fail)):Z:=h
theorem Q2Z(h:Z:=by
 obtain rfl:ouR ([⟨(estF s).by (s.nd g) now,fine⟩]++[x]++[y]) _=d:=by simpa using hd
 exact qa4 hl):Z:=h
theorem Q3y(h:Z:=by
 obtain rfl:ouR ([⟨(estF s).by (s.nd g) now,fine⟩]++[x]++[]) _=d:=by simpa using hd
 exact qa4 hl):Z:=h
theorem Q3H(h:Z:=by
 obtain rfl:ouR ([⟨(estF s).by (s.nd g) now,fine⟩]++[y]) _=d:=by simpa using hd
 exact qa4 hl):Z:=h
theorem Q4S(h:Z:=by
 obtain rfl:ouR ([⟨(estF s).by (s.nd g) now,fine⟩]++[]) _=d:=by simpa using hd
 exact qa4 hl):Z:=h
theorem Q56(h:Z:=by exact⟨rfl,.inl ⟨rfl,rfl,rfl⟩⟩):Z:=h
theorem Q5v(h:Z:=by
 obtain rfl:jfc W B=d:=by simpa using hd
 exact absurd hl (yg l)):Z:=h
theorem Q5E(h:Z:=by
 by_cases h4:l=0
 .rw[if_pos h4,if_pos h4];rfl
 rw[if_neg h4,if_neg h4];rfl):Z:=h
theorem Q5L(h:Z:=by
 obtain rfl:_=dl:=by simpa using hl
 exact⟨_,rfl,rfl,rfl,re2⟩):Z:=h
theorem Q6n(k:Y)(h:Wr Y->Z:=by intro kQ;(first|refine Bb (qfo now _) ?_|refine Bb (qhq W B u bs hs hu hc 1 _ Q9S) ?_|refine Bf Qb9 ?_|refine Bf (ni hd) ?_|refine Bf (en ho) ?_|refine Bb (qkt (decF bs).1.st now (s.C 6) (s.C 4) _) ?_|refine Bf (ni hf) ?_|refine Bb (jn4 s.T ok.T (decF bs).1.s (decF bs).1.b (decF bs).1.q now _ _ rfl 3 _ Q9S) ?_|fail);exact kQ.o):Z:=h ⟨k⟩
theorem Q6s(k:Y)(h:Wr Y->Z:=by intro kQ;(first|refine Bb (qfo now _) ?_|refine Bb (qhq W B u bs hs hu hc 1 _ Q9S) ?_|refine Bf Qb9 ?_|fail);exact kQ.o):Z:=h ⟨k⟩
theorem Q6U(k:Y)(h:Wr Y->Z:=by intro kQ;(first|refine Bi y 1 e1 Q9R ?_|refine Bk _ (qb1 (p:=y) Q9R Q9R) ?_|fail);exact kQ.o):Z:=h ⟨k⟩
theorem Q6Y(k:Y)(h:Wr Y->Z:=by intro kQ;(first|refine Bb (jil v m l _ _ _ Q9S (jfn _ _ _) hl Q9R hv) ?_|refine Bb (qs8 v m _ _ _ Q9S (jfn _ _ _) Q9R Q9R) ?_|fail);exact kQ.o):Z:=h ⟨k⟩
theorem Q7b(k:Y)(h:Wr Y->Z:=by intro kQ;(first|refine Bc (.one (.agg ⟨.plain Q9S,.plain rfl,.slice Q9S,xb⟩)) ?_|fail);exact kQ.o):Z:=h ⟨k⟩
theorem Q7o(k:Y)(h:Wr Y->Z:=by intro kQ;(first|refine Bc (jf2 (by rw[jgd _ Q9R Q9R];omega)) ?_|fail);exact kQ.o):Z:=h ⟨k⟩
theorem Q7S(k:Y)(h:Wr Y->Z:=by intro kQ;(first|refine Bc (ql8 (jf2 hr) rfl) ?_|refine Bc xb ?_|fail);exact kQ.o):Z:=h ⟨k⟩
theorem Q7T(k:Y)(h:Wr Y->Z:=by intro kQ;(first|refine N.goto tysOK mixed ?_|fail);exact kQ.o):Z:=h ⟨k⟩
theorem Q7Z(h:Z:=by first|exact jhd (D:=(s.ticked g now fine).nd g) (f:=1) (t:=2) (b:=3) (m:=4) (f':=1) (t':=2) (b':=3) (m':=4) Q9S Q9S Q9S Q9S|fail):Z:=h
theorem Q86(h:Z:=by first|exact ⟨⟨λh=>Qaa,yD hin.1.symm,qds hin⟩,⟨λh=>Qaa,yD hjn.1.symm,qds hjn⟩,xb⟩|fail):Z:=h
theorem Q89(h:Z:=by first|exact ⟨⟨xT rfl,qay rfl⟩,xb⟩|fail):Z:=h
theorem Q8d(h:Z:=by first|exact ⟨by rfl,by rfl,by rfl,by rfl,by rfl,by rfl,by rfl,by rfl,by decide⟩|fail):Z:=h
theorem Q8h(h:Z:=by first|exact q1d (D:=s.nd g) (F:=s.fi) (T:=(hearT s.T (decF bs).1.s (decF bs).1.b (decF bs).1.q now).2) (f:=(decF bs).1) (m:=(decF bs).1.s.toNat) (at_:=at_) (now:=now) (fine:=fine) (n:=s.bn) (l:=s.bl) (i0:=7) (i1:=0) (i2:=2) (i3:=3) (i4:=4) (i5:=5) (K:=12) ⟨by omega,by omega,⟨hhd.2.1.1,hhd.2.1.2,hhd.2.2.1.1,hhd.2.2.1.2⟩,ok.bl,ok.seq,ok.boot,ok.F,ok.C2⟩ hmay.1 ⟨by rfl,by rfl,by rfl,by rfl,by rfl,by rfl,by rfl,by decide⟩|fail):Z:=h
theorem Q8l(h:Z:=by first|exact ⟨⟨_,rfl,id,nlr _,nzj⟩,⟨_,rfl,id,nlr _,nzj⟩,xb⟩|fail):Z:=h
theorem Q8p(h:Z:=by first|exact ⟨.ptr rfl,.quo,.plain rfl,.plain rfl,.plain rfl,xb⟩|fail):Z:=h
theorem Q8q(h:Z:=by first|exact ⟨⟨.inr ⟨_,rfl,rfl⟩,.inr ⟨_,rfl,rfl⟩,xb⟩,xb⟩|fail):Z:=h
theorem Q8z(h:Z:=by first|exact ⟨.inr ⟨rfl,rfl⟩,.inr ⟨rfl,rfl⟩,xb⟩|fail):Z:=h
theorem Q8F(h:Z:=by first|exact jhd (D:=(s).nd g) (f:=2) (t:=3) (b:=4) (m:=5) (f':=1) (t':=2) (b':=3) (m':=4) Q9S Q9S Q9S Q9S|fail):Z:=h
theorem Q8G(h:Z:=by first|exact λρ ρ' ha=>by have:=ha 7 ⟨_,rfl⟩;simp[den,den2,den1,den0,jft,this]|fail):Z:=h
theorem Q8I(h:Z:=by first|exact jhd (D:=(s.hr (s.tk (hearT s.T (decF bs).1.s (decF bs).1.b (decF bs).1.q now).2 (decF bs).1 at_ now fine)).nd g) (f:=2) (t:=3) (b:=4) (m:=5) (f':=1) (t':=2) (b':=3) (m':=4) Q9S Q9S Q9S Q9S|fail):Z:=h
theorem Q8J(h:Z:=by first|exact ⟨⟨λh=>Qaa,yD hin.1.symm,qds hin⟩,xb⟩|fail):Z:=h
theorem Q9o(h:Z:=by first|exact ⟨hκ,xT rfl⟩|fail):Z:=h
theorem Q9N(h:Z:=by first|exact λρ ρ' ha=>by have:=ha 9 ⟨_,rfl⟩;simp[den,den2,den1,den0,jft,this]|fail):Z:=h
theorem QaC(h:Z:=by show 0<=s.seq/\s.seq<65535;omega):Z:=h
end
end Go.Proofs

namespace Go.Proofs.YtfkngpmgcimdbaaGreat
open Go Go.RowKit Sx
def NSt.fi(s:NSt):Flr:=⟨s.fm,s.fv,⟨s.fx,s.fy,s.fa,s.fb,s.fd⟩⟩
def NSt.hr(s:NSt)(r:HrS):NSt:=⟨s.C,s.id,s.boot,r.seq,s.told,s.asked,s.bad,r.F.most,r.F.valid,r.F.e.x,r.F.e.y,r.F.e.a,r.F.e.b,r.F.e.d,r.T,s.bn,r.l,s.te,s.tx,r.S⟩
def NSt.badder(s:NSt):NSt:={s with bad:=min (s.bad+1) 1000000}
def NSt.tab(s:NSt)(T:Tbl):NSt:={s with T:=T}
structure HeardS where
 s:NSt
 o:Option Ou
 e:Int
def NSt.tk(s:NSt)(T:Tbl)(f:Frm)(at_ now fine:Int):HrS:=jgo (s.nd λ_=>(0,0)) s.bl s.fi T f.s.toNat f at_ now fine
def hearP(s:NSt)(bs:List Int)(at_ now fine:Int):HeardS:=
 if ¬ (0<=now/\now<=1000000) then ⟨s,none,1⟩
 else if (decF bs).2≠0 then ⟨s.badder,none,(decF bs).2⟩
 else if (decF bs).1.s=s.id then ⟨s,none,9⟩
 else if qg7 (decF bs).1.st now (s.C 6) (s.C 4)≠0 then ⟨s,none,qg7 (decF bs).1.st now (s.C 6) (s.C 4)⟩
 else if (hearT s.T (decF bs).1.s (decF bs).1.b (decF bs).1.q now).1≠0 then ⟨s.tab (hearT s.T (decF bs).1.s (decF bs).1.b (decF bs).1.q now).2,none,(hearT s.T (decF bs).1.s (decF bs).1.b (decF bs).1.q now).1⟩
 else ⟨s.hr (s.tk (hearT s.T (decF bs).1.s (decF bs).1.b (decF bs).1.q now).2 (decF bs).1 at_ now fine),(s.tk (hearT s.T (decF bs).1.s (decF bs).1.b (decF bs).1.q now).2 (decF bs).1 at_ now fine).o,0⟩
abbrev jj9(W:World)(B:List By)(s:NSt)(g:Rz):Hp:=[some (ndC (s.nd g) 2 3 4 5),some (jfc W B),some (fiF s.fi),some (tblC s.T),some (twC s.bn s.bl),some (twC s.te s.tx)]
variable{i:Nat}{c:Chunk}{W:World}{B:List By}
theorem qe3{j:Nat}{d c2 d2:Chunk}{s:NSt}:Opens [⟨i,c,ndP s,d⟩,⟨j,c2,jfc W B,d2⟩] (λ_:Rz=>True) (jj9 W B s):=by
 refine qs3 (jj9 W B s) [(0,0),(1,2),(2,3),(3,4),(4,5)] (λl i hm=>?_) rfl (λβ=>rfl) (λβ hβ l dl hl=>?_) (λβ hβ k d' hk=>?_)
 .simp only[xj,Prod.mk.injEq,xK,or_false] at hm;rcases hm with ⟨rfl,rfl⟩|⟨rfl,rfl⟩|⟨rfl,rfl⟩|⟨rfl,rfl⟩|⟨rfl,rfl⟩<;>rfl
 .match l,hl with
  | 0,hl=>
   obtain rfl:_=dl:=by simpa using hl
   exact⟨_,rfl,rfl,rfl,jhd (D:=s.nd β) (f:=2) (t:=3) (b:=4) (m:=5) (f':=1) (t':=2) (b':=3) (m':=4) Q9S Q9S Q9S Q9S⟩
  | 1,hl=>
   obtain rfl:_=dl:=by simpa using hl
   exact⟨_,rfl,rfl,rfl,re7⟩
  | 2,hl=>
   obtain rfl:_=dl:=by simpa using hl
   exact⟨_,rfl,rfl,rfl,nzj⟩
  | 3,hl=>
   exact Q5L
  | 4,hl=>
   exact Q5L
  | l+5,hl=>simp at hl
 .match k,hk with
  | 0,_=>exact .inr ⟨0,rfl,_,rfl⟩
  | 1,_=>exact .inl rfl
  | 2,_=>exact .inr ⟨1,rfl,_,rfl⟩
  | 3,_=>exact .inr ⟨2,rfl,_,rfl⟩
  | 4,_=>exact .inr ⟨3,rfl,_,rfl⟩
  | 5,_=>exact .inr ⟨4,rfl,_,rfl⟩
  | k+6,hk=>simp at hk
theorem qe4{j:Nat}{d c2 d2:Chunk}{T:NSt}:∀l,(l=0\/l=2\/l=3\/l=4\/l=5)->l<[(⟨i,c,ndP T,d⟩:je2),⟨j,c2,jfc W B,d2⟩].length->∃s,[(⟨i,c,ndP T,d⟩:je2),⟨j,c2,jfc W B,d2⟩][l]?=some s/\s.e.x≠Ext.none/\Selfish s.e.x:=λl hl hl2=>by
 have h2:l<2:=hl2;obtain rfl:l=0:=by omega
 exact⟨_,rfl,q6i T,qa8⟩
theorem qs4{bs:List Int}(h:(decF bs).2=0):(decF bs).1.may:=by
 unfold decF at h ⊢;repeat' (split at h)
 all_goals first|exact absurd h Q9V|skip
 all_goals (repeat' split)<;>first|assumption|omega|simp_all
theorem jd7(D:NdS)(k:Int)(f t b m:Nat){x:Ext}(hx:x=jfb jfo 64 D.g D.S):ChunkLe (ndC {D with bad:=k} f t b m) (@Chunk.mk x true 85 ((84,1,xc k)::(ndC D f t b m).ps)):=
 ⟨λh=>h,nlr _,λj hj=>by
  have hj:j<85:=hj;by_cases h:j<79
  .have e1:∀(a:Value) r,qa9 ((79,6,a)::r) j=qa9 r j:=λa r=>by rw[qan,if_neg Q9R]
   have e2:∀(a:Value) r,qa9 ((84,1,a)::r) j=qa9 r j:=λa r=>by rw[qan,if_neg Q9R]
   exact Q57
  .obtain⟨i,rfl⟩:∃i,j=79+i:=⟨j-79,by omega⟩;have h6:i<6:=by omega
   match i,h6 with
   | 0,_=>exact Eq.trans (b:=xd b) rfl rfl
   | 1,_=>exact Eq.trans (b:=xd m) rfl rfl
   | 2,_=>exact Eq.trans (b:=.int .i64 D.seq) rfl rfl
   | 3,_=>exact Eq.trans (b:=.int .i64 D.told) rfl rfl
   | 4,_=>exact Eq.trans (b:=.int .i64 D.asked) rfl rfl
   | 5,_=>exact Eq.trans (b:=.int .i64 k) rfl rfl,.inr hx.symm⟩
variable{ix:List (Nat×Nat)}{D:NdS}{m:Nat}
theorem q46{f t b f' t' b' m':Nat}(h:ChunkLe (ndC D f t b m) c)(hf:ixK ix f'=some f)(ht:ixK ix t'=some t)(hb:ixK ix b'=some b)(hm:ixK ix m'=some m):∀j,j<85->Re1 ix (c.f j) ((ndC D f' t' b' m').f j):=λj hj=>by
 rw[<-h.2.2.1 j hj];exact jhd hf ht hb hm j hj
structure NdH(s:NSt):Prop where
 C2:0<=s.C 2/\s.C 2<=1000
 bl:0<=s.bl/\s.bl<1000
 seq:0<=s.seq/\s.seq<65535
 boot:0<=s.boot/\s.boot<=65535
 bad:0<=s.bad/\s.bad<=1000000
 F:s.fv=true->s.fi.e.may
 T:TOK s.T
theorem jr0(W:World)(B:List By)(s:NSt)(u:Option Sl)(bs:List Int)(hs:Src W B u bs)(hu:∀j,j<bs.length->0<=bs.getD j 0/\bs.getD j 0<256)(hc:∀s,u=some s->s.n<=s.c)(ok:NdH s)(at_ now fine:Int)(ht:¬ (0<=now/\now<=1000000))(i j K:Nat)(hij:i≠j)(h:Hp)(hi:h[i]?=some (some (ndP s)))(hj:h[j]?=some (some (jfc W B)))(hK:h[K]?=some none):
  qae prog 11 [xd i,uV u,xc at_,xc now,xc fine] h (.tuple #[.slice none 0 0,xc 1]) [(i,ndP (s)),(j,jfc W B)] []:=by
 refine qar (G:=tys) (λ_:Rz=>True) (jj9 W B s) [⟨i,ndP s,ndP s,ndP (s)⟩,⟨j,jfc W B,jfc W B,jfc W B⟩] [] [xd 0,uV u,xc at_,xc now,xc fine] tysOK mixed func11 Q9S (call11) ⟨hi,hj,xb⟩ ⟨Q7X,Q7X,xb⟩ Qas Q8z xb Q8p qe3 ?_
 intro g _
 repeat' (refine Ba ?_;first|refine Q5P ?_|refine Q7T ?_|refine Bb (qfo now _) ?_|refine Bg (by rw[xf ht];rfl) ?_|fail)
 refine Ba ?_
 refine qa2 (s) g 0 2 3 4 5 [1] qe4 (λi hi=>by have hi:i<2:=hi;simp only[xj,xK,or_false];omega) Q9S rfl rfl rfl Q8F Q9S rfl rfl re7 Q9S Q9S rfl rfl re2 Q9S rfl rfl re2 Q9S (λk hk=>by simp at hk;omega) (λk hk d hd l hl=>?_) (qbn rfl) ?_
 .exact Q1Y
 refine Bc (.plain rfl) ?_
 refine Bc Q8l ?_
 refine Bc xb ?_
 refine Bc Q8q ?_
 exact Be
theorem jr1(W:World)(B:List By)(s:NSt)(u:Option Sl)(bs:List Int)(hs:Src W B u bs)(hu:∀j,j<bs.length->0<=bs.getD j 0/\bs.getD j 0<256)(hc:∀s,u=some s->s.n<=s.c)(ok:NdH s)(at_ now fine:Int)(ht:0<=now/\now<=1000000)(hd:(decF bs).2≠0)(i j K:Nat)(hij:i≠j)(h:Hp)(hi:h[i]?=some (some (ndP s)))(hj:h[j]?=some (some (jfc W B)))(hK:h[K]?=some none):
  qae prog 11 [xd i,uV u,xc at_,xc now,xc fine] h (.tuple #[.slice none 0 0,xc (decF bs).2]) [(i,ndP (s.badder)),(j,jfc W B)] []:=by
 refine qar (G:=tys) (λ_:Rz=>True) (jj9 W B s) [⟨i,ndP s,ndP s,ndP (s.badder)⟩,⟨j,jfc W B,jfc W B,jfc W B⟩] [] [xd 0,uV u,xc at_,xc now,xc fine] tysOK mixed func11 Q9S (call11) ⟨hi,hj,xb⟩ ⟨Q7X,Q7X,xb⟩ Qas Q8z xb Q8p qe3 ?_
 intro g _
 have hw:min (IntKind.i64.wrap (s.bad+1)) 1000000=min (s.bad+1) 1000000:=by rw[je5 (s.bad+1) (by have:=ok.bad;omega) (by have:=ok.bad;omega)]
 repeat' (refine Ba ?_;first|refine Q5P ?_|refine Q6s ?_|refine Bg (nn hd) ?_|fail)
 refine Ba ?_
 refine N.min2 ?_
 rw[hw]
 repeat' (refine Ba ?_;first|refine Q5P ?_|refine Q7T ?_|fail)
 refine Ba ?_
 refine qa2 (s.badder) g 0 2 3 4 5 [1] qe4 (λi hi=>by have hi:i<2:=hi;simp only[xj,xK,or_false];omega) Q9S rfl rfl rfl (q46 (jd7 (s.nd g) (min (s.bad+1) 1000000) 2 3 4 5 rfl) Q9S Q9S Q9S Q9S) Q9S rfl rfl re7 Q9S Q9S rfl rfl re2 Q9S rfl rfl re2 Q9S (λk hk=>by simp at hk;omega) (λk hk d hd l hl=>?_) (qbn rfl) ?_
 .exact Q1Y
 refine Bc (.plain rfl) ?_
 refine Bc Q8l ?_
 refine Bc xb ?_
 refine Bc Q8q ?_
 exact Be
theorem jr2(W:World)(B:List By)(s:NSt)(u:Option Sl)(bs:List Int)(hs:Src W B u bs)(hu:∀j,j<bs.length->0<=bs.getD j 0/\bs.getD j 0<256)(hc:∀s,u=some s->s.n<=s.c)(ok:NdH s)(at_ now fine:Int)(ht:0<=now/\now<=1000000)(hd:(decF bs).2=0)(ho:(decF bs).1.s=s.id)(i j K:Nat)(hij:i≠j)(h:Hp)(hi:h[i]?=some (some (ndP s)))(hj:h[j]?=some (some (jfc W B)))(hK:h[K]?=some none):
  qae prog 11 [xd i,uV u,xc at_,xc now,xc fine] h (.tuple #[.slice none 0 0,xc 9]) [(i,ndP (s)),(j,jfc W B)] []:=by
 refine qar (G:=tys) (λ_:Rz=>True) (jj9 W B s) [⟨i,ndP s,ndP s,ndP (s)⟩,⟨j,jfc W B,jfc W B,jfc W B⟩] [] [xd 0,uV u,xc at_,xc now,xc fine] tysOK mixed func11 Q9S (call11) ⟨hi,hj,xb⟩ ⟨Q7X,Q7X,xb⟩ Qas Q8z xb Q8p qe3 ?_
 intro g _
 repeat' (refine Ba ?_;first|refine Q5P ?_|refine Q7T ?_|refine Q6s ?_|refine Bf (ni hd) ?_|refine Bg (ei ho) ?_|fail)
 refine Ba ?_
 refine qa2 (s) g 0 2 3 4 5 [1] qe4 (λi hi=>by have hi:i<2:=hi;simp only[xj,xK,or_false];omega) Q9S rfl rfl rfl Q8F Q9S rfl rfl re7 Q9S Q9S rfl rfl re2 Q9S rfl rfl re2 Q9S (λk hk=>by simp at hk;omega) (λk hk d hd l hl=>?_) (qbn rfl) ?_
 .exact Q1Y
 refine Bc (.plain rfl) ?_
 refine Bc Q8l ?_
 refine Bc xb ?_
 refine Bc Q8q ?_
 exact Be
theorem jr3(W:World)(B:List By)(s:NSt)(u:Option Sl)(bs:List Int)(hs:Src W B u bs)(hu:∀j,j<bs.length->0<=bs.getD j 0/\bs.getD j 0<256)(hc:∀s,u=some s->s.n<=s.c)(ok:NdH s)(at_ now fine:Int)(ht:0<=now/\now<=1000000)(hd:(decF bs).2=0)(ho:¬ (decF bs).1.s=s.id)(hf:qg7 (decF bs).1.st now (s.C 6) (s.C 4)≠0)(i j K:Nat)(hij:i≠j)(h:Hp)(hi:h[i]?=some (some (ndP s)))(hj:h[j]?=some (some (jfc W B)))(hK:h[K]?=some none):
  qae prog 11 [xd i,uV u,xc at_,xc now,xc fine] h (.tuple #[.slice none 0 0,xc (qg7 (decF bs).1.st now (s.C 6) (s.C 4))]) [(i,ndP (s)),(j,jfc W B)] []:=by
 refine qar (G:=tys) (λ_:Rz=>True) (jj9 W B s) [⟨i,ndP s,ndP s,ndP (s)⟩,⟨j,jfc W B,jfc W B,jfc W B⟩] [] [xd 0,uV u,xc at_,xc now,xc fine] tysOK mixed func11 Q9S (call11) ⟨hi,hj,xb⟩ ⟨Q7X,Q7X,xb⟩ Qas Q8z xb Q8p qe3 ?_
 intro g _
 repeat' (refine Ba ?_;first|refine Q5P ?_|refine Q7T ?_|refine Q6s ?_|refine Bf (ni hd) ?_|refine Bf (en ho) ?_|refine Bb (qkt (decF bs).1.st now (s.C 6) (s.C 4) _) ?_|refine Bg (nn hf) ?_|fail)
 refine Ba ?_
 refine qa2 (s) g 0 2 3 4 5 [1] qe4 (λi hi=>by have hi:i<2:=hi;simp only[xj,xK,or_false];omega) Q9S rfl rfl rfl Q8F Q9S rfl rfl re7 Q9S Q9S rfl rfl re2 Q9S rfl rfl re2 Q9S (λk hk=>by simp at hk;omega) (λk hk d hd l hl=>?_) (qbn rfl) ?_
 .exact Q1Y
 refine Bc (.plain rfl) ?_
 refine Bc Q8l ?_
 refine Bc xb ?_
 refine Bc Q8q ?_
 exact Be
theorem jr4(W:World)(B:List By)(s:NSt)(u:Option Sl)(bs:List Int)(hs:Src W B u bs)(hu:∀j,j<bs.length->0<=bs.getD j 0/\bs.getD j 0<256)(hc:∀s,u=some s->s.n<=s.c)(ok:NdH s)(at_ now fine:Int)(ht:0<=now/\now<=1000000)(hd:(decF bs).2=0)(ho:¬ (decF bs).1.s=s.id)(hf:qg7 (decF bs).1.st now (s.C 6) (s.C 4)=0)(he:(hearT s.T (decF bs).1.s (decF bs).1.b (decF bs).1.q now).1≠0)(i j K:Nat)(hij:i≠j)(h:Hp)(hi:h[i]?=some (some (ndP s)))(hj:h[j]?=some (some (jfc W B)))(hK:h[K]?=some none):
  qae prog 11 [xd i,uV u,xc at_,xc now,xc fine] h (.tuple #[.slice none 0 0,xc (hearT s.T (decF bs).1.s (decF bs).1.b (decF bs).1.q now).1]) [(i,ndP (s.tab (hearT s.T (decF bs).1.s (decF bs).1.b (decF bs).1.q now).2)),(j,jfc W B)] []:=by
 refine qar (G:=tys) (λ_:Rz=>True) (jj9 W B s) [⟨i,ndP s,ndP s,ndP (s.tab (hearT s.T (decF bs).1.s (decF bs).1.b (decF bs).1.q now).2)⟩,⟨j,jfc W B,jfc W B,jfc W B⟩] [] [xd 0,uV u,xc at_,xc now,xc fine] tysOK mixed func11 Q9S (call11) ⟨hi,hj,xb⟩ ⟨Q7X,Q7X,xb⟩ Qas Q8z xb Q8p qe3 ?_
 intro g _
 repeat' (refine Ba ?_;first|refine Q5P ?_|refine Q7T ?_|refine Q6n ?_|refine Bg (nn he) ?_|fail)
 refine Ba ?_
 refine qa2 (s.tab (hearT s.T (decF bs).1.s (decF bs).1.b (decF bs).1.q now).2) g 0 2 3 4 5 [1] qe4 (λi hi=>by have hi:i<2:=hi;simp only[xj,xK,or_false];omega) Q9S rfl rfl rfl (jhd (D:=(s.tab (hearT s.T (decF bs).1.s (decF bs).1.b (decF bs).1.q now).2).nd g) (f:=2) (t:=3) (b:=4) (m:=5) (f':=1) (t':=2) (b':=3) (m':=4) Q9S Q9S Q9S Q9S) Q9S rfl rfl re7 Q9S Q9S rfl rfl re2 Q9S rfl rfl re2 Q9S (λk hk=>by simp at hk;omega) (λk hk d hd l hl=>?_) (qbn rfl) ?_
 .exact Q1Y
 refine Bc (.plain rfl) ?_
 refine Bc Q8l ?_
 refine Bc xb ?_
 refine Bc Q8q ?_
 exact Be
theorem jr5(W:World)(B:List By)(s:NSt)(u:Option Sl)(bs:List Int)(hs:Src W B u bs)(hu:∀j,j<bs.length->0<=bs.getD j 0/\bs.getD j 0<256)(hc:∀s,u=some s->s.n<=s.c)(ok:NdH s)(at_ now fine:Int)(ht:0<=now/\now<=1000000)(hd:(decF bs).2=0)(ho:¬ (decF bs).1.s=s.id)(hf:qg7 (decF bs).1.st now (s.C 6) (s.C 4)=0)(he:(hearT s.T (decF bs).1.s (decF bs).1.b (decF bs).1.q now).1=0)(hx:(s.tk (hearT s.T (decF bs).1.s (decF bs).1.b (decF bs).1.q now).2 (decF bs).1 at_ now fine).o=none)(i j K:Nat)(hij:i≠j)(h:Hp)(hi:h[i]?=some (some (ndP s)))(hj:h[j]?=some (some (jfc W B)))(hK:h[K]?=some none):
  qae prog 11 [xd i,uV u,xc at_,xc now,xc fine] h (.tuple #[.slice none 0 0,xc 0]) [(i,ndP (s.hr (s.tk (hearT s.T (decF bs).1.s (decF bs).1.b (decF bs).1.q now).2 (decF bs).1 at_ now fine))),(j,jfc W B)] []:=by
 refine qar (G:=tys) (λ_:Rz=>True) (jj9 W B s) [⟨i,ndP s,ndP s,ndP (s.hr (s.tk (hearT s.T (decF bs).1.s (decF bs).1.b (decF bs).1.q now).2 (decF bs).1 at_ now fine))⟩,⟨j,jfc W B,jfc W B,jfc W B⟩] [] [xd 0,uV u,xc at_,xc now,xc fine] tysOK mixed func11 Q9S (call11) ⟨hi,hj,xb⟩ ⟨Q7X,Q7X,xb⟩ Qas Q8z xb Q8p qe3 ?_
 intro g _
 repeat' (refine Ba ?_;first|refine Q5P ?_|refine Q6n ?_|refine Bf (ni he) ?_|fail)
 have hmay:=qs4 hd
 have hhd:=hmay.2.1
 unfold Frm.head at hhd
 refine Ba ?_
 refine Bh Q8h λv ms hR=>?_
 obtain⟨rfl,hR⟩:=hR
 rw[show(jgo (s.nd g) s.bl s.fi (hearT s.T (decF bs).1.s (decF bs).1.b (decF bs).1.q now).2 (decF bs).1.s.toNat (decF bs).1 at_ now fine)=s.tk (hearT s.T (decF bs).1.s (decF bs).1.b (decF bs).1.q now).2 (decF bs).1 at_ now fine from rfl] at hR
 rw[hx] at hR
 obtain rfl:=hR
 repeat' (refine Ba ?_;first|refine Q5P ?_|refine Q7T ?_|fail)
 refine Ba ?_
 refine qa2 (s.hr (s.tk (hearT s.T (decF bs).1.s (decF bs).1.b (decF bs).1.q now).2 (decF bs).1 at_ now fine)) g 0 2 3 4 5 [1] qe4 (λi hi=>by have hi:i<2:=hi;simp only[xj,xK,or_false];omega) Q9S rfl rfl rfl Q8I Q9S rfl rfl re7 Q9S Q9S rfl rfl re2 Q9S rfl rfl re2 Q9S (λk hk=>by simp at hk;omega) (λk hk d hd l hl=>?_) (qbn rfl) ?_
 .exact Q1Y
 refine Bc (.plain rfl) ?_
 refine Bc Q8l ?_
 refine Bc xb ?_
 refine Bc Q8q ?_
 exact Be
theorem jr6(W:World)(B:List By)(s:NSt)(u:Option Sl)(bs:List Int)(hs:Src W B u bs)(hu:∀j,j<bs.length->0<=bs.getD j 0/\bs.getD j 0<256)(hc:∀s,u=some s->s.n<=s.c)(ok:NdH s)(at_ now fine:Int)(ht:0<=now/\now<=1000000)(hd:(decF bs).2=0)(ho:¬ (decF bs).1.s=s.id)(hf:qg7 (decF bs).1.st now (s.C 6) (s.C 4)=0)(he:(hearT s.T (decF bs).1.s (decF bs).1.b (decF bs).1.q now).1=0)(x:Ou)(hx:(s.tk (hearT s.T (decF bs).1.s (decF bs).1.b (decF bs).1.q now).2 (decF bs).1 at_ now fine).o=some x)(i j K:Nat)(hij:i≠j)(h:Hp)(hi:h[i]?=some (some (ndP s)))(hj:h[j]?=some (some (jfc W B)))(hK:h[K]?=some none):
  CallAll prog 11 [xd i,uV u,xc at_,xc now,xc fine] h (λv ms=>∃κ:Nat,1<=κ/\v=.tuple #[.slice (some ⟨K,0,some 0⟩) 1 κ,xc 0]/\ms=[(i,ndP (s.hr (s.tk (hearT s.T (decF bs).1.s (decF bs).1.b (decF bs).1.q now).2 (decF bs).1 at_ now fine))),(j,jfc W B),(K,ouR [x] κ)]):=by
 have key:=qa7 (G:=tys) (h:=h) (vs:=[xd i,uV u,.int .i64 at_,.int .i64 now,.int .i64 fine]) (λ_:Rz=>True) (jj9 W B s) (α:=Nat) (λκ=>1<=κ) (λκ=>.tuple #[.slice (some ⟨K,0,some 0⟩) 1 κ,.int .i64 0]) [⟨i,ndP s,ndP s,ndP s⟩,⟨j,jfc W B,jfc W B,jfc W B⟩] (λ_=>[ndP (s.hr (s.tk (hearT s.T (decF bs).1.s (decF bs).1.b (decF bs).1.q now).2 (decF bs).1 at_ now fine)),jfc W B]) (λκ=>[⟨K,12,ouR [x] κ⟩]) [xd 0,uV u,.int .i64 at_,.int .i64 now,.int .i64 fine] tysOK mixed func11 Q9S (call11) ⟨hi,hj,xb⟩ ⟨Q7X,Q7X,xb⟩ (λκ _=>⟨Q7X,Q7X,xb⟩) Qas Q8z (λκ hκ=>Q9E) Q8p qe3 ?_
 .refine qav key λv ms hR=>?_
  exact Q49
 intro g _
 repeat' (refine Ba ?_;first|refine Q5P ?_|refine Q6n ?_|refine Bf (ni he) ?_|fail)
 have hmay:=qs4 hd
 have hhd:=hmay.2.1
 unfold Frm.head at hhd
 refine Ba ?_
 refine Bh Q8h λv ms hR=>?_
 obtain⟨rfl,hR⟩:=hR
 rw[show(jgo (s.nd g) s.bl s.fi (hearT s.T (decF bs).1.s (decF bs).1.b (decF bs).1.q now).2 (decF bs).1.s.toNat (decF bs).1 at_ now fine)=s.tk (hearT s.T (decF bs).1.s (decF bs).1.b (decF bs).1.q now).2 (decF bs).1 at_ now fine from rfl] at hR
 rw[hx] at hR
 obtain⟨κ,hκ,rfl⟩:=hR
 repeat' (refine Ba ?_;first|refine Q5P ?_|refine Q7T ?_|fail)
 refine Ba ?_
 refine qa2 (s.hr (s.tk (hearT s.T (decF bs).1.s (decF bs).1.b (decF bs).1.q now).2 (decF bs).1 at_ now fine)) g 0 2 3 4 5 [1,12] qe4 (λi hi=>by have hi:i<2:=hi;simp only[xj,xK,or_false];omega) Q9S rfl rfl rfl Q8I Q9S rfl rfl re7 Q9S Q9S rfl rfl re2 Q9S rfl rfl re2 Q9S (λk hk=>by simp at hk;omega) (λk hk d hd l hl=>?_) (λρ ρ' ha=>by have:=ha 12 ⟨_,rfl⟩;simp[den,den2,den1,den0,jft,this]) ?_
 .simp only[xj,xK,or_false] at hk;rcases hk with rfl|rfl
  .exact Q5v
  .obtain rfl:ouR [x] κ=d:=by simpa using hd
   exact qa4 hl
 refine Bn κ ⟨hκ,?_⟩
 refine Bc (.tuple ⟨.slice Q9S,.plain rfl,xb⟩) ?_
 refine Bc Q8l ?_
 refine Bc Q89 ?_
 refine Bc ⟨⟨.inr ⟨_,rfl,rfl⟩,.inr ⟨_,rfl,rfl⟩,xb⟩,.inl rfl,xb⟩ ?_
 exact Be
def q6u(W:World)(B:List By)(r:HeardS)(i j K:Nat)(v:Value)(ms:Mz):Prop:=
 match r.o with
 | none=>v=.tuple #[.slice none 0 0,.int .i64 r.e]/\ms=[(i,ndP r.s),(j,jfc W B)]
 | some x=>∃κ:Nat,1<=κ/\v=.tuple #[.slice (some ⟨K,0,some 0⟩) 1 κ,.int .i64 r.e]/\ms=[(i,ndP r.s),(j,jfc W B),(K,ouR [x] κ)]
theorem qjv{r:HeardS}{s':NSt}{e':Int}{j K:Nat}{g:FuncId}{vs:List Value}{h:Hp}{rh:List Nat}(e:r=⟨s',none,e'⟩)(hc:qae prog g vs h (.tuple #[.slice none 0 0,xc e']) [(i,ndP s'),(j,jfc W B)] rh):CallAll prog g vs h (q6u W B r i j K):=by
 subst e;exact qav (qc1 hc) λv ms hR=>hR
theorem jd8(W:World)(B:List By)(s:NSt)(u:Option Sl)(bs:List Int)(hs:Src W B u bs)(hu:∀j,j<bs.length->0<=bs.getD j 0/\bs.getD j 0<256)(hc:∀s,u=some s->s.n<=s.c)(ok:NdH s)(at_ now fine:Int)(i j K:Nat)(hij:i≠j)(h:Hp)(hi:h[i]?=some (some (ndP s)))(hj:h[j]?=some (some (jfc W B)))(hK:h[K]?=some none):
  CallAll prog 11 [xd i,uV u,xc at_,xc now,xc fine] h (q6u W B (hearP s bs at_ now fine) i j K):=by
 by_cases ht:0<=now/\now<=1000000
 rotate_left
 .refine qjv ?_ (jr0 W B s u bs hs hu hc ok at_ now fine ht i j K hij h hi hj hK);unfold hearP;rw[if_pos ht]
 by_cases hd:(decF bs).2=0
 rotate_left
 .refine qjv ?_ (jr1 W B s u bs hs hu hc ok at_ now fine ht hd i j K hij h hi hj hK);unfold hearP;rw[if_neg (not_not_intro ht),if_pos hd]
 by_cases ho:(decF bs).1.s=s.id
 .refine qjv ?_ (jr2 W B s u bs hs hu hc ok at_ now fine ht hd ho i j K hij h hi hj hK);unfold hearP;rw[if_neg (not_not_intro ht),if_neg (not_not_intro hd),if_pos ho]
 by_cases hf:qg7 (decF bs).1.st now (s.C 6) (s.C 4)=0
 rotate_left
 .refine qjv ?_ (jr3 W B s u bs hs hu hc ok at_ now fine ht hd ho hf i j K hij h hi hj hK);unfold hearP;rw[if_neg (not_not_intro ht),if_neg (not_not_intro hd),if_neg ho,if_pos hf]
 by_cases he:(hearT s.T (decF bs).1.s (decF bs).1.b (decF bs).1.q now).1=0
 rotate_left
 .refine qjv ?_ (jr4 W B s u bs hs hu hc ok at_ now fine ht hd ho hf he i j K hij h hi hj hK);unfold hearP;rw[if_neg (not_not_intro ht),if_neg (not_not_intro hd),if_neg ho,if_neg (not_not_intro hf),if_pos he]
 have e1:hearP s bs at_ now fine=⟨s.hr (s.tk (hearT s.T (decF bs).1.s (decF bs).1.b (decF bs).1.q now).2 (decF bs).1 at_ now fine),(s.tk (hearT s.T (decF bs).1.s (decF bs).1.b (decF bs).1.q now).2 (decF bs).1 at_ now fine).o,0⟩:=by
  unfold hearP;rw[if_neg (not_not_intro ht),if_neg (not_not_intro hd),if_neg ho,if_neg (not_not_intro hf),if_neg (not_not_intro he)]
 cases hx:(s.tk (hearT s.T (decF bs).1.s (decF bs).1.b (decF bs).1.q now).2 (decF bs).1 at_ now fine).o with
 | none=>exact qjv (by rw[e1,hx]) (jr5 W B s u bs hs hu hc ok at_ now fine ht hd ho hf he hx i j K hij h hi hj hK)
 | some x=>
  rw[e1,hx];exact jr6 W B s u bs hs hu hc ok at_ now fine ht hd ho hf he x hx i j K hij h hi hj hK
def estF(s:NSt):Frm:=if s.fv=true then ⟨5,0,0,0,0,0,0,0,0,0,s.fx,s.fy,s.fa,s.fb,s.fd⟩ else ⟨1,0,0,0,0,0,0,0,0,0,0,0,0,0,0⟩
def NdS.up(D:NdS):NdS:={D with seq:=D.seq+1}
def NSt.tl(s:NSt)(g:Rz)(now fine:Int):TlS:=tellP (s.nd g).up (s.bn-1) (s.T.ev now (s.C 7)) now fine
def NSt.ask(s:NSt)(g:Rz)(now fine:Int):TlS:=askP (s.tl g now fine).D (s.tl g now fine).l (s.T.ev now (s.C 7)) now fine
def NSt.ticked(s:NSt)(g:Rz)(now fine:Int):NSt:=⟨s.C,s.id,s.boot,(s.ask g now fine).D.seq,(s.ask g now fine).D.told,(s.ask g now fine).D.asked,s.bad,s.fm,s.fv,s.fx,s.fy,s.fa,s.fb,s.fd,s.T.ev now (s.C 7),s.bn,(s.ask g now fine).l,s.te,now+s.te,(s.ask g now fine).D.S⟩
def jfr(s:NSt)(g:Rz)(now fine:Int):List Ou:=([⟨(estF s).by (s.nd g) now,fine⟩]++(s.tl g now fine).o.toList)++(s.ask g now fine).o.toList
theorem q47(s:NSt)(g:Rz)(now fine:Int):1<=(jfr s g now fine).length:=by
 unfold jfr;rw[xv,xv];simp only[xS,yh];omega
def jfu(s:NSt)(now fine:Int):NSt×List Ou:=
 if now<s.tx then ({s with bl:=s.bn,T:=s.T.ev now (s.C 7)},[])
 else (s.ticked (λ_=>(0,0)) now fine,jfr s (λ_=>(0,0)) now fine)
def NdS.at'(D:NdS)(g:Rz):NdS:={D with g:=g}
theorem jd9(D:NdS)(g:Rz)(l:Int)(T:Tbl)(now fine:Int):tellP (D.at' g) l T now fine=⟨(tellP D l T now fine).D.at' g,(tellP D l T now fine).l,(tellP D l T now fine).o⟩:=by
 have e1:je3 (D.at' g) T=je3 D T:=rfl;have e2:(D.at' g).id=D.id:=rfl;unfold tellP;rw[e1,e2];by_cases h1:T.E=[]
 .rw[if_pos h1,if_pos h1]
 rw[if_neg h1,if_neg h1];by_cases h2:(je3 D T).2=false
 .rw[if_pos h2,if_pos h2]
 rw[if_neg h2,if_neg h2];by_cases h3:(je3 D T).1=D.id\/¬ (T.get (je3 D T).1).when_<=now
 .rw[if_pos h3,if_pos h3];rfl
 rw[if_neg h3,if_neg h3];exact Q5E
theorem jp0(D:NdS)(g:Rz)(l:Int)(T:Tbl)(now fine:Int):askP (D.at' g) l T now fine=⟨(askP D l T now fine).D.at' g,(askP D l T now fine).l,(askP D l T now fine).o⟩:=by
 have e1:jfg (D.at' g) T=jfg D T:=rfl;unfold askP;rw[e1];by_cases h1:T.E=[]
 .rw[if_pos h1,if_pos h1]
 rw[if_neg h1,if_neg h1];exact Q5E
theorem jq1(s:NSt)(g:Rz)(now fine:Int):s.tl g now fine=⟨(s.tl (λ_=>(0,0)) now fine).D.at' g,(s.tl (λ_=>(0,0)) now fine).l,(s.tl (λ_=>(0,0)) now fine).o⟩:=
 jd9 (s.nd λ_=>(0,0)).up g (s.bn-1) (s.T.ev now (s.C 7)) now fine
theorem jr7(s:NSt)(g:Rz)(now fine:Int):s.ask g now fine=⟨(s.ask (λ_=>(0,0)) now fine).D.at' g,(s.ask (λ_=>(0,0)) now fine).l,(s.ask (λ_=>(0,0)) now fine).o⟩:=by
 unfold NSt.ask;rw[jq1 s g];exact jp0 _ g _ _ now fine
theorem jea(s:NSt)(g:Rz)(now fine:Int):s.ticked g now fine=s.ticked (λ_=>(0,0)) now fine/\jfr s g now fine=jfr s (λ_=>(0,0)) now fine:=by
 unfold NSt.ticked jfr;rw[jr7 s g,jq1 s g];exact⟨rfl,rfl⟩
theorem qjw(D:NdS)(l:Int)(T:Tbl)(now fine:Int):(tellP D l T now fine).D.C=D.C/\(tellP D l T now fine).D.id=D.id/\(tellP D l T now fine).D.boot=D.boot/\(tellP D l T now fine).D.g=D.g/\(tellP D l T now fine).D.bad=D.bad/\(D.seq<=(tellP D l T now fine).D.seq/\(tellP D l T now fine).D.seq<=D.seq+1)/\(0<=l->0<=(tellP D l T now fine).l/\(tellP D l T now fine).l<=l):=by
 unfold tellP;by_cases h1:T.E=[]
 .rw[if_pos h1];exact⟨rfl,rfl,rfl,rfl,rfl,⟨xY _,by show D.seq<=_;omega⟩,λh=>⟨h,xY _⟩⟩
 rw[if_neg h1];by_cases h2:(je3 D T).2=false
 .rw[if_pos h2];exact⟨rfl,rfl,rfl,rfl,rfl,⟨xY _,by show D.seq<=_;omega⟩,λh=>⟨h,xY _⟩⟩
 rw[if_neg h2];by_cases h3:(je3 D T).1=D.id\/¬ (T.get (je3 D T).1).when_<=now
 .rw[if_pos h3];exact⟨rfl,rfl,rfl,rfl,rfl,⟨xY _,by show D.seq<=_;omega⟩,λh=>⟨h,xY _⟩⟩
 rw[if_neg h3];by_cases h4:l=0
 .rw[if_pos h4];exact⟨rfl,rfl,rfl,rfl,rfl,⟨xY _,by show D.seq<=_;omega⟩,λh=>⟨h,xY _⟩⟩
 rw[if_neg h4];exact⟨rfl,rfl,rfl,rfl,rfl,⟨by show D.seq<=D.seq+1;omega,xY _⟩,λh=>⟨by show 0<=l-1;omega,by show l-1<=l;omega⟩⟩
theorem q1i(D:NdS)(l:Int)(T:Tbl)(now fine:Int):(askP D l T now fine).D.C=D.C/\(askP D l T now fine).D.id=D.id/\(askP D l T now fine).D.boot=D.boot/\(askP D l T now fine).D.g=D.g/\(askP D l T now fine).D.bad=D.bad:=by
 unfold askP;by_cases h1:T.E=[]
 .rw[if_pos h1];exact⟨rfl,rfl,rfl,rfl,rfl⟩
 rw[if_neg h1];by_cases h4:l=0
 .rw[if_pos h4];exact⟨rfl,rfl,rfl,rfl,rfl⟩
 rw[if_neg h4];exact⟨rfl,rfl,rfl,rfl,rfl⟩
structure NdT(s:NSt):Prop where
 seq:0<=s.seq/\s.seq<65530
 boot:0<=s.boot/\s.boot<=65535
 bn:0<s.bn/\s.bn<1000
 te:0<=s.te/\s.te<=1000000
 C7 : -9223372036854775808<=s.C 7/\s.C 7<9223372036854775808
 E:s.T.E.length<=64
theorem qgc(s:NSt)(g:Rz)(now fine:Int):(s.ask g now fine).D=(s.ticked g now fine).nd g:=by
 obtain⟨a1,a2,a3,a4,a5⟩:=q1i (s.tl g now fine).D (s.tl g now fine).l (s.T.ev now (s.C 7)) now fine;obtain⟨b1,b2,b3,b4,b5,_⟩:=qjw (s.nd g).up (s.bn-1) (s.T.ev now (s.C 7)) now fine;show(s.ask g now fine).D=⟨s.C,s.id,s.boot,g,(s.ask g now fine).D.S,(s.ask g now fine).D.seq,(s.ask g now fine).D.told,(s.ask g now fine).D.asked,s.bad⟩;have c1:(s.ask g now fine).D.C=s.C:=a1.trans b1;have c2:(s.ask g now fine).D.id=s.id:=a2.trans b2;have c3:(s.ask g now fine).D.boot=s.boot:=a3.trans b3;have c4:(s.ask g now fine).D.g=g:=a4.trans b4;have c5:(s.ask g now fine).D.bad=s.bad:=a5.trans b5;generalize (s.ask g now fine).D=D at c1 c2 c3 c4 c5;obtain⟨C,id,boot,g',S,sq,td,ak,bd⟩:=D;simp only at c1 c2 c3 c4 c5;subst c1 c2 c3 c4 c5;rfl
variable{T:Tbl}{now:Int}
theorem qei{silent:Int}(h:T.E.length<=64):(T.ev now silent).E.length<=64:=by
 have dl:∀(L:Ez)(k:Int),(jfw L k).length<=L.length:=λL k=>by unfold jfw;exact List.length_filter_le _ _
 have ge:∀r,(evE T.E (evP now silent) r).length<=T.E.length:=λr=>by
  induction r with
  | zero=>exact nlr _
  | succ r ih=>
   unfold evE;split
   .exact xH (dl _ _) ih
   .exact ih
 exact xH (ge _) h
theorem jad(s:NSt)(ok:NdT s)(now fine:Int)(ht:0<=now/\now<=1000000)(hd:now<s.tx)(i:Nat)(h:Hp)(hi:h[i]?=some (some (ndP s))):
  qae prog 9 [xd i,xc now,xc fine] h (.slice none 0 0) [(i,ndP {s with bl:=s.bn,T:=s.T.ev now (s.C 7)})] []:=by
 refine qar (G:=tys) (λ_:Rz=>True) (ndH s) [⟨i,ndP s,ndP s,ndP {s with bl:=s.bn,T:=s.T.ev now (s.C 7)}⟩] [] [xd 0,xc now,xc fine] tysOK mixed func9 Q9S (call9) ⟨hi,xb⟩ ⟨Q7X,xb⟩ Q9X Q81 xb Q85 qau ?_
 intro g _
 repeat' (refine Ba ?_;first|refine Q5S ?_|refine Q5U ?_|refine Q7a ?_|fail)
 refine Ba ?_
 refine Bv ?_
 refine Ba ?_
 refine Bt [0,1,2,3,4,5,6,7,8,9] [(10,[])] Q9W ?_
 repeat' (refine Ba ?_;first|refine Q5P ?_|fail)
 refine Ba ?_
 refine Bw [2,5] _ Q9W (λh₂ hh=>q6h s.T ok.E now (s.C 7) Q9R ok.C7 2 5 h₂ Q8R Q8X) λv ms hR=>?_
 rcases hR with ⟨_,rfl,rfl⟩|⟨cv,_,_,rfl,rfl⟩
 all_goals refine⟨by simp,?_⟩
 all_goals
  repeat' (refine Ba ?_;first|refine Q5P ?_|refine Bb (q8f s.te s.tx now 4 _ Q9S (.inl hd)) ?_|refine Q6c ?_|fail)
  refine Ba ?_
  refine qa2 {s with bl:=s.bn,T:=s.T.ev now (s.C 7)} g 0 1 2 3 4 [] qa3 (λi hi=>.inl Qa4) Q9S rfl rfl rfl (jhd (D:=s.nd g) (f:=1) (t:=2) (b:=3) (m:=4) (f':=1) (t':=2) (b':=3) (m':=4) Q9S Q9S Q9S Q9S) Q9S rfl rfl re7 Q9S Q9S rfl rfl re2 Q9S rfl rfl re2 Q9S (λk hk=>by cases hk) (λk hk=>by cases hk) (qbn rfl) ?_
  refine Bc (.plain rfl) ?_
  refine Bc Q8c ?_
  refine Bc xb ?_
  refine Bc ⟨⟨.inr ⟨_,rfl,rfl⟩,xb⟩,xb⟩ ?_
  exact Be
theorem jae(s:NSt)(ok:NdT s)(now fine:Int)(hT:TIn (s.T.ev now (s.C 7)))(ht:0<=now/\now<=1000000)(hd:¬ now<s.tx)(i K:Nat)(h:Hp)(hi:h[i]?=some (some (ndP s)))(hK:h[K]?=some none):
  CallAll prog 9 [xd i,xc now,xc fine] h (λv ms=>∃κ:Nat,(jfr s (λ_=>(0,0)) now fine).length<=κ/\v=.slice (some ⟨K,0,some 0⟩) (jfr s (λ_=>(0,0)) now fine).length κ/\ms=[(i,ndP (s.ticked (λ_=>(0,0)) now fine)),(K,ouR (jfr s (λ_=>(0,0)) now fine) κ)]):=by
 have key:=qa7 (G:=tys) (h:=h) (vs:=[xd i,.int .i64 now,.int .i64 fine]) (λ_:Rz=>True) (ndH s) (α:=Nat×Nat) (λκ=>(jfr s (λ_=>(0,0)) now fine).length<=κ.1) (λκ=>.slice (some ⟨K,0,some 0⟩) (jfr s (λ_=>(0,0)) now fine).length κ.1) [⟨i,ndP s,ndP s,ndP s⟩] (λ_=>[ndP (s.ticked (λ_=>(0,0)) now fine)]) (λκ=>[⟨K,κ.2,ouR (jfr s (λ_=>(0,0)) now fine) κ.1⟩]) [xd 0,.int .i64 now,.int .i64 fine] tysOK mixed func9 Q9S (call9) ⟨hi,xb⟩ ⟨Q7X,xb⟩ Q9I Q9X Q81 (λκ hκ=>⟨⟨hK,rfl,.inl (by show 0<κ.1*16;have h1:(jfr s (λ_=>(0,0)) now fine).length<=κ.1:=hκ;have h2:=q47 s (λ_=>(0,0)) now fine;omega),by simp⟩,xb⟩) Q85 qau ?_
 .refine qav key λv ms hR=>?_
  obtain⟨κ,hκ,rfl,rfl⟩:=hR;exact⟨κ.1,hκ,rfl,rfl⟩
 intro g _
 obtain⟨g1,g2⟩:=jea s g now fine
 rw[<-g1,<-g2]
 have okq:=ok.seq
 have okb:=ok.boot
 have okn:=ok.bn
 have okt:=ok.te
 have tk:=qjw (s.nd g).up (s.bn-1) (s.T.ev now (s.C 7)) now fine
 have tks:(s.nd g).up.seq=s.seq+1:=rfl
 have tkl:=tk.2.2.2.2.2.2 Q9R
 have tkq:=tk.2.2.2.2.2.1
 rw[tks] at tkq
 have tq:0<=(s.tl g now fine).D.seq/\(s.tl g now fine).D.seq<65535:=by
  show 0<=(tellP (s.nd g).up (s.bn-1) (s.T.ev now (s.C 7)) now fine).D.seq/\(tellP (s.nd g).up (s.bn-1) (s.T.ev now (s.C 7)) now fine).D.seq<65535;omega
 have tl1:0<=(s.tl g now fine).l/\(s.tl g now fine).l<1000:=by
  show 0<=(tellP (s.nd g).up (s.bn-1) (s.T.ev now (s.C 7)) now fine).l/\(tellP (s.nd g).up (s.bn-1) (s.T.ev now (s.C 7)) now fine).l<1000;omega
 have tb:0<=(s.tl g now fine).D.boot/\(s.tl g now fine).D.boot<=65535:=by
  have:(s.tl g now fine).D.boot=s.boot:=tk.2.2.1;rw[this];exact okb
 repeat' (refine Ba ?_;first|refine Q5S ?_|refine Q5U ?_|refine Q7a ?_|fail)
 refine Ba ?_
 refine Bv ?_
 refine Ba ?_
 refine Bt [0,1,2,3,4,5,6,7,8,9] [(10,[])] Q9W ?_
 repeat' (refine Ba ?_;first|refine Q5P ?_|fail)
 refine Ba ?_
 refine Bw [2,5] _ Q9W (λh₂ hh=>q6h s.T ok.E now (s.C 7) Q9R ok.C7 2 5 h₂ Q8R Q8X) λv ms hR=>?_
 rcases hR with ⟨_,rfl,rfl⟩|⟨cv,_,_,rfl,rfl⟩
 all_goals refine⟨by simp,?_⟩
 .rcases qdb s.fv with hv|hv
  .refine Q0K ?_;refine Bh (ql2 (s.nd g) ⟨1,0,0,0,0,0,0,0,0,0,0,0,0,0,0⟩ now fine s.bn s.bn Q9R QaC okb 5 0 1 2 3 4 6 _ _ _ _ Q9S Q9S Q9S Q9S Q9S Q9S Q9S Q9V) λv ms hR=>?_
   obtain⟨κ,hκ,rfl,hR⟩:=hR;rw[show(⟨1,0,0,0,0,0,0,0,0,0,0,0,0,0,0⟩:Frm)=estF s by unfold estF;rw[hv];rfl] at hR;exact Q13
  .refine Q0K ?_;refine Bh (ql2 (s.nd g) ⟨5,0,0,0,0,0,0,0,0,0,s.fx,s.fy,s.fa,s.fb,s.fd⟩ now fine s.bn s.bn Q9R QaC okb 5 0 1 2 3 4 6 _ _ _ _ Q9S Q9S Q9S Q9S Q9S Q9S Q9S Q9V) λv ms hR=>?_
   obtain⟨κ,hκ,rfl,hR⟩:=hR;rw[show(⟨5,0,0,0,0,0,0,0,0,0,s.fx,s.fy,s.fa,s.fb,s.fd⟩:Frm)=estF s by unfold estF;rw[hv];rfl] at hR;exact Q13
 .rcases qdb s.fv with hv|hv
  .refine Q0K ?_;refine Bh (ql2 (s.nd g) ⟨1,0,0,0,0,0,0,0,0,0,0,0,0,0,0⟩ now fine s.bn s.bn Q9R QaC okb 6 0 1 2 3 4 7 _ _ _ _ Q9S Q9S Q9S Q9S Q9S Q9S Q9S Q9V) λv ms hR=>?_
   obtain⟨κ,hκ,rfl,hR⟩:=hR;rw[show(⟨1,0,0,0,0,0,0,0,0,0,0,0,0,0,0⟩:Frm)=estF s by unfold estF;rw[hv];rfl] at hR;exact Q14
  .refine Q0K ?_;refine Bh (ql2 (s.nd g) ⟨5,0,0,0,0,0,0,0,0,0,s.fx,s.fy,s.fa,s.fb,s.fd⟩ now fine s.bn s.bn Q9R QaC okb 6 0 1 2 3 4 7 _ _ _ _ Q9S Q9S Q9S Q9S Q9S Q9S Q9S Q9V) λv ms hR=>?_
   obtain⟨κ,hκ,rfl,hR⟩:=hR;rw[show(⟨5,0,0,0,0,0,0,0,0,0,s.fx,s.fy,s.fa,s.fb,s.fd⟩:Frm)=estF s by unfold estF;rw[hv];rfl] at hR;exact Q14
open Go Go.RowKit Sx
def EAll(P:Ent->Prop)(E:Ez):Prop:=∀k e,dGet E k=some e->P e
variable{P:Ent->Prop}
theorem EAll.nil:EAll P []:=λk e h=>by simp[dGet] at h
variable{E:Ez}
theorem EAll.put(h:EAll P E){k:Int}{e:Ent}(he:P e):EAll P (dPut E k e):=λk' x hx=>by
 by_cases hk:k'=k
 .subst hk;rw[qbf] at hx;obtain rfl:e=x:=by simpa using hx
  exact he
 .rw[qcs _ _ hk] at hx;exact h k' x hx
theorem EAll.del(h:EAll P E)(k:Int):EAll P (jfw E k):=λk' x hx=>by
 by_cases hk:k'=k
 .subst hk;rw[qit] at hx;cases hx
 .rw[qlh _ hk] at hx;exact h k' x hx
structure EP(id:Int)(e:Ent):Prop where
 n:0<=e.node/\e.node<64
 ne:¬ e.node=id
 yes:e.has=true->e.el.may/\qbl e.when_
 no:e.has=false->e.el=El.o
variable{id:Int}
theorem EP.beg(h:EAll (EP id) E){n:Int}(hn:0<=n/\n<64)(hi:¬ n=id):EAll (EP id) (jfs E n):=by
 unfold jfs;split
 .exact h.put ⟨hn,hi,(λh=>by cases h),λ_=>rfl⟩
 .exact h
theorem EP.heard{id most:Int}{E:Ez}(h:EAll (EP id) E){n:Int}(boot now:Int)(hn:0<=n/\n<64)(hi:¬ n=id):EAll (EP id) (qga most E n boot now):=by
 unfold qga;have he:EP id { (dGet E n).getD Ent.zero with node:=n,boot:=boot,heard:=now }:=by
  cases hg:dGet E n with
  | none=>exact⟨hn,hi,(λh=>by cases h),λ_=>rfl⟩
  | some e=>exact⟨hn,hi,(h n e hg).yes,(h n e hg).no⟩
 split
 .exact(h.del _).put he
 .exact h.put he
structure TI(id:Int)(T:Tbl):Prop where
 ok:TOK T
 E:EOK T.E
 P:EAll (EP id) T.E
theorem TI.hear(h:TI id T){n:Int}(boot seq now:Int)(hn:0<=n/\n<64)(hi:¬ n=id):TI id (hearT T n boot seq now).2/\(hearT T n boot seq now).2.most=T.most:=by
 obtain⟨h1,h2,h3⟩:=q20 h.ok h.E (show hearT T n boot seq now=((hearT T n boot seq now).1,(hearT T n boot seq now).2) from rfl);refine⟨⟨h1,h2,?_⟩,h3⟩;unfold hearT;split
 .split
  .exact EP.heard (EP.beg h.P hn hi) boot now hn hi
  .split
   .split
    .exact h.P
    .split
     .exact EP.heard h.P boot now hn hi
     .exact h.P
   .split
    .exact EP.heard (EP.beg h.P hn hi) boot now hn hi
    .exact h.P
 .exact h.P
theorem TI.dels(h:TI id T)(n:Int):TI id ⟨T.most,jfw T.E n,T.lives⟩:=
 ⟨⟨h.ok.most,Int.le_trans (Int.ofNat_le.2 (qmy _ _)) h.ok.len,h.ok.seen⟩,h.E.del n,h.P.del n⟩
theorem TI.leave(h:TI id T)(n:Int):TI id (T.leave n)/\(T.leave n).most=T.most:=by
 unfold Tbl.leave;split
 .rename_i l hl;refine⟨⟨⟨h.ok.most,(h.dels n).ok.len,λm l' hl'=>?_⟩,h.E.del n,h.P.del n⟩,rfl⟩;unfold jfl at hl';simp only at hl';split at hl'
  .obtain rfl:_=l':=by simpa using hl'
   exact h.ok.seen n l hl
  .exact h.ok.seen m l' hl'
 .exact⟨h,rfl⟩
theorem TI.keep(h:TI id T)(k:Int){g:El}(hg:g.may)(ht:qbl now):TI id (T.keep k g now)/\(T.keep k g now).most=T.most:=by
 unfold Tbl.keep;split
 .rename_i e he;have hk:=h.E.key k e he;refine⟨⟨⟨h.ok.most,?_,h.ok.seen⟩,?_,h.P.put ⟨(h.P k e he).n,(h.P k e he).ne,λ_=>⟨hg,ht⟩,λh=>by cases h⟩⟩,rfl⟩
  .show((dPut T.E k _).length:Int)<=_;rw[qli,if_neg (by rw[he];simp)];exact h.ok.len
  .have:=h.E.put (e.put g.x g.y g.a g.b g.d now);rw[show(e.put g.x g.y g.a g.b g.d now).node=k from hk] at this;exact this
 .exact⟨h,rfl⟩
theorem TI.putE(h:TI id T)(C:Nat->Int)(k:Int)(e:El)(w now:Int):TI id (ji4 C T k e w now)/\(ji4 C T k e w now).most=T.most:=by
 unfold ji4;split
 .rename_i h0;obtain⟨h1,h2⟩:=qrf h0;refine h.keep k ?_ h1;split
  .rename_i h3;exact qrg (qho h3) h2
  .exact h2
 .exact⟨h,rfl⟩
theorem TI.ev(h:TI id T)(now silent:Int):TI id (T.ev now silent)/\(T.ev now silent).most=T.most:=by
 have key:∀r,TI id ⟨T.most,evE T.E (evP now silent) r,T.lives⟩:=λr=>by
  induction r with
  | zero=>exact h
  | succ r ih=>
   unfold evE;split
   .exact ih.dels _
   .exact ih
 exact⟨key _,rfl⟩
theorem TI.ent(h:TI id T)(hi:i<T.E.length):EP id (entT T.E i)/\dGet T.E (entT T.E i).node=some (entT T.E i):=by
 obtain⟨k,e,_,he,e1⟩:=qys hi;rw[e1,h.E.key k e he];exact⟨h.P k e he,he⟩
theorem TI.tin(h:TI id T):TIn T:=λi hi=>(h.ent hi).1.n
structure FI(F:Flr):Prop where
 yes:F.valid=true->F.e.may/\F.e.tr<=F.most
 no:F.valid=false->F.e=El.o
variable{F:Flr}
theorem FI.set(h:FI F)(e:El):FI (F.set e)/\(F.set e).most=F.most:=by
 unfold Flr.set;split
 .rename_i h1;exact⟨⟨λ_=>h1,λh=>by cases h⟩,rfl⟩
 .exact⟨h,rfl⟩
theorem FI.took(h:FI F){r:El×Int}(hv:F.valid=true)(hr:r.2=0->r.1.may/\r.1.tr<=F.e.tr):FI (F.took r)/\(F.took r).most=F.most:=by
 unfold Flr.took;split
 .rename_i h0;have:=hr h0;have h2:=h.yes hv;exact⟨⟨λ_=>⟨this.1,by show r.1.tr<=F.most;omega⟩,λhn=>by rw[show F.valid=false from hn] at hv;cases hv⟩,rfl⟩
 .split
  .exact⟨⟨(λh=>by cases h),λ_=>rfl⟩,rfl⟩
  .exact⟨h,rfl⟩
variable{e:El}
theorem qvl{of:Int->El×Int}{more:List El}(h:(qbq e of more).2=0):(qbq e of more).1.tr<=e.tr:=by
 rcases qh8 (λ_=>True) xb (λ_ _ _=>trivial) (λ_ _=>trivial) (show qbq e of more=((qbq e of more).1,(qbq e of more).2) from rfl) with ⟨_,_,h1⟩|⟨h1,_⟩
 .exact h1
 .omega
theorem q1j{f:El}(h:(je7 e f).2=0):(je7 e f).1.tr<=e.tr:=by
 unfold je7 at h ⊢;split at h
 .rename_i h1;rw[if_pos h1];exact qvl h
 .exact Q4E
theorem jeb{s:Strip}(h:(jgk e s).2=0):(jgk e s).1.tr<=e.tr:=by
 unfold jgk at h ⊢;split at h
 .rename_i h1;rw[if_pos h1];exact qvl h
 .exact Q4E
theorem jaf(e n:El)(hi:Int)(h:(nearF e n hi).2≠3):(nearF e n hi).1.tr<=e.tr:=by
 unfold nearF at h ⊢;repeat' split
 .rename_i h1 h2;rw[if_pos h1,if_pos h2] at h;exact absurd rfl h
 .rename_i h2;exact q1j h2
 .exact xY _
 .exact xY _
theorem q48(e n:El)(lo hi:Int)(h:(qcb e n lo hi).2≠3):(qcb e n lo hi).1.tr<=e.tr:=by
 unfold qcb at h ⊢;repeat' split
 .rename_i h1;rw[if_pos h1] at h;exact absurd rfl h
 .rename_i h1 h2 h3;rw[if_neg h1,if_pos h2,if_pos h3] at h;exact absurd rfl h
 .rename_i h3;exact jeb h3
 .exact xY _
 .exact xY _
theorem q1k{n:El}{lo hi:Int}(h:(qbp e n lo hi).2=0):(qbp e n lo hi).1.tr<=e.tr:=by
 unfold qbp at h ⊢;split at h
 .rename_i h1;rw[if_pos h1];split at h
  .exact absurd h (by show ¬ (3:Int)=0;decide)
  .rename_i h2;rw[if_neg h2];have h3:=jaf e n hi h2;have h4:=q48 (nearF e n hi).1 n lo hi Q9R;omega
 .exact Q4E
theorem FI.range(h:FI F)(n:El)(lo hi:Int):FI (F.range n lo hi)/\(F.range n lo hi).most=F.most:=by
 unfold Flr.range;split
 .rename_i hv;exact h.took hv λh0=>⟨qwp _ _ _ _ (h.yes hv).1 h0,q1k h0⟩
 .split
  .exact h.set _
  .exact⟨h,rfl⟩
theorem FI.meet(h:FI F)(he:e.may):FI (F.meet e)/\(F.meet e).most=F.most:=by
 unfold Flr.meet;split
 .rename_i hv;refine h.took hv λh0=>⟨?_,q1j h0⟩
  rcases qg0 (h.yes hv).1 he with h1|h1
  .exact h1.2
  .rw[h1] at h0;exact absurd h0 (by show ¬ (3:Int)=0;decide)
 .exact h.set _
theorem FI.measured(h:FI F)(T:Tbl)(k ra db da rb stamp now:Int):FI (qcx D F T k ra db da rb stamp now)/\(qcx D F T k ra db da rb stamp now).most=F.most:=by
 unfold qcx;split
 .exact h.range _ _ _
 .exact⟨h,rfl⟩
structure HI(h:Half):Prop where
 one:h.st=1->jfm h.fr
 two:h.st=2->jfm h.fr/\jfm h.to/\h.fr<=h.to
theorem HI.o:HI Half.o:=⟨λh=>Qaa,λh=>Qaa⟩
theorem HI.beg(t m p:Int):HI (jk9 t m p):=by
 unfold jk9;split
 .rename_i h;exact⟨λ_=>h,λh=>Qaa⟩
 .exact HI.o
theorem HI.ans{h:Half}(ok:HI h)(t:Int):HI (h.ans t):=by
 unfold Half.ans;split
 .rename_i h1;exact⟨λh=>Qaa,λ_=>⟨ok.one h1.1,h1.2.1,h1.2.2⟩⟩
 .exact ok
def SI(S:Nat->Ses):Prop:=∀m,HI (S m).a
theorem SI.upd{S:Nat->Ses}(h:SI S)(m:Nat){x:Ses}(hx:HI x.a):SI (upd S m x):=λk=>by
 unfold Sx.upd;split
 .exact hx
 .exact h k
structure NI(s:NSt):Prop where
 C2:0<=s.C 2/\s.C 2<=1000
 C7:1<=s.C 7/\s.C 7<=10000
 id:0<=s.id/\s.id<64
 boot:0<=s.boot/\s.boot<=65535
 seq:0<=s.seq
 bn:0<s.bn/\s.bn<=100
 bl:0<=s.bl/\s.bl<=s.bn
 te:1<=s.te/\s.te<=1000
 bad:0<=s.bad/\s.bad<=1000000
 F:FI s.fi
 T:TI s.id s.T
 S:SI s.S
theorem NI.hearOK{s:NSt}(h:NI s)(hs:s.seq<65535):NdH s:=
 ⟨h.C2,⟨h.bl.1,by have:=h.bl;have:=h.bn;omega⟩,⟨h.seq,hs⟩,h.boot,h.bad,λhv=>(h.F.yes hv).1,h.T.ok⟩
theorem NI.tickOK{s:NSt}(h:NI s)(hs:s.seq<65530):NdT s:=
 ⟨⟨h.seq,hs⟩,h.boot,⟨h.bn.1,by have:=h.bn;omega⟩,⟨by have:=h.te;omega,by have:=h.te;omega⟩,⟨by have:=h.C7;omega,by have:=h.C7;omega⟩,by have:=h.T.ok.len;have:=h.T.ok.most;omega⟩
structure OI(n:NSt)(q:Int)(now fine:Int)(x:Ou):Prop where
 may:x.f.may
 s:x.f.s=n.id
 b:x.f.b=n.boot
 q:x.f.q=q
 st:x.f.st=now
 t:x.t=fine
theorem jik:Frm.bare Frm.o:=⟨rfl,rfl,rfl,rfl,rfl,rfl,rfl,rfl,rfl,rfl⟩
variable{b:Int}
theorem jec{s q st:Int}(h:(0<=s/\s<64)/\(0<=b/\b<=65535)/\(0<=q/\q<=65535)/\(0<=st/\st<=1000000)):Frm.may ⟨1,s,b,q,st,0,0,0,0,0,0,0,0,0,0⟩:=⟨xb,h,jik⟩
theorem jed{s q st x y a c d:Int}(h:(0<=s/\s<64)/\(0<=b/\b<=65535)/\(0<=q/\q<=65535)/\(0<=st/\st<=1000000))(he:mayP x y a c d):Frm.may ⟨5,s,b,q,st,0,0,0,0,0,x,y,a,c,d⟩:=⟨he,h,jik⟩
theorem jee{s q st wh wn x y a c d:Int}(h:(0<=s/\s<64)/\(0<=b/\b<=65535)/\(0<=q/\q<=65535)/\(0<=st/\st<=1000000))(hw:0<=wh/\wh<64)(hn:¬ wh=s)(ht:0<=wn/\wn<=st)(he:mayP x y a c d):Frm.may ⟨6,s,b,q,st,0,0,0,wh,wn,x,y,a,c,d⟩:=⟨⟨hw,hn,ht,he⟩,h,jik⟩
theorem jef{s q st ds:Int}(h:(0<=s/\s<64)/\(0<=b/\b<=65535)/\(0<=q/\q<=65535)/\(0<=st/\st<=1000000))(hw:0<=ds/\ds<64)(hn:¬ ds=s):Frm.may ⟨2,s,b,q,st,ds,0,0,0,0,0,0,0,0,0⟩:=⟨⟨hw,hn⟩,h,jik⟩
theorem jeg{s q st ds t1:Int}(h:(0<=s/\s<64)/\(0<=b/\b<=65535)/\(0<=q/\q<=65535)/\(0<=st/\st<=1000000))(hw:0<=ds/\ds<64)(hn:¬ ds=s)(ht:0<=t1/\t1<=4294967295):Frm.may ⟨3,s,b,q,st,ds,t1,0,0,0,0,0,0,0,0⟩:=⟨⟨hw,hn,ht⟩,h,jik⟩
theorem jeh{s q st ds t1 t2 wn:Int}(h:(0<=s/\s<64)/\(0<=b/\b<=65535)/\(0<=q/\q<=65535)/\(0<=st/\st<=1000000))(hw:0<=ds/\ds<64)(hn:¬ ds=s)(h1:0<=t1/\t1<=70368744177664)(h2:0<=t2/\t2<=70368744177664)(h3:0<=wn/\wn<=4294967295):Frm.may ⟨4,s,b,q,st,ds,t1,t2,0,wn,0,0,0,0,0⟩:=⟨⟨hw,hn,h1,h2,h3⟩,h,jik⟩
theorem qvm{f:Frm}(h:f.may):f.head:=h.2.1
theorem jm0{f:Frm}(h:f.may):0<=f.mk'/\f.mk'<=4294967295:=by
 obtain⟨h1,h2,h3,h4⟩:=qvm h;unfold Frm.mk';omega
structure RI(D:NdS)(l:Int)(F:Flr)(T:Tbl)(now fine:Int)(r:HrS):Prop where
 S:SI r.S
 F:FI r.F/\r.F.most=F.most
 T:r.T=T
 o:(r.o=none/\r.seq=D.seq/\r.l=l)\/∃x,r.o=some x/\0<l/\r.seq=D.seq+1/\r.l=l-1/\x.t=fine/\x.f.may/\x.f.s=D.id/\x.f.b=D.boot/\x.f.q=D.seq/\x.f.st=now
variable{l fine:Int}
theorem jag{f:Frm}{at_:Int}(hS:SI D.S)(hF:FI F)(hl:0<=l)(hf:f.may)(hd:(0<=D.id/\D.id<64)/\(0<=D.boot/\D.boot<=65535)/\(0<=D.seq/\D.seq<=65535)/\(0<=now/\now<=1000000))(hn:¬ f.s=D.id):RI D l F T now fine (jii D l F T m f at_ now fine):=by
 unfold jii;have h1:SI (upd D.S m ((D.S m).gotPoll at_ f.st)):=hS.upd m (hS m);split
 .exact⟨h1,⟨hF,rfl⟩,rfl,.inl ⟨rfl,rfl,rfl⟩⟩
 .refine⟨h1.upd m ?_,⟨hF,rfl⟩,rfl,.inr ⟨_,rfl,by omega,rfl,rfl,rfl,jeg hd (qvm hf).1 hn (jm0 hf),rfl,rfl,rfl,rfl⟩⟩;unfold Ses.resp;split
  .exact h1 m
  .exact h1 m
theorem jah{s:Ses}(h:HI s.a)(t:Int):HI (s.final t).a:=by
 unfold Ses.final;split
 .exact HI.o
 .exact h
theorem q1l{s:Ses}(h:HI s.a)(t m:Int):HI (s.gotResp t m).a:=by
 unfold Ses.gotResp;split
 .exact h.ans t
 .exact h
theorem qro{a:Int}(ha:jfm a)(hb:jfm b)(h:b<=a):0<=IntKind.i64.wrap (a-b)/\IntKind.i64.wrap (a-b)<=70368744177664:=by
 unfold jfm at *;rw[je5 _ Q9R Q9R];omega
theorem upd_at{α:Type}(S:Nat->α)(m:Nat)(x:α):upd S m x m=x:=if_pos rfl
theorem jai{f:Frm}{at_:Int}(hS:SI D.S)(hF:FI F)(hl:0<=l)(hf:f.may)(hd:(0<=D.id/\D.id<64)/\(0<=D.boot/\D.boot<=65535)/\(0<=D.seq/\D.seq<=65535)/\(0<=now/\now<=1000000))(hn:¬ f.s=D.id):RI D l F T now fine (jhy D l F T m f at_ now fine):=by
 unfold jhy;have h1:SI (upd D.S m ((D.S m).gotResp at_ f.t1)):=hS.upd m (q1l (hS m) _ _);have h2:=h1 m;split
 .split
  .rename_i he;have h3:SI (upd (upd D.S m ((D.S m).gotResp at_ f.t1)) m ((upd D.S m ((D.S m).gotResp at_ f.t1) m).final fine)):=h1.upd m (jah h2 _);obtain⟨e1,e2,e3⟩:=he;obtain⟨t1,t2,t3⟩:=h2.two e1;split
   .exact⟨h3,⟨hF,rfl⟩,rfl,.inl ⟨rfl,rfl,rfl⟩⟩
   .exact⟨h3,⟨hF,rfl⟩,rfl,.inr ⟨_,rfl,by omega,rfl,rfl,rfl,jeh hd (qvm hf).1 hn (qro t2 t1 t3) (qro e2 t2 e3) (jm0 hf),rfl,rfl,rfl,rfl⟩⟩
  .exact⟨h1.upd m h2,⟨hF,rfl⟩,rfl,.inl ⟨rfl,rfl,rfl⟩⟩
 .exact⟨hS.upd m (hS m),⟨hF,rfl⟩,rfl,.inl ⟨rfl,rfl,rfl⟩⟩
theorem q49{f:Frm}{at_:Int}(hS:SI D.S)(hF:FI F):RI D l F T now fine (qrm D l F T m f at_ now):=by
 unfold qrm;split
 .refine⟨hS.upd m ?_,hF.measured _ _ _ _ _ _ _ _,rfl,.inl ⟨rfl,rfl,rfl⟩⟩;unfold Ses.gotFinal;split
  .exact hS m
  .exact hS m
 .exact⟨hS.upd m (hS m),⟨hF,rfl⟩,rfl,.inl ⟨rfl,rfl,rfl⟩⟩
structure KI(D:NdS)(l:Int)(F:Flr)(T:Tbl)(now fine:Int)(r:HrS):Prop where
 S:SI r.S
 F:FI r.F/\r.F.most=F.most
 T:TI D.id r.T/\r.T.most=T.most
 o:(r.o=none/\r.seq=D.seq/\r.l=l)\/∃x,r.o=some x/\0<l/\r.seq=D.seq+1/\r.l=l-1/\x.t=fine/\x.f.may/\x.f.s=D.id/\x.f.b=D.boot/\x.f.q=D.seq/\x.f.st=now
theorem jaj{f:Frm}{at_:Int}(hS:SI D.S)(hF:FI F)(hT:TI D.id T)(hl:0<=l)(hf:f.may)(hd:(0<=D.id/\D.id<64)/\(0<=D.boot/\D.boot<=65535)/\(0<=D.seq/\D.seq<=65535)/\(0<=now/\now<=1000000))(hn:¬ f.s=D.id):KI D l F T now fine (jgo D l F T m f at_ now fine):=by
 have no:∀F' T',(FI F'/\F'.most=F.most)->(TI D.id T'/\T'.most=T.most)->KI D l F T now fine (D.no l F' T'):=λF' T' h1 h2=>⟨hS,h1,h2,.inl ⟨rfl,rfl,rfl⟩⟩
 have ri:∀r,RI D l F T now fine r->KI D l F T now fine r:=λr h=>⟨h.S,h.F,by rw[h.T];exact⟨hT,rfl⟩,h.o⟩
 unfold jgo;split
 .exact no _ _ ⟨hF,rfl⟩ (hT.putE _ _ _ _ _)
 split
 .refine no _ _ ?_ ?_
  .unfold qb6;split
   .show FI (if _ then _ else _)/\Flr.most (if _ then _ else _)=_;split
    .rename_i h0;exact hF.meet (qrf h0).2
    .exact⟨hF,rfl⟩
   .exact⟨hF,rfl⟩
  .unfold qb6;split
   .exact⟨hT,rfl⟩
   .show TI D.id (match dGet T.E f.wh with|some _=>_|none=>_)/\Tbl.most (match dGet T.E f.wh with|some _=>_|none=>_)=_;split
    .exact hT.putE _ _ _ _ _
    .exact⟨hT,rfl⟩
 split
 .split
  .unfold qbv;split
   .exact ri _ (jag hS hF hl hf hd hn)
   split
   .exact ri _ (jai hS hF hl hf hd hn)
   .exact ri _ (q49 hS hF)
  .exact no _ _ ⟨hF,rfl⟩ ⟨hT,rfl⟩
 split
 .exact no _ _ ⟨hF,rfl⟩ (hT.leave _)
 .exact no _ _ ⟨hF,rfl⟩ ⟨hT,rfl⟩
structure Same(s s':NSt):Prop where
 C:s'.C=s.C
 id:s'.id=s.id
 boot:s'.boot=s.boot
 told:s'.told=s.told
 fm:s'.fm=s.fm
 bn:s'.bn=s.bn
 te:s'.te=s.te
 tm:s'.T.most=s.T.most
theorem Same.refl(s:NSt):Same s s:=⟨rfl,rfl,rfl,rfl,rfl,rfl,rfl,rfl⟩
theorem jak{s:NSt}(h:NI s)(hs:s.seq<65535)(bs:List Int)(at_ now fine:Int):NI (hearP s bs at_ now fine).s/\Same s (hearP s bs at_ now fine).s/\(((hearP s bs at_ now fine).o=none/\(hearP s bs at_ now fine).s.seq=s.seq/\(hearP s bs at_ now fine).s.bl=s.bl)\/∃x,(hearP s bs at_ now fine).o=some x/\(hearP s bs at_ now fine).e=0/\0<s.bl/\(hearP s bs at_ now fine).s.seq=s.seq+1/\(hearP s bs at_ now fine).s.bl=s.bl-1/\OI s s.seq now fine x):=by
 have id0:∀e,NI (HeardS.mk s none e).s/\Same s (HeardS.mk s none e).s/\(((HeardS.mk s none e).o=none/\(HeardS.mk s none e).s.seq=s.seq/\(HeardS.mk s none e).s.bl=s.bl)\/∃x,(HeardS.mk s none e).o=some x/\(HeardS.mk s none e).e=0/\0<s.bl/\(HeardS.mk s none e).s.seq=s.seq+1/\(HeardS.mk s none e).s.bl=s.bl-1/\OI s s.seq now fine x):=λe=>⟨h,Same.refl s,.inl ⟨rfl,rfl,rfl⟩⟩
 unfold hearP;split
 .exact id0 _
 rename_i ht;split
 .exact⟨⟨h.C2,h.C7,h.id,h.boot,h.seq,h.bn,h.bl,h.te,⟨by show 0<=min _ _;have:=h.bad;omega,by show min _ _<=_;omega⟩,h.F,h.T,h.S⟩,⟨rfl,rfl,rfl,rfl,rfl,rfl,rfl,rfl⟩,.inl ⟨rfl,rfl,rfl⟩⟩
 rename_i hd;split
 .exact id0 _
 rename_i ho;split
 .exact id0 _
 have hm:=qs4 (show(decF bs).2=0 by omega);obtain⟨g1,g2,g3,g4⟩:=qvm hm;have hT:=h.T.hear (decF bs).1.b (decF bs).1.q now g1 ho;split
 .exact⟨⟨h.C2,h.C7,h.id,h.boot,h.seq,h.bn,h.bl,h.te,h.bad,h.F,hT.1,h.S⟩,⟨rfl,rfl,rfl,rfl,rfl,rfl,rfl,hT.2⟩,.inl ⟨rfl,rfl,rfl⟩⟩
 have k:=jaj (D:=s.nd λ_=>(0,0)) (l:=s.bl) (F:=s.fi) (m:=(decF bs).1.s.toNat) (at_:=at_) (now:=now) (fine:=fine) h.S h.F hT.1 h.bl.1 hm ⟨h.id,h.boot,⟨h.seq,by show s.seq<=_;omega⟩,by omega⟩ ho;change KI _ _ _ _ _ _ (s.tk (hearT s.T (decF bs).1.s (decF bs).1.b (decF bs).1.q now).2 (decF bs).1 at_ now fine) at k;generalize s.tk (hearT s.T (decF bs).1.s (decF bs).1.b (decF bs).1.q now).2 (decF bs).1 at_ now fine=r at k ⊢;obtain⟨kS,kF,kT,ko⟩:=k;refine⟨⟨h.C2,h.C7,h.id,h.boot,?_,h.bn,?_,h.te,h.bad,kF.1,kT.1,kS⟩,⟨rfl,rfl,rfl,rfl,kF.2,rfl,rfl,kT.2.trans hT.2⟩,?_⟩
 .show 0<=r.seq;rcases ko with ⟨_,h1,_⟩|⟨x,_,_,h1,_⟩
  .rw[h1];exact h.seq
  .rw[h1];have:=h.seq;show 0<=s.seq+1;omega
 .show 0<=r.l/\r.l<=s.bn;have:=h.bl;rcases ko with ⟨_,_,h1⟩|⟨x,_,h0,_,h1,_⟩<;>omega
 .rcases ko with ⟨h1,h2,h3⟩|⟨x,h1,h2,h3,h4,h5,h6,h7,h8,h9,h10⟩
  .exact .inl ⟨h1,h2,h3⟩
  .exact .inr ⟨x,h1,rfl,h2,h3,h4,⟨h6,h7,h8,h9,h10,h5⟩⟩
theorem qs5{E:Ez}{p:Ent->Bool}{x:Int}:∀{r:Nat},x∈evL E p r->∃i,i<r/\p (entT E i)=true/\x=(entT E i).node
 | 0,h=>by cases h
 | r+1,h=>by
  unfold evL at h;split at h
  .rename_i hp;rcases yM.1 h with h1|h1
   .obtain⟨i,h2,h3,h4⟩:=qs5 h1;exact⟨i,by omega,h3,h4⟩
   .exact⟨r,by omega,hp,by simpa using h1⟩
  .obtain⟨i,h2,h3,h4⟩:=qs5 h;exact⟨i,by omega,h3,h4⟩
theorem jal(hT:TI D.id T)(hl:0<=l)(hd:(0<=D.id/\D.id<64)/\(0<=D.boot/\D.boot<=65535)/\(0<=D.seq/\D.seq<=65535)/\(0<=now/\now<=1000000)):(tellP D l T now fine).D.S=D.S/\(((tellP D l T now fine).o=none/\(tellP D l T now fine).D.seq=D.seq/\(tellP D l T now fine).l=l)\/∃x,(tellP D l T now fine).o=some x/\0<l/\(tellP D l T now fine).D.seq=D.seq+1/\(tellP D l T now fine).l=l-1/\x.t=fine/\x.f.may/\x.f.s=D.id/\x.f.b=D.boot/\x.f.q=D.seq/\x.f.st=now):=by
 unfold tellP;split
 .exact Q56
 split
 .exact Q56
 split
 .exact Q56
 split
 .exact Q56
 rename_i h1 h2 h3 h4;refine⟨rfl,.inr ⟨_,rfl,by omega,rfl,rfl,rfl,?_,rfl,rfl,rfl,rfl⟩⟩;have hne:jj5 T.E (·.has)≠[]:=λe=>by
  apply h2;unfold je3;rw[e];rfl
 obtain⟨i,hi,hp,e⟩:=qs5 (qo0 (a:=D.told) hne).2;obtain⟨p1,p2⟩:=hT.ent hi;change (je3 D T).1=_ at e;rw[<-e] at p2;have eg:T.get (je3 D T).1=entT T.E i:=by unfold Tbl.get;rw[p2];rfl
 have hy:=p1.yes hp;have hw:(T.get (je3 D T).1).when_<=now:=Classical.not_not.1 λhh=>h3 (.inr hh)
 rw[eg] at hw;have hb:=p1.n;rw[<-e] at hb;show Frm.may ⟨6,D.id,D.boot,D.seq,now,0,0,0,(je3 D T).1,(T.get (je3 D T).1).when_,(T.get (je3 D T).1).x,(T.get (je3 D T).1).y,(T.get (je3 D T).1).a,(T.get (je3 D T).1).b,(T.get (je3 D T).1).d⟩;rw[eg];exact jee hd hb (λhh=>h3 (.inl hh)) ⟨hy.2.1,hw⟩ hy.1
theorem jei(hT:TI D.id T)(hS:SI D.S)(hl:0<=l)(hd:(0<=D.id/\D.id<64)/\(0<=D.boot/\D.boot<=65535)/\(0<=D.seq/\D.seq<=65535)/\(0<=now/\now<=1000000)):SI (askP D l T now fine).D.S/\(((askP D l T now fine).o=none/\(askP D l T now fine).D.seq=D.seq/\(askP D l T now fine).l=l)\/∃x,(askP D l T now fine).o=some x/\0<l/\(askP D l T now fine).D.seq=D.seq+1/\(askP D l T now fine).l=l-1/\x.t=fine/\x.f.may/\x.f.s=D.id/\x.f.b=D.boot/\x.f.q=D.seq/\x.f.st=now):=by
 unfold askP;split
 .exact⟨hS,.inl ⟨rfl,rfl,rfl⟩⟩
 split
 .exact⟨hS,.inl ⟨rfl,rfl,rfl⟩⟩
 rename_i h1 h2;refine⟨hS.upd _ ?_,.inr ⟨_,rfl,by omega,rfl,rfl,rfl,?_,rfl,rfl,rfl,rfl⟩⟩
 .exact HI.beg _ _ _
 have h0:0<T.E.length:=List.length_pos_iff.2 h1;have hne:jj5 T.E (λ_=>true)≠[]:=λe=>Q4w
 obtain⟨i,hi,e⟩:=qvh (qo0 (a:=D.asked) hne).2;obtain⟨p1,p2⟩:=hT.ent hi;change jfg D T=_ at e;have hb:=p1.n;have hi':=p1.ne;rw[<-e] at hb hi';exact jef hd hb hi'
def OL(s:NSt)(now fine:Int):Int->List Ou->Prop
 | _,[]=>True
 | q,x::l=>OI s q now fine x/\OL s now fine (q+1) l
theorem jam{s:NSt}(h:NI s)(hs:s.seq<65530)(now fine:Int)(ht:qbl now):NI (jfu s now fine).1/\(jfu s now fine).1.C=s.C/\(jfu s now fine).1.id=s.id/\(jfu s now fine).1.boot=s.boot/\(jfu s now fine).1.fi=s.fi/\(jfu s now fine).1.bn=s.bn/\(jfu s now fine).1.te=s.te/\(jfu s now fine).1.T=s.T.ev now (s.C 7)/\OL s now fine s.seq (jfu s now fine).2/\(jfu s now fine).1.seq=s.seq+(jfu s now fine).2.length/\(jfu s now fine).1.bl+(jfu s now fine).2.length=s.bn/\(jfu s now fine).2.length<=3:=by
 have hT:=(h.T.ev now (s.C 7)).1;unfold jfu;split
 .exact⟨⟨h.C2,h.C7,h.id,h.boot,h.seq,h.bn,⟨by have:=h.bn;show 0<=s.bn;omega,xY _⟩,h.te,h.bad,h.F,hT,h.S⟩,rfl,rfl,rfl,rfl,rfl,rfl,rfl,xb,by show s.seq=s.seq+((0:Nat):Int);omega,by show s.bn+((0:Nat):Int)=_;omega,xi _⟩
 have hb:=h.bn;have hq:=h.seq;have hest:∀g,OI s s.seq now fine ⟨(estF s).by (s.nd g) now,fine⟩:=λg=>by
  refine⟨?_,?_,?_,?_,?_,rfl⟩
  .unfold estF;split
   .rename_i hv;exact jed ⟨h.id,h.boot,⟨hq,by show s.seq<=_;omega⟩,ht⟩ (h.F.yes hv).1
   .exact jec ⟨h.id,h.boot,⟨hq,by show s.seq<=_;omega⟩,ht⟩
  all_goals rfl
 obtain⟨tS,t0⟩:=jal (D:=(s.nd λ_=>(0,0)).up) (l:=s.bn-1) (fine:=fine) (now:=now) hT Q9R ⟨h.id,h.boot,⟨by show 0<=s.seq+1;omega,by show s.seq+1<=_;omega⟩,ht⟩;obtain⟨k1,k2,k3,k4,k5,_⟩:=qjw (s.nd λ_=>(0,0)).up (s.bn-1) (s.T.ev now (s.C 7)) now fine;change (s.tl (λ_=>(0,0)) now fine).D.S=s.S at tS;change (s.tl (λ_=>(0,0)) now fine).D.C=s.C at k1;change (s.tl (λ_=>(0,0)) now fine).D.id=s.id at k2;change (s.tl (λ_=>(0,0)) now fine).D.boot=s.boot at k3;change ((s.tl (λ_=>(0,0)) now fine).o=none/\(s.tl (λ_=>(0,0)) now fine).D.seq=s.seq+1/\(s.tl (λ_=>(0,0)) now fine).l=s.bn-1)\/∃x,(s.tl (λ_=>(0,0)) now fine).o=some x/\0<s.bn-1/\(s.tl (λ_=>(0,0)) now fine).D.seq=s.seq+1+1/\(s.tl (λ_=>(0,0)) now fine).l=s.bn-1-1/\x.t=fine/\x.f.may/\x.f.s=s.id/\x.f.b=s.boot/\x.f.q=s.seq+1/\x.f.st=now at t0
 have a0:=jei (D:=(s.tl (λ_=>(0,0)) now fine).D) (l:=(s.tl (λ_=>(0,0)) now fine).l) (fine:=fine) (now:=now) (T:=s.T.ev now (s.C 7)) (by rw[k2];exact hT) (by rw[tS];exact h.S) (by rcases t0 with ⟨_,_,e⟩|⟨_,_,_,_,e,_⟩<;>omega) ⟨by rw[k2];exact h.id,by rw[k3];exact h.boot,by rcases t0 with ⟨_,e,_⟩|⟨_,_,_,e,_⟩<;>omega,ht⟩
 change SI (s.ask (λ_=>(0,0)) now fine).D.S/\(((s.ask (λ_=>(0,0)) now fine).o=none/\(s.ask (λ_=>(0,0)) now fine).D.seq=(s.tl (λ_=>(0,0)) now fine).D.seq/\(s.ask (λ_=>(0,0)) now fine).l=(s.tl (λ_=>(0,0)) now fine).l)\/∃x,(s.ask (λ_=>(0,0)) now fine).o=some x/\0<(s.tl (λ_=>(0,0)) now fine).l/\(s.ask (λ_=>(0,0)) now fine).D.seq=(s.tl (λ_=>(0,0)) now fine).D.seq+1/\(s.ask (λ_=>(0,0)) now fine).l=(s.tl (λ_=>(0,0)) now fine).l-1/\x.t=fine/\x.f.may/\x.f.s=(s.tl (λ_=>(0,0)) now fine).D.id/\x.f.b=(s.tl (λ_=>(0,0)) now fine).D.boot/\x.f.q=(s.tl (λ_=>(0,0)) now fine).D.seq/\x.f.st=now) at a0;rw[k2,k3] at a0;obtain⟨aS,a0⟩:=a0;have e0:jfr s (λ_=>(0,0)) now fine=([⟨(estF s).by (s.nd λ_=>(0,0)) now,fine⟩]++(s.tl (λ_=>(0,0)) now fine).o.toList)++(s.ask (λ_=>(0,0)) now fine).o.toList:=rfl
 have hN:0<=(s.ask (λ_=>(0,0)) now fine).D.seq/\0<=(s.ask (λ_=>(0,0)) now fine).l/\(s.ask (λ_=>(0,0)) now fine).l<=s.bn:=by
  rcases t0 with ⟨_,f1,f2⟩|⟨x,_,f3,f1,f2,_⟩<;>rcases a0 with ⟨_,g1,g2⟩|⟨y,_,g3,g1,g2,_⟩<;>omega
 refine⟨⟨h.C2,h.C7,h.id,h.boot,hN.1,h.bn,hN.2,h.te,h.bad,h.F,hT,aS⟩,rfl,rfl,rfl,rfl,rfl,rfl,rfl,?_⟩;show OL s now fine s.seq (jfr s (λ_=>(0,0)) now fine)/\(s.ask (λ_=>(0,0)) now fine).D.seq=s.seq+(jfr s (λ_=>(0,0)) now fine).length/\(s.ask (λ_=>(0,0)) now fine).l+(jfr s (λ_=>(0,0)) now fine).length=s.bn/\(jfr s (λ_=>(0,0)) now fine).length<=3;rw[e0];rcases t0 with ⟨f0,f1,f2⟩|⟨x,f0,f3,f1,f2,f4,f5,f6,f7,f8,f9⟩<;>rcases a0 with ⟨g0,g1,g2⟩|⟨y,g0,g3,g1,g2,g4,g5,g6,g7,g8,g9⟩<;>rw[f0,g0]
 .refine⟨⟨hest _,xb⟩,?_,?_,?_⟩<;>simp<;>omega
 .refine⟨⟨hest _,⟨g5,g6,g7,by omega,g9,g4⟩,xb⟩,?_,?_,?_⟩<;>simp<;>omega
 .refine⟨⟨hest _,⟨f5,f6,f7,f8,f9,f4⟩,xb⟩,?_,?_,?_⟩<;>simp<;>omega
 .refine⟨⟨hest _,⟨f5,f6,f7,f8,f9,f4⟩,⟨g5,g6,g7,by omega,g9,g4⟩,xb⟩,?_,?_,?_⟩<;>simp<;>omega
theorem qs6{H:Type}{enc:TypeId×Value->H}{fuel:Nat}{v:Value}{x:DataW H×List MemPlace}(hf:DataW.trod enc prog W 0 (λ_=>true) true fuel 37 [v]=some x):∃u bs,v=uR u/\Src W [] u bs:=by
 rcases Deep.open_slice underlying37 hf with ⟨hcs,hx⟩|⟨a,len,cap,m,n,D,Pl,hcs,hb,hl,hm,hmm,hx,hi⟩
 .obtain rfl:v=.slice none 0 0:=by simpa using hcs
  exact⟨none,[],rfl,.nil⟩
 .obtain rfl:v=.slice (some a) len cap:=by simpa using hcs
  have hmc:m=cap:=by simpa using hmm
  subst hmc;have hC:prog.cellsOf 5=1:=by kernel_rfl
  rw[hC] at hi;have key:∀i,i<len->∃z,W.cell? (a.add i)=some (.int .u8 z):=λi hil=>by
   obtain⟨cs',hc,ht'⟩:=hi i Q9R;obtain⟨_,hcl,hat⟩:=World.cells?_some hc;obtain⟨z,hz,_,_⟩:=DataW.trod_int underlying5 ht';have:=hat 0 Q9R;rw[hz,x9] at this;have e:(a.add i).add 0=a.add i:=by simp[Addr.add]
   rw[e] at this;exact⟨z,by simpa using this⟩
  obtain⟨b,o,sp⟩:=a;have hsp:sp=none\/len=0:=by
   cases sp with
   | none=>exact .inl rfl
   | some t=>
    rcases xU len with h0|h0
    .exact .inr h0
    .obtain⟨z,hz⟩:=key 0 h0;simp[Addr.add,World.cell?] at hz;split at hz<;>simp at hz
  refine⟨some ⟨b,o,len,m,sp⟩,(List.range len).map (λj=>intOf ((W.cell? ⟨b,o+j,none⟩).getD undef)),rfl,.old Qa2 hsp λj hj=>?_⟩;have hj:j<len:=by simpa using hj
  rcases hsp with rfl|h0
  .obtain⟨z,hz⟩:=key j hj;rw[qdn] at hz;have hz:W.cell? ⟨b,o+j,none⟩=some (.int .u8 z):=hz;show W.cell? ⟨b,o+j,none⟩=_;rw[hz];simp[xD,hj,hz,intOf]
  .omega
section
variable{o:Oper}{st:St}
end
open Go Go.RowKit Sx
structure Cl where
 kd:Int
 now:Int
 fine:Int
 at_:Int
 ux:Int
 uy:Int
 k:Int
 s:Int
 b:Int
 q:Int
 st:Int
 ds:Int
 t1:Int
 t2:Int
 wh:Int
 wn:Int
 x:Int
 y:Int
 a:Int
 c:Int
 d:Int
 u:Option Sl
abbrev Cl.cs(c:Cl):List Value:=[xc c.kd,xc c.now,xc c.fine,xc c.at_,xc c.ux,xc c.uy,xc c.k,xc c.s,xc c.b,xc c.q,xc c.st,xc c.ds,xc c.t1,xc c.t2,xc c.wh,xc c.wn,xc c.x,xc c.y,xc c.a,xc c.c,xc c.d,uV c.u]
abbrev Cl.rs(c:Cl):List Value:=[xc c.kd,xc c.now,xc c.fine,xc c.at_,xc c.ux,xc c.uy,xc c.k,xc c.s,xc c.b,xc c.q,xc c.st,xc c.ds,xc c.t1,xc c.t2,xc c.wh,xc c.wn,xc c.x,xc c.y,xc c.a,xc c.c,xc c.d,uR c.u]
def Cl.f(c:Cl):Frm:=⟨c.k,c.s,c.b,c.q,c.st,c.ds,c.t1,c.t2,c.wh,c.wn,c.x,c.y,c.a,c.c,c.d⟩
def jp1(W:World)(b0 o0 n:Nat)(C:Nat->Cl)(Bs:Nat->List Int):Prop:=∀i,i<n->Src W [] (C i).u (Bs i)/\∀j v,(C i).rs[j]?=some v->W.cell? ⟨b0,o0+i*22+j,none⟩=some v
abbrev Cl.v(c:Cl):Value:=.agg ⟨c.cs⟩
theorem Cl.den(c:Cl)(ρ:Rz):den ρ (.agg ⟨c.cs⟩)=.agg ⟨c.rs⟩:=by
 show Value.agg ((⟨c.cs⟩:Array Value).map (den1 ρ))=_;have e:=q9h c.u ρ;simp only[yK,xp,x8];rw[e];rfl
theorem Cl.re(c:Cl):Re2 ix c.v c.v:=.agg ⟨.plain rfl,.plain rfl,.plain rfl,.plain rfl,.plain rfl,.plain rfl,.plain rfl,.plain rfl,.plain rfl,.plain rfl,.plain rfl,.plain rfl,.plain rfl,.plain rfl,.plain rfl,.plain rfl,.plain rfl,.plain rfl,.plain rfl,.plain rfl,.plain rfl,jdg c.u,xb⟩
theorem qd9{o:Oper}{st:St}{t:TypeId}{x:Operand}{b f sz:Nat}{F:List By}{cs ds:List Value}(ho:o.op=.load t x)(hx:EvTo x st (.pointer (some ⟨b,f,none⟩)))(hi:st.h[i]?=some (some (jfc W F)))
  (ht:je4 tys t λti d=>qd1 d=true/\ti.size=sz) (hd:∀ρ,den ρ (.agg ⟨cs⟩)=.agg ⟨ds⟩) (hl:ds.length=sz) (hk:∀j v,ds[j]?=some v->W.cell? ⟨b,f+j,none⟩=some v):OKs prog o st (.agg ⟨cs⟩) [] [i]:=λst₂ hs hh _=>
 qa0 λX ρ a w R=>by
  have hi2:st₂.h[i]?=some (some (jfc W F)):=(hh i Qa2).trans hi;have hx':=qov (hs x Q9Y _ hx) rfl R;obtain⟨ti,d,h1,h2,hd',rfl⟩:=qao tysOK ht;obtain⟨S,E⟩:=R.heap.ext;have hcells:∀j v,ds[j]?=some v->w.cell? ((⟨b,f,none⟩:Addr).add j)=some v:=λj v hv=>by
   rw[qdn];exact q0x (hk j v hv) _ _ _ (E.inv i _ hi2)
  refine⟨.agg ⟨ds⟩,?_,λr _=>hd r⟩;simp only[execOp,ho,hx',Instr.loadAt,Instr.sureAddr,loadVar,Sem.run_bind,Sem.run_pure,Result.andThen_ok,qdi h2,hd',if_true,Sx.run_sizeOf h1];rw[<-hl,run_loadCells_list _ _ _ hcells];rfl
theorem q1m{H:Type}{enc:TypeId×Value->H}{r:Reach}{base:Nat}{v:Value}{d:DataW H}{p:List MemPlace}(hv:Value.okWide prog W r base 28 v)(h:DataW.Trod enc prog W 0 (λ_=>true) true 28 v d p):
  v=.slice none 0 0\/∃(b o n cap:Nat)(C:Nat->Cl)(B:Nat->List Int),v=.slice (some ⟨b,o,none⟩) n cap/\n<=9223372036854775807/\b<W.heap.size/\∀i,i<n->Src W [] (C i).u (B i)/\∀j v,(C i).rs[j]?=some v->W.cell? ⟨b,o+i*22+j,none⟩=some v:=by
 have hsh:=qsa underlying28 hv
 obtain⟨A,n,cap,f,rfl,hl,hm,hd,hseg,hrow⟩:=qyj (C:=22) underlying28 Q9W h hsh
 cases A with
 | none=>
  obtain⟨rfl,rfl⟩:=qv2 underlying28 hv;exact .inl rfl
 | some a=>
  obtain⟨h1,h2,_⟩:=qld underlying28 hv;obtain⟨b,o,sp⟩:=a;have h1:sp=none:=h1;subst h1;have key:∀i,i<n->∃c:Cl,∃bs,Src W [] c.u bs/\∀j v,c.rs[j]?=some v->f (i*22+j)=v:=λi hi=>by
   obtain⟨x,fuel,cs,ht,hcl,hc⟩:=hrow i hi;have k0:=(qbe (d:=6) (t:=39) (l:=3) (j:=0) Q9W (@underlying3) (hc 0 Q9R) ht).1;have k1:=(qbe (d:=6) (t:=39) (l:=2) (j:=1) Q9W (@underlying2) (hc 1 Q9R) ht).1;have k2:=(qbe (d:=6) (t:=39) (l:=2) (j:=2) Q9W (@underlying2) (hc 2 Q9R) ht).1;have k3:=(qbe (d:=6) (t:=39) (l:=2) (j:=3) Q9W (@underlying2) (hc 3 Q9R) ht).1;have k4:=(qbe (d:=6) (t:=39) (l:=2) (j:=4) Q9W (@underlying2) (hc 4 Q9R) ht).1;have k5:=(qbe (d:=6) (t:=39) (l:=2) (j:=5) Q9W (@underlying2) (hc 5 Q9R) ht).1;have k6:=(qbe (d:=6) (t:=39) (l:=3) (j:=6) Q9W (@underlying3) (hc 6 Q9R) ht).1;have k7:=(qbe (d:=6) (t:=39) (l:=3) (j:=7) Q9W (@underlying3) (hc 7 Q9R) ht).1;have k8:=(qbe (d:=6) (t:=39) (l:=3) (j:=8) Q9W (@underlying3) (hc 8 Q9R) ht).1;have k9:=(qbe (d:=6) (t:=39) (l:=3) (j:=9) Q9W (@underlying3) (hc 9 Q9R) ht).1
   have k10:=(qbe (d:=6) (t:=39) (l:=2) (j:=10) Q9W (@underlying2) (hc 10 Q9R) ht).1;have k11:=(qbe (d:=6) (t:=39) (l:=3) (j:=11) Q9W (@underlying3) (hc 11 Q9R) ht).1;have k12:=(qbe (d:=6) (t:=39) (l:=2) (j:=12) Q9W (@underlying2) (hc 12 Q9R) ht).1;have k13:=(qbe (d:=6) (t:=39) (l:=2) (j:=13) Q9W (@underlying2) (hc 13 Q9R) ht).1;have k14:=(qbe (d:=6) (t:=39) (l:=3) (j:=14) Q9W (@underlying3) (hc 14 Q9R) ht).1;have k15:=(qbe (d:=6) (t:=39) (l:=2) (j:=15) Q9W (@underlying2) (hc 15 Q9R) ht).1;have k16:=(qbe (d:=6) (t:=39) (l:=2) (j:=16) Q9W (@underlying2) (hc 16 Q9R) ht).1;have k17:=(qbe (d:=6) (t:=39) (l:=2) (j:=17) Q9W (@underlying2) (hc 17 Q9R) ht).1;have k18:=(qbe (d:=6) (t:=39) (l:=2) (j:=18) Q9W (@underlying2) (hc 18 Q9R) ht).1;have k19:=(qbe (d:=6) (t:=39) (l:=2) (j:=19) Q9W (@underlying2) (hc 19 Q9R) ht).1
   have k20:=(qbe (d:=6) (t:=39) (l:=2) (j:=20) Q9W (@underlying2) (hc 20 Q9R) ht).1;obtain⟨v21,y21,n21,hv21,hy21⟩:=qiq 6 39 21 37 fuel cs x Q9W Q9R ht;obtain⟨u,bs,hu,hs⟩:=qs6 hy21;have k21:f (i*22+21)=uR u:=by
    have:=hc 21 Q9R;rw[hv21] at this;rw[<-hu];simpa using this.symm
   refine⟨⟨intOf (f (i*22+0)),intOf (f (i*22+1)),intOf (f (i*22+2)),intOf (f (i*22+3)),intOf (f (i*22+4)),intOf (f (i*22+5)),intOf (f (i*22+6)),intOf (f (i*22+7)),intOf (f (i*22+8)),intOf (f (i*22+9)),intOf (f (i*22+10)),intOf (f (i*22+11)),intOf (f (i*22+12)),intOf (f (i*22+13)),intOf (f (i*22+14)),intOf (f (i*22+15)),intOf (f (i*22+16)),intOf (f (i*22+17)),intOf (f (i*22+18)),intOf (f (i*22+19)),intOf (f (i*22+20)),u⟩,bs,hs,λj v hj=>?_⟩;have hj9:j<22:=by have:=(xe.1 hj).1;simpa using this
   match j,hj9 with
   | 0,_=>exact k0.trans Qa8
   | 1,_=>exact k1.trans Qa8
   | 2,_=>exact k2.trans Qa8
   | 3,_=>exact k3.trans Qa8
   | 4,_=>exact k4.trans Qa8
   | 5,_=>exact k5.trans Qa8
   | 6,_=>exact k6.trans Qa8
   | 7,_=>exact k7.trans Qa8
   | 8,_=>exact k8.trans Qa8
   | 9,_=>exact k9.trans Qa8
   | 10,_=>exact k10.trans Qa8
   | 11,_=>exact k11.trans Qa8
   | 12,_=>exact k12.trans Qa8
   | 13,_=>exact k13.trans Qa8
   | 14,_=>exact k14.trans Qa8
   | 15,_=>exact k15.trans Qa8
   | 16,_=>exact k16.trans Qa8
   | 17,_=>exact k17.trans Qa8
   | 18,_=>exact k18.trans Qa8
   | 19,_=>exact k19.trans Qa8
   | 20,_=>exact k20.trans Qa8
   | 21,_=>exact k21.trans Qa8
  refine .inr ⟨b,o,n,cap,λi=>if h:i<n then (key i h).choose else ⟨0,0,0,0,0,0,0,0,0,0,0,0,0,0,0,0,0,0,0,0,0,none⟩,λi=>if h:i<n then (key i h).choose_spec.choose else [],rfl,by simp only[maxLen] at hm;omega,h2,λi hi=>?_⟩;simp only[dif_pos hi];obtain⟨e1,e2⟩:=(key i hi).choose_spec.choose_spec;refine⟨e1,λj v hj=>?_⟩;have hj9:j<22:=by have:=(xe.1 hj).1;simpa using this
  obtain⟨x,hx,_,hc⟩:=hseg Q9R;obtain rfl:(⟨b,o,none⟩:Addr)=x:=by simpa using hx
  have:=hc (i*22+j) Q9R;rw[qdn,<-ye] at this;rw[this,e2 j v hj]
def bw(i:Nat):Nat:=4294967296^i
theorem qdm(i:Nat):bw (i+1)=bw i*4294967296:=yq ..
theorem qdg(i:Nat):0<bw i:=yd Q9V
theorem qc5:bw 0=1:=rfl
theorem qkf(i j:Nat):bw (i+j)=bw i*bw j:=yf ..
theorem qjx{j:Nat}(h:i<=j):bw i<=bw j:=yc Q9V h
def lm(v j:Nat):Nat:=v / bw j%4294967296
theorem jfz(v j:Nat):lm v j<4294967296:=xr _ Q9V
theorem qm9{v j:Nat}(h:v<bw j):lm v j=0:=by unfold lm;rw[xM h]
theorem qo2(v j:Nat):v / bw j=v / bw (j+1)*4294967296+lm v j:=by
 unfold lm;rw[qdm,<-ya];have:=xz (v / bw j) 4294967296;omega
theorem qhr(v j:Nat):v%bw (j+1)=v%bw j+lm v j*bw j:=by
 unfold lm;rw[qdm,Nat.mod_mul,xk (bw j)]
theorem qkg{v j:Nat}(h:j<i):lm (v%bw i) j=lm v j:=by
 unfold lm;obtain⟨d,rfl⟩:∃d,i=j+1+d:=⟨i-(j+1),by omega⟩;rw[qkf,qdm,xR,Nat.mod_mul_right_div_self,Nat.mod_mul_right_mod]
theorem jej{v j:Nat}(u:Nat)(h:j<i):lm (v+u*bw i) j=lm v j:=by
 rw[<-qkg h (v:=v+u*bw i),zJ,qkg h]
def nl:Nat->Nat
 | 0=>0
 | v+1=>nl ((v+1) / 4294967296)+1
decreasing_by exact Nat.div_lt_self Q9R Q9V
theorem qed:nl 0=0:=by unfold nl;rfl
theorem q6v{v:Nat}(h:0<v):nl v=nl (v / 4294967296)+1:=by
 obtain⟨u,rfl⟩:∃u,v=u+1:=⟨v-1,by omega⟩;rw[nl]
theorem nl_le:∀{n v:Nat},nl v<=n↔v<bw n
 | 0,v=>by
  rw[qc5];rcases xU v with rfl|h
  .rw[qed];simp
  .rw[q6v h];omega
 | n+1,v=>by
  rcases xU v with rfl|h
  .rw[qed];exact⟨λ_=>qdg _,λ_=>xi _⟩
  .rw[q6v h,qdm];have ih:=nl_le (n:=n) (v:=v / 4294967296);rw[xV Q9V] at ih;rw[<-ih];omega
theorem qby(v:Nat):v<bw (nl v):=nl_le.1 (nlr _)
variable{n:Nat}
theorem jp2{v:Nat}(h1:v<bw (n+1))(h2:bw n<=v):nl v=n+1:=by
 have:=nl_le.2 h1;have h3:¬ nl v<=n:=λh=>by have:=nl_le.1 h;omega
 omega
theorem nl_zero_iff{v:Nat}:nl v=0↔v=0:=by
 constructor
 .intro h;have:=nl_le.1 (yD h);rw[qc5] at this;omega
 .rintro rfl;exact qed
theorem q1n{v l:Nat}(h:v<bw (l+1)):lm v l=0↔v<bw l:=by
 constructor
 .intro h1;have:=qo2 v l;rw[xM h,h1] at this;rcases xP v (bw l) with h2|h2
  .exact h2
  .have:=(zj (qdg l)).2 (by rw[zh];exact h2);omega
 .exact qm9
theorem qvn(a b i:Nat):
  let c:=(a%bw i+b%bw i) / bw i;let t:=c+lm a i+lm b i
  lm (a+b) i=t%4294967296/\(a%bw (i+1)+b%bw (i+1)) / bw (i+1)=t / 4294967296/\c<=1:=by
 intro c t
 have hp:=qdg i
 have hc:c<=1:=by
  have h1:=xr a hp;have h2:=xr b hp;have:c<2:=(xV hp).2 Q9R;omega
 have he:(a+b) / bw i=c+a / bw i+b / bw i:=by
  have h1:=xz a (bw i);have h2:=xz b (bw i);have h3:a+b=(a%bw i+b%bw i)+(a / bw i+b / bw i)*bw i:=by
   rw[xy,xk (a / bw i),xk (b / bw i)];omega
  rw[h3,zH _ _ hp];omega
 refine⟨?_,?_,hc⟩
 .show(a+b) / bw i%4294967296=(c+a / bw i%4294967296+b / bw i%4294967296)%4294967296;rw[he];omega
 .have h1:(a%bw (i+1)+b%bw (i+1))=(a%bw i+b%bw i)+(lm a i+lm b i)*bw i:=by
   rw[qhr,qhr,xy];omega
  rw[h1,qdm,<-ya,zH _ _ hp];congr 1;show c+_=_;omega
theorem jgd(n:Int)(h0 : -9223372036854775808<=n)(h1:n<9223372036854775808):IntKind.i64.wrap n=n:=by rw[yu];omega
theorem ql8{v u:Value}(h:v=u)(hp:qam v=true):Re ix v u:=by subst h;exact .plain hp
theorem jf2{k:IntKind}{a:Int}(h:a=b):Value.int k a=.int k b:=by rw[h]
theorem ji6{k l l' c:Nat}(h:ixK ix k=some i)(e:l=l'):Re ix (.slice (some ⟨i,0,some 0⟩) l c) (.slice (some ⟨k,0,some 0⟩) l' c):=by subst e;exact .one (.slice h)
theorem MakeN.mk1{a:Int}{bytes size:Nat}{K:Nat->Nat->Prop}{K0:Prop}(n m:Nat)(ha:a=(n:Nat))(hb:b=(n:Nat))(h1:bytes*n<=281474976710656)(h2:n<=9223372036854775807)(hm:m=n*size)(k:K n m):N (MakeN a b bytes size K K0):=N.mk (.inl ⟨n,m,ha,hb,h1,h2,hm,k⟩)
abbrev jfj(o:Bool)(m v:Nat):Chunk:=⟨o,m,[(0,m,.agg ⟨segL m λj=>.int .u32 ((lm v j:Nat):Int)⟩)]⟩
def jfk(c:Chunk)(m v:Nat):Prop:=c.n=m/\∀j,j<m->c.f j=.int .u32 ((lm v j:Nat):Int)
theorem jfn(o:Bool)(m v:Nat):jfk (jfj o m v) m v:=⟨rfl,λj hj=>qa6 hj⟩
theorem qds{o:Bool}{v:Nat}(hc:jfk c m v):qbg ix c (jfj o m v):=λj hj=>by
 have hj:j<m:=hj;rw[qa6 hj,hc.2 j hj];exact .plain rfl
theorem qb1{o:Bool}{v p q:Nat}(h:p<m)(e:q=p):Reads (jfj o m v) q false 1 (.int .u32 ((lm v p:Nat):Int)):=by
 subst e;exact qmw h rfl rfl
theorem N.bnd{lo hi:Option Value}{len cap:Nat}{K:Nat->Nat->Nat->Prop}(p q s:Nat)(h1:Bnd hi len cap q)(h2:Bnd lo 0 q p)(k:K p q s):N (jl2 lo hi len cap K):=N.mk ⟨p,q,s,h1,h2,k⟩
theorem jek{x y:Nat}(h:y=x):Value.slice (some ⟨i,0+(if m=0 then 0 else 0*1),some 0⟩) (y-0) (m-0)=.slice (some ⟨i,0,some 0⟩) x m:=by
 subst h;simp
theorem jil(v m l i:Nat)(o:Chunk)(h:Hp)(hi:h[i]?=some (some o))(hin:jfk o m v)(hl:l<=m)(hm:m<=1000000)(hv:v<bw l):
  qae prog 136 [.slice (some ⟨i,0,some 0⟩) l m] h (.slice (some ⟨i,0,some 0⟩) (nl v) m) [] [i]:=by
 refine qak (G:=tys) [⟨i,_,jfj false m v,⟨false,0,[]⟩⟩] [] [.slice (some ⟨0,0,some 0⟩) l m] tysOK mixed func136 Q9S (call136) ⟨hi,xb⟩ Q8J Q9X xb ⟨.slice rfl,xb⟩ ?_
 repeat' (refine Ba ?_;first|refine Q5V ?_|refine Q5R ?_|fail)
 refine Ba ?_
 refine Bo (α:=Nat) (λx=>x<=l/\v<bw x) (λx=>x) (λx=>[(0,.slice (some ⟨0,0,some 0⟩) x m)]) (λ_=>[]) l ⟨nlr _,hv⟩ ?_ ?_
 .repeat (refine Ba ?_;first|exact Be|refine Q5W ?_|refine Q67 ?_|fail_if_success skip)
 .intro x hx;obtain⟨x1,x2⟩:=hx;rcases xU x with rfl|hp
  .have hv0:v=0:=by rw[qc5] at x2;omega
   subst hv0;repeat' (refine Ba ?_;first|refine Q5V ?_|refine Q5R ?_|refine Q66 ?_|refine Bc (ji6 Q9S qed) ?_|refine Bc xb ?_|exact Be|fail)
  .obtain⟨y,rfl⟩:∃y,x=y+1:=⟨x-1,by omega⟩;have e1:IntKind.i64.wrap (((y+1:Nat):Int)-1)=(y:Int):=by rw[jgd _ Q9R Q9R];omega
   by_cases h0:lm v y=0
   .have x3:=(q1n x2).1 h0;repeat' (refine Ba ?_;first|refine Q5V ?_|refine Q5R ?_|refine Q6U ?_|refine Bg (by rw[h0];rfl) ?_|refine Q64 ?_|refine N.bnd 0 y 0 ⟨e1,by omega⟩ rfl ?_|fail)
    refine Ba ?_;refine N.next y ⟨⟨by omega,x3⟩,by omega⟩ ?_;repeat (refine Ba ?_;first|exact Be|refine Q5W ?_|refine Q67 ?_|refine Bc (jek rfl) ?_|fail_if_success skip)
   .have x3:nl v=y+1:=jp2 x2 (by rcases xP v (bw y) with h|h;exact absurd (qm9 h) h0;exact h);repeat' (refine Ba ?_;first|refine Q5V ?_|refine Q5R ?_|refine Q6U ?_|refine Bf (by rw[beq_eq_false_iff_ne];omega) ?_|refine Q64 ?_|refine Bc (ji6 Q9S x3) ?_|refine Bc xb ?_|exact Be|fail)
def bn:Nat->Nat
 | 0=>0
 | v+1=>bn ((v+1) / 2)+1
decreasing_by exact Nat.div_lt_self Q9R Q9V
theorem qs7:bn 0=0:=by unfold bn;rfl
theorem q6w{v:Nat}(h:0<v):bn v=bn (v / 2)+1:=by
 obtain⟨u,rfl⟩:∃u,v=u+1:=⟨v-1,by omega⟩;rw[bn]
theorem jlo:∀(n v:Nat),v<2^n->bn v<=n
 | 0,v,h=>by
  obtain rfl:v=0:=by simpa using h
  rw[qs7];exact nlr _
 | n+1,v,h=>by
  rcases xU v with rfl|hv
  .rw[qs7];exact xi _
  .rw[q6w hv];have:=jlo n (v / 2) (by rw[yq] at h;omega);omega
theorem fd1(n:Nat):((n:Nat):Int).fdiv (2^sh 1 IntKind.u32)=((n / 2:Nat):Int):=by
 rw[show sh 1 IntKind.u32=1 by decide,zF _ Q9V];omega
theorem jlp(n:Nat):((n:Nat):Int).fdiv (2^sh 32 IntKind.u64)=((n / 4294967296:Nat):Int):=by
 rw[show sh 32 IntKind.u64=32 by decide,zF _ Q9V];omega
def bitn(v:Nat):Nat:=if v=0 then 0 else 32*(nl v-1)+bn (lm v (nl v-1))
theorem jan(v:Nat):bitn v<=32*nl v:=by
 unfold bitn;split
 .exact xi _
 .rename_i h;have h0:nl v≠0:=λe=>h (nl_zero_iff.1 e)
  have:=jlo 32 (lm v (nl v-1)) (jfz v _);omega
theorem qs8(v m i:Nat)(o:Chunk)(h:Hp)(hi:h[i]?=some (some o))(hin:jfk o m v)(hl:nl v<=m)(hm:m<=1000000):
  qae prog 137 [.slice (some ⟨i,0,some 0⟩) (nl v) m] h (xc (bitn v:Nat)) [] [i]:=by
 refine qak (G:=tys) [⟨i,_,jfj false m v,⟨false,0,[]⟩⟩] [] [.slice (some ⟨0,0,some 0⟩) (nl v) m] tysOK mixed func137 Q9S (call137) ⟨hi,xb⟩ Q8J Q9X xb ⟨.slice rfl,xb⟩ ?_
 rcases xU v with rfl|hp
 .rw[qed];repeat' (refine Ba ?_;first|refine Q5V ?_|refine Q5R ?_|refine Q6c ?_|refine Bc (ql8 (jf2 Q9V) rfl) ?_|refine Bc xb ?_|exact Be|fail)
 .have h0:nl v≠0:=λe=>by have:=nl_zero_iff.1 e;omega
  have hbv:bitn v=32*(nl v-1)+bn (lm v (nl v-1)):=by unfold bitn;rw[if_neg Q9R]
  have htop:=jfz v (nl v-1);obtain⟨y,hy⟩:∃y,nl v=y+1:=⟨nl v-1,by omega⟩;rw[hy] at hbv htop;rw[show y+1-1=y by omega] at hbv htop;rw[hbv,hy];rw[hy] at hl;generalize hT:lm v y=T at *;have hbT:=jlo 32 T htop;have e1:IntKind.i64.wrap (((y+1:Nat):Int)-1)=(y:Int):=by rw[jgd _ Q9R Q9R];omega
  repeat' (refine Ba ?_;first|refine Q5V ?_|refine Q5R ?_|refine Bf (by rw[beq_eq_false_iff_ne];omega) ?_|refine Q6U ?_|fail)
  refine Ba ?_;refine Bo (α:=Nat) (λx=>x<4294967296/\bn x<=bn T) (λx=>x) (λx=>[(3,xc ((32*y+(bn T-bn x):Nat):Int)),(4,.int .u32 (x:Int))]) (λ_=>[]) T ⟨htop,nlr _⟩ ?_ ?_
  .repeat (refine Ba ?_;first|exact Be|refine Q5W ?_|refine Q67 ?_|refine Bc (jf2 (by rw[e1,jgd _ Q9R Q9R];omega)) ?_|refine Bc (jf2 (by rw[hT])) ?_|fail_if_success skip)
  .intro x hx;obtain⟨x1,x2⟩:=hx;rcases xU x with rfl|hp
   .repeat' (refine Ba ?_;first|refine Q5V ?_|refine Q5R ?_|refine Q66 ?_|refine Bc (ql8 (jf2 (by rw[qs7];omega)) rfl) ?_|refine Bc xb ?_|exact Be|fail)
   .have e2:=q6w hp;repeat' (refine Ba ?_;first|refine Q5V ?_|refine Q5R ?_|refine Bg Qah ?_|fail)
    refine Ba ?_;refine N.next (x / 2) ⟨⟨by omega,by omega⟩,by omega⟩ ?_;repeat (refine Ba ?_;first|exact Be|refine Q5W ?_|refine Q67 ?_|refine Bc (jf2 (fd1 x)) ?_|refine Q7o ?_|fail_if_success skip)
theorem qvo{a b y:Nat}(h:a / bw (y+1)=b / bw (y+1)):(lm a y<lm b y->a<b)/\(lm a y=lm b y->a / bw y=b / bw y):=by
 have h1:=qo2 a y;have h2:=qo2 b y;refine⟨λh3=>?_,λh3=>by omega⟩;have h4:a / bw y<b / bw y:=by omega
 rcases xP a b with h5|h5
 .exact h5
 .have:=Nat.div_le_div_right (c:=bw y) h5;omega
theorem jm1{a b:Nat}(h:nl a<nl b):a<b:=by
 have h1:=qby a;rcases xP b (bw (nl a)) with h2|h2
 .have:=nl_le.2 h2;omega
 .omega
def jh0(a b:Nat):Int:=if a<b then -1 else if a=b then 0 else 1
theorem jr8(a b m q i j:Nat)(o o2:Chunk)(h:Hp)(hi:h[i]?=some (some o))(hin:jfk o m a)(hj:h[j]?=some (some o2))(hjn:jfk o2 q b)(hl:nl a<=m)(hm:m<=1000000)(hl2:nl b<=q)(hq:q<=1000000):
  qae prog 161 [.slice (some ⟨i,0,some 0⟩) (nl a) m,.slice (some ⟨j,0,some 0⟩) (nl b) q] h (xc (jh0 a b)) [] [i,j]:=by
 refine qak (G:=tys) [⟨i,_,jfj false m a,⟨false,0,[]⟩⟩,⟨j,_,jfj false q b,⟨false,0,[]⟩⟩] [] [.slice (some ⟨0,0,some 0⟩) (nl a) m,.slice (some ⟨1,0,some 0⟩) (nl b) q] tysOK mixed func161 Q9S (call161) ⟨hi,hj,xb⟩ Q86 Q9X xb Q8H ?_
 by_cases hne:nl a=nl b
 .repeat' (refine Ba ?_;first|refine Q5V ?_|refine Q5R ?_|refine Bf (by rw[hne];simp) ?_|fail)
  refine Ba ?_;refine Bo (α:=Nat) (λc=>c<=nl a/\a / bw c=b / bw c) (λx=>x) (λx=>[(5,xc ((x:Int)-1))]) (λ_=>[]) (nl a) ⟨nlr _,by rw[xM (qby a),hne,xM (qby b)]⟩ ?_ ?_
  .repeat (refine Ba ?_;first|exact Be|refine Q5W ?_|refine Q67 ?_|refine Bc (jf2 (by rw[jgd _ Q9R Q9R])) ?_|fail_if_success skip)
  .intro c hc;obtain⟨c1,c2⟩:=hc;rcases xU c with rfl|hp
   .have he:a=b:=by rw[qc5,yY,yY] at c2;exact c2
    have hr:jh0 a b=0:=by unfold jh0;rw[if_neg Q9R,if_pos he]
    repeat' (refine Ba ?_;first|refine Q5V ?_|refine Q5R ?_|refine Q66 ?_|refine Q7S ?_|exact Be|fail)
   .obtain⟨y,rfl⟩:∃y,c=y+1:=⟨c-1,by omega⟩;have e1:(((y+1:Nat):Int)-1)=(y:Int):=by omega
    have cw:=qvo c2;have cw2:=(qvo c2.symm).1;by_cases h1:lm a y=lm b y
    .repeat' (refine Ba ?_;first|refine Q5V ?_|refine Q5R ?_|refine Q6U ?_|refine Q64 ?_|refine Bf (by rw[h1];simp) ?_|fail)
     refine Ba ?_;refine N.next y ⟨⟨by omega,cw.2 h1⟩,by omega⟩ ?_;repeat (refine Ba ?_;first|exact Be|refine Q5W ?_|refine Q67 ?_|refine Q7o ?_|fail_if_success skip)
    .rcases xP (lm a y) (lm b y) with h2|h2
     .have hr:jh0 a b = -1:=by unfold jh0;rw[if_pos (cw.1 h2)]
      exact Q1Z
     .have:=cw2 Q9R;have hr:jh0 a b=1:=by unfold jh0;rw[if_neg Q9R,if_neg Q9R]
      exact Q1Z
 .rcases xP (nl a) (nl b) with h2|h2
  .have:=jm1 h2;have hr:jh0 a b = -1:=by unfold jh0;rw[if_pos Q9R]
   exact Q2e
  .have:=jm1 (show nl b<nl a by omega);have hr:jh0 a b=1:=by unfold jh0;rw[if_neg Q9R,if_neg Q9R]
   exact Q2e
open Go Go.RowKit Sx
theorem q6x{k l l' c:Nat}{r b:Bool}(h:ixK ix k=some i)(e:b=r)(e2:l=l'):Re ix (.agg ⟨[.bool r,.bool false,.slice (some ⟨i,0,some 0⟩) l c]⟩) (.agg ⟨[.bool b,.bool false,.slice (some ⟨k,0,some 0⟩) l' c]⟩):=by
 subst e e2;exact .one (.agg ⟨.plain rfl,.plain rfl,.slice h,xb⟩)
theorem qo3(v m l i:Nat)(s r:Bool)(hr:r=(s&&decide (0<v)))(o:Chunk)(h:Hp)(hi:h[i]?=some (some o))(hin:jfk o m v)(hl:l<=m)(hm:m<=31)(hv:v<bw l):
  qae prog 104 [.bool s,.slice (some ⟨i,0,some 0⟩) l m] h (.agg #[.bool r,.bool false,.slice (some ⟨i,0,some 0⟩) (nl v) m]) [] [i]:=by
 have hn:nl v<=l:=nl_le.2 hv
 have hb:=jan v
 refine qak (G:=tys) [⟨i,_,jfj false m v,⟨false,0,[]⟩⟩] [] [.bool s,.slice (some ⟨0,0,some 0⟩) l m] tysOK mixed func104 Q9S (call104) ⟨hi,xb⟩ Q8J Q9X xb ⟨.plain rfl,.slice rfl,xb⟩ ?_
 cases s with
 | false=>
  rw[Bool.false_and] at hr;subst hr;repeat' (refine Ba ?_;first|refine Q5V ?_|refine Q5R ?_|refine Q6Y ?_|refine Q60 ?_|refine Q7b ?_|refine Bc xb ?_|exact Be|fail)
 | true=>
  rw[Bool.true_and] at hr;rcases xU v with hz|hp
  .have hr:r=false:=by rw[hr,hz];rfl
   subst hr;have h0:nl v=0:=nl_zero_iff.2 hz;repeat' (refine Ba ?_;first|refine Q5V ?_|refine Q5R ?_|refine Q6Y ?_|refine Q60 ?_|refine Bc (q6x Q9S Qar rfl) ?_|refine Bc xb ?_|exact Be|fail)
  .rw[xg hp] at hr;subst hr;have h0:nl v≠0:=λe=>by have:=nl_zero_iff.1 e;omega
   repeat' (refine Ba ?_;first|refine Q5V ?_|refine Q5R ?_|refine Q6Y ?_|refine Q60 ?_|refine Bc (q6x Q9S Qb7 rfl) ?_|refine Bc xb ?_|exact Be|fail)
theorem qfx(h:n<18446744073709551616):n<bw 2/\nl n<=2:=by
 have:bw 2=18446744073709551616:=by decide
 exact⟨by omega,nl_le.2 Q9R⟩
theorem qvp{o:Bool}{x y:Int}(hx:x=((n%4294967296:Nat):Int))(hy:y=((n / 4294967296%4294967296:Nat):Int)):jfk ⟨o,2,[(0,2,.agg ⟨[.int .u32 x,.int .u32 y]⟩)]⟩ 2 n:=⟨rfl,λj hj=>by
 subst hx hy
 match j,hj with
 | 0,_=>unfold lm;rw[qc5,yY];rfl
 | 1,_=>rfl⟩
theorem qhs{h:Hp}{k v:Nat}(hh:h[k]?=some (some c))(ho:c.own=true)(hc:jfk c m v):PostC ix h k (jfj true m v):=
 ⟨c,hh,λ_=>ho,yD hc.1.symm,λj hj=>by
  have hj:j<m:=hj;rw[qa6 hj,hc.2 j hj];exact .plain rfl⟩
theorem w32(n:Nat):IntKind.u32.wrap (n:Int)=((n%4294967296:Nat):Int):=by rw[wrap_u32];omega
theorem w64(h:n<18446744073709551616):IntKind.u64.wrap (n:Int)=(n:Int):=by rw[xn];omega
theorem jr9(n K:Nat)(h:Hp)(h0:h[K]?=some none)(hn:n<9223372036854775808):
  qae prog 68 [xc (n:Int)] h (.agg #[.bool false,.bool false,.slice (some ⟨K,0,some 0⟩) (nl n) 2]) [(K,jfj true 2 n)] []:=by
 have h2:=qfx (n:=n) Q9R
 refine qak (G:=tys) [] [⟨K,1,jfj true 2 n⟩] [xc (n:Int)] tysOK mixed func68 Q9S (call68) xb xb xb ⟨⟨h0,rfl,by show 0<2;decide,by simp⟩,xb⟩ ⟨.plain rfl,xb⟩ ?_
 repeat' (refine Ba ?_;first|refine Q5V ?_|refine Q5R ?_|refine Bb (qo3 n 2 2 _ false false rfl _ _ Q9S (qvp (by rw[w64 Q9R,w32]) (by rw[w64 Q9R,jlp,w32])) Q9R Q9R h2.1) ?_|refine Q60 ?_|refine Q7b ?_|refine Bc ⟨⟨xi _,qhs Q9S rfl (qvp (by rw[w64 Q9R,w32]) (by rw[w64 Q9R,jlp,w32]))⟩,xb⟩ ?_|refine Bc xb ?_|exact Be|fail)
theorem qje{o:Bool}:ChunkLe (jfj o m 0) ⟨o,m,[(0,m,.agg ⟨segL m (jf0 1 (.int .u32 0))⟩)]⟩:=.mk id (nlr _) λj hj=>by
 have hj:j<m:=hj;rw[qa6 hj,qa6 hj];unfold jf0 lm;rw[yr,Nat.zero_div];rfl
theorem jm2(v i j:Nat)(h:i<=j):lm (v%bw i) j=0:=qm9 (xl (xr _ (qdg i)) (qjx h))
theorem qcj{v q:Nat}{x:Int}(e:q=i)(h:i<m)(hx:x=((lm v i:Nat):Int)):Writes (jfj true m (v%bw i)) q 1 (.int .u32 x) (jfj true m (v%bw (i+1))):=by
 subst e hx;refine⟨rfl,by show q+1<=m;omega,rfl,λj hj=>?_⟩;have hj:j<m:=hj;rw[qa6 hj,qa6 hj];rcases Nat.lt_trichotomy j q with h1|h1|h1
 .rw[if_neg Q9R,qkg h1,qkg Q9R]
 .subst h1;rw[if_pos Q9R,Nat.sub_self,qkg Q9R];rfl
 .rw[if_neg Q9R,jm2 _ _ _ Q9R,jm2 _ _ _ Q9R]
theorem jao(v i j:Nat):lm (v / bw i*bw i) j=if i<=j then lm v j else 0:=by
 by_cases h:i<=j
 .rw[if_pos h];unfold lm;obtain⟨d,rfl⟩:∃d,j=i+d:=⟨j-i,by omega⟩;rw[qkf,<-ya,zL _ (qdg i),ya]
 .rw[if_neg h];unfold lm;obtain⟨d,rfl⟩:∃d,i=j+1+d:=⟨i-(j+1),by omega⟩;rw[qkf,qdm];generalize v / (bw j*4294967296*bw d)=q;rw[show q*(bw j*4294967296*bw d)=q*bw d*4294967296*bw j by rw[xR (bw j),xk (bw j),<-xR,xk 4294967296,<-xR],zL _ (qdg j)];exact Nat.mul_mod_left _ _
end Go.Proofs.YtfkngpmgcimdbaaGreat
